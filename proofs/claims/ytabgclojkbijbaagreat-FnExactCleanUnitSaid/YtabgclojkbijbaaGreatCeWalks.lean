/- A part of the proof of FnExactCleanUnitSaid. -/
import Derived.Test.YtabgclojkbijbaaGreatCeWalksB
namespace Go.Proofs.YtabgclojkbijbaaGreat
open Go Go.Wk Go.RowKit
set_option maxRecDepth 4000
set_option maxHeartbeats 4000000
open Tryz
theorem laws_eqIntS_ok (w0 : World) (a_ : List Int) (v1 : Value) (h1 : GT.rep (hp w0) [v1] a_) (b_ : List Int) (v2 : Value) (h2 : GT.rep (hp w0) [v2] b_) :
    ConM Tryz.prog 316 [v1, v2] w0 (laws_eqIntS a_ b_) fun r v w' => v = (.bool (r)) ∧ Below w0.heap.size w0 w' := by
  unfold laws_eqIntS
  refine gcon func316 rfl fun r => ?_
  have hm := Mem.start w0
  refine gS (gR (gA rfl (gE (gS (gS (gR (gM rfl ?_)))))))
  obtain ⟨aE, aF, rfl, aQ⟩ := ro_slice h1
  refine gY (yV st_43 rfl) (gM rfl ?_)
  obtain ⟨aG, aH, rfl, aR⟩ := ro_slice h2
  refine gY (yV st_43 rfl) (gB rfl (gE (gsd 10 rfl (fun aI => ?_) fun aI => ?_)))
  ·exact gct rfl (gS (gR (gA rfl (gE (gRt (gr1 results316 rfl ⟨rfl, hm.below⟩))))))
  refine gcf rfl (gSk (gS (gS (gR (gA rfl (gE (gBk (gNf hm (fun aA aD => [(0, (.slice aE a_.length aF)), (1, (.slice aG b_.length aH)), (5, (nV aA))]) (fun aA aD => []) [] rfl ?_ ?_))))))))
  ·repeat clear hm
   intro aS aJ aA aD w hm aT aV aW aK
   refine gS (gS (gR (gM rfl (gM rfl (gY (yV st_43 rfl) (gB rfl (gE (go _ 14 rfl (decide_eq_true (by omega)) (gct rfl (gSk (gS (gBk (gS (gW (.p 0 (.p 1 (.p 2 (.p 4 (.p 5 (.p 6 (.q 3 (.e 7 (.p 8 .fin) .nil)))))))) [7] [0, 1, 2, 4, 5, 6, 8] hm [] [] rfl mxo (by kernel_rfl) (fun _ _ _ h => h.2) fun w hm hS => tP rfl (fun w => yM rfl) (tP rfl (fun w => yM rfl) (gg fun aL aM aB => ?_))))))))))))))))
   obtain ⟨aX, aY, aZ, he⟩ := idx_form h1 aB
   obtain ⟨rfl, _, rfl⟩ := sl3 he
   refine tP rfl (fun w => yI st_43 aM (idx_lt aB) rfl) (tP rfl (fun w => yM rfl) (tP rfl (fun w => yM rfl) (gg fun aN aO aC => ?_)))
   obtain ⟨aa, ab, ac, he⟩ := idx_form h2 aC
   obtain ⟨rfl, _, rfl⟩ := sl3 he
   refine tP rfl (fun w => yI st_43 aO (idx_lt aC) rfl) (tQ rfl hS (fun w hm => yl isAgg3 ((flat_cells (cs := [nV aL]) (hm.now h1) aB rfl).cell (j := 0) rfl) rfl) (tO (tY rfl (yl isAgg3 ((flat_cells (cs := [nV aN]) (hm.now h2) aC rfl).cell (j := 0) rfl) rfl) (tAs hS (tP rfl (fun w => yB rfl) (tE (gsd 25 rfl (fun aP => ?_) fun aP => ?_)))))))
   ·exact gct rfl (gS (gR (gA rfl (gE (gRt (gLr aK aJ (gr1 results316 rfl ⟨rfl, hm.below⟩)))))))
   exact gcf rfl (gSk (gR (gM rfl (gP (by omega) (by omega) rfl (gA rfl (gE (gze hm [] rfl)))))))
  repeat clear hm
  intro ae af w hm ag ah
  exact gS (gS (gR (gM rfl (gM rfl (gY (yV st_43 rfl) (gB rfl (gE (go _ 14 rfl (decide_eq_false (by omega)) (gcf rfl (gXt (gHh (gS (gR (gA rfl (gE (gRt (gr1 results316 rfl ⟨rfl, hm.below⟩)))))))))))))))))
theorem laws_eqPhi_ok (w0 : World) (a_ : Phi_) (v1 : Value) (h1 : GT.rep (hp w0) [v1] a_.args) (b_ : Phi_) (v2 : Value) (h2 : GT.rep (hp w0) [v2] b_.args) :
    ConM Tryz.prog 344 [(.agg #[nV a_.to, v1]), (.agg #[nV b_.to, v2])] w0 (laws_eqPhi a_ b_) fun r v w' => v = (.bool (r)) ∧ Below w0.heap.size w0 w' := by
  unfold laws_eqPhi
  refine gcon func344 rfl fun r => ?_
  have hm := Mem.start w0
  refine gS (gR (gBx hm rfl fun aC w hm => gBx hm rfl fun aD w hm => gA rfl (gE (gS (gS (gR (gF fo_127_0 rfl (gL hm 1 isAgg3 rfl (gF fo_127_0 rfl (gL hm 0 isAgg3 rfl (gB rfl (gE (gsd 9 rfl (fun aA => ?_) fun aA => ?_)))))))))))))
  ·exact gct rfl (gS (gR (gA rfl (gE (gRt (gr1 results344 rfl ⟨rfl, hm.below⟩))))))
  refine gcf rfl (gSk (gS (gS (gR (gF fo_127_1 rfl (gL hm 1 isAgg43 rfl (gF fo_127_1 rfl (gL hm 0 isAgg43 rfl (gC hm rfl call316 (laws_eqIntS_ok _ a_.args v1 (hm.now h1) b_.args v2 (hm.now h2)) fun aE aF w hm => gN rfl (gE (gsn 15 rfl (fun aB => ?_) fun aB => ?_)))))))))))
  ·exact gct rfl (gS (gR (gA rfl (gE (gRt (gr1 results344 rfl ⟨rfl, hm.below⟩))))))
  exact gcf rfl (gSk (gS (gR (gA rfl (gE (gRt (gr1 results344 rfl ⟨rfl, hm.below⟩)))))))
theorem laws_eqPhiS_ok (w0 : World) (a_ : List Phi_) (v1 : Value) (h1 : GT.rep (hp w0) [v1] a_) (b_ : List Phi_) (v2 : Value) (h2 : GT.rep (hp w0) [v2] b_) :
    ConM Tryz.prog 314 [v1, v2] w0 (laws_eqPhiS a_ b_) fun r v w' => v = (.bool (r)) ∧ Below w0.heap.size w0 w' := by
  unfold laws_eqPhiS
  refine gcon func314 rfl fun r => ?_
  have hm := Mem.start w0
  refine gS (gR (gA rfl (gE (gS (gS (gR (gM rfl ?_)))))))
  obtain ⟨aE, aF, rfl, aY⟩ := ro_slice h1
  refine gY (yV st_60 rfl) (gM rfl ?_)
  obtain ⟨aG, aH, rfl, aZ⟩ := ro_slice h2
  refine gY (yV st_60 rfl) (gB rfl (gE (gsd 10 rfl (fun aI => ?_) fun aI => ?_)))
  ·exact gct rfl (gS (gR (gA rfl (gE (gRt (gr1 results314 rfl ⟨rfl, hm.below⟩))))))
  refine gcf rfl (gSk (gS (gS (gR (gA rfl (gE (gBk (gNf hm (fun aA aD => [(0, (.slice aE a_.length aF)), (1, (.slice aG b_.length aH)), (5, (nV aA))]) (fun aA aD => []) [] rfl ?_ ?_))))))))
  ·repeat clear hm
   intro aa aJ aA aD w hm ab ac ae aK
   refine gS (gS (gR (gM rfl (gM rfl (gY (yV st_60 rfl) (gB rfl (gE (go _ 14 rfl (decide_eq_true (by omega)) (gct rfl (gSk (gS (gBk (gS (gW (.p 0 (.p 1 (.p 2 (.p 4 (.p 5 (.p 6 (.q 3 (.e 7 (.e 8 (.p 9 .fin) .nil) .nil)))))))) [7] [0, 1, 2, 4, 5, 6, 9] hm [] [] rfl mxo (by kernel_rfl) (fun _ _ _ h => h.2) fun w hm hS => tP rfl (fun w => yM rfl) (tP rfl (fun w => yM rfl) (gg fun aL aM aB => ?_))))))))))))))))
   obtain ⟨af, ag, ah, he⟩ := idx_form' h1 aB
   obtain ⟨rfl, _, rfl⟩ := sl3 he
   obtain ⟨aN, aO, aP⟩ := rk_Phi_ h1 aB
   refine tP rfl (fun w => yI st_60 aM (idx_lt aB) rfl) (tP rfl (fun w => yM rfl) (tP rfl (fun w => yM rfl) (gg fun aQ aR aC => ?_)))
   obtain ⟨ai, aj, ak, he⟩ := idx_form' h2 aC
   obtain ⟨rfl, _, rfl⟩ := sl3 he
   obtain ⟨aS, aT, aV⟩ := rk_Phi_ h2 aC
   refine tP rfl (fun w => yI st_60 aR (idx_lt aC) rfl) (tQ rfl hS (fun w hm => yn (aO.mono hm.lez) isAgg127 sizeOf127 rfl) (tO (tY rfl (yn (aT.mono hm.lez) isAgg127 sizeOf127 rfl) (tAs hS (tO (gb fun am aW => tf rfl rfl (fun a hf => e_call hf rfl call344 rfl (laws_eqPhi_ok _ aL aN (hm.now aP) aQ aS (hm.now aV) _ aW)) ?_))))))
   rintro an w ⟨rfl, hB⟩
   replace hm := hm.below' hB; clear hB
   refine tAn rfl (tP rfl (fun w => yN rfl) (tE (gsn 26 rfl (fun aX => ?_) fun aX => ?_)))
   ·exact gct rfl (gS (gR (gA rfl (gE (gRt (gLr aK aJ (gr1 results314 rfl ⟨rfl, hm.below⟩)))))))
   exact gcf rfl (gSk (gR (gM rfl (gP (by omega) (by omega) rfl (gA rfl (gE (gze hm [] rfl)))))))
  repeat clear hm
  intro ao ap w hm aq ar
  exact gS (gS (gR (gM rfl (gM rfl (gY (yV st_60 rfl) (gB rfl (gE (go _ 14 rfl (decide_eq_false (by omega)) (gcf rfl (gXt (gHh (gS (gR (gA rfl (gE (gRt (gr1 results314 rfl ⟨rfl, hm.below⟩)))))))))))))))))
theorem laws_eqIns_ok (w0 : World) (a_ : Ins_) (v1 : Value) (h1 : GT.rep (hp w0) [v1] a_.args) (b_ : Ins_) (v2 : Value) (h2 : GT.rep (hp w0) [v2] b_.args) :
    ConM Tryz.prog 345 [(.agg #[nV a_.op, nV a_.to, v1, nV a_.n_]), (.agg #[nV b_.op, nV b_.to, v2, nV b_.n_])] w0 (laws_eqIns a_ b_) fun r v w' => v = (.bool (r)) ∧ Below w0.heap.size w0 w' := by
  unfold laws_eqIns
  refine gcon func345 rfl fun r => ?_
  have hm := Mem.start w0
  refine gS (gR (gBx hm rfl fun aE w hm => gBx hm rfl fun aF w hm => gA rfl (gE (gS (gS (gR (gF fo_65_0 rfl (gL hm 1 isAgg3 rfl (gF fo_65_0 rfl (gL hm 0 isAgg3 rfl (gB rfl (gE (gsd 9 rfl (fun aA => ?_) fun aA => ?_)))))))))))))
  ·exact gct rfl (gS (gR (gA rfl (gE (gRt (gr1 results345 rfl ⟨rfl, hm.below⟩))))))
  refine gcf rfl (gSk (gS (gS (gR (gF fo_65_1 rfl (gL hm 1 isAgg3 rfl (gF fo_65_1 rfl (gL hm 0 isAgg3 rfl (gB rfl (gE (gsd 14 rfl (fun aB => ?_) fun aB => ?_)))))))))))
  ·exact gct rfl (gS (gR (gA rfl (gE (gRt (gr1 results345 rfl ⟨rfl, hm.below⟩))))))
  refine gcf rfl (gSk (gS (gS (gR (gF fo_65_2 rfl (gL hm 1 isAgg43 rfl (gF fo_65_2 rfl (gL hm 0 isAgg43 rfl (gC hm rfl call316 (laws_eqIntS_ok _ a_.args v1 (hm.now h1) b_.args v2 (hm.now h2)) fun aG aH w hm => gN rfl (gE (gsn 20 rfl (fun aC => ?_) fun aC => ?_)))))))))))
  ·exact gct rfl (gS (gR (gA rfl (gE (gRt (gr1 results345 rfl ⟨rfl, hm.below⟩))))))
  refine gcf rfl (gSk (gS (gS (gR (gF fo_65_3 rfl (gL hm 1 isAgg3 rfl (gF fo_65_3 rfl (gL hm 0 isAgg3 rfl (gB rfl (gE (gsd 25 rfl (fun aD => ?_) fun aD => ?_)))))))))))
  ·exact gct rfl (gS (gR (gA rfl (gE (gRt (gr1 results345 rfl ⟨rfl, hm.below⟩))))))
  exact gcf rfl (gSk (gS (gR (gA rfl (gE (gRt (gr1 results345 rfl ⟨rfl, hm.below⟩)))))))
theorem laws_eqInsS_ok (w0 : World) (a_ : List Ins_) (v1 : Value) (h1 : GT.rep (hp w0) [v1] a_) (b_ : List Ins_) (v2 : Value) (h2 : GT.rep (hp w0) [v2] b_) :
    ConM Tryz.prog 315 [v1, v2] w0 (laws_eqInsS a_ b_) fun r v w' => v = (.bool (r)) ∧ Below w0.heap.size w0 w' := by
  unfold laws_eqInsS
  refine gcon func315 rfl fun r => ?_
  have hm := Mem.start w0
  refine gS (gR (gA rfl (gE (gS (gS (gR (gM rfl ?_)))))))
  obtain ⟨aE, aF, rfl, aY⟩ := ro_slice h1
  refine gY (yV st_61 rfl) (gM rfl ?_)
  obtain ⟨aG, aH, rfl, aZ⟩ := ro_slice h2
  refine gY (yV st_61 rfl) (gB rfl (gE (gsd 10 rfl (fun aI => ?_) fun aI => ?_)))
  ·exact gct rfl (gS (gR (gA rfl (gE (gRt (gr1 results315 rfl ⟨rfl, hm.below⟩))))))
  refine gcf rfl (gSk (gS (gS (gR (gA rfl (gE (gBk (gNf hm (fun aA aD => [(0, (.slice aE a_.length aF)), (1, (.slice aG b_.length aH)), (5, (nV aA))]) (fun aA aD => []) [] rfl ?_ ?_))))))))
  ·repeat clear hm
   intro aa aJ aA aD w hm ab ac ae aK
   refine gS (gS (gR (gM rfl (gM rfl (gY (yV st_61 rfl) (gB rfl (gE (go _ 14 rfl (decide_eq_true (by omega)) (gct rfl (gSk (gS (gBk (gS (gW (.p 0 (.p 1 (.p 2 (.p 4 (.p 5 (.p 6 (.q 3 (.e 7 (.e 8 (.p 9 .fin) .nil) .nil)))))))) [7] [0, 1, 2, 4, 5, 6, 9] hm [] [] rfl mxo (by kernel_rfl) (fun _ _ _ h => h.2) fun w hm hS => tP rfl (fun w => yM rfl) (tP rfl (fun w => yM rfl) (gg fun aL aM aB => ?_))))))))))))))))
   obtain ⟨af, ag, ah, he⟩ := idx_form' h1 aB
   obtain ⟨rfl, _, rfl⟩ := sl3 he
   obtain ⟨aN, aO, aP⟩ := rk_Ins_ h1 aB
   refine tP rfl (fun w => yI st_61 aM (idx_lt aB) rfl) (tP rfl (fun w => yM rfl) (tP rfl (fun w => yM rfl) (gg fun aQ aR aC => ?_)))
   obtain ⟨ai, aj, ak, he⟩ := idx_form' h2 aC
   obtain ⟨rfl, _, rfl⟩ := sl3 he
   obtain ⟨aS, aT, aV⟩ := rk_Ins_ h2 aC
   refine tP rfl (fun w => yI st_61 aR (idx_lt aC) rfl) (tQ rfl hS (fun w hm => yn (aO.mono hm.lez) isAgg65 sizeOf65 rfl) (tO (tY rfl (yn (aT.mono hm.lez) isAgg65 sizeOf65 rfl) (tAs hS (tO (gb fun am aW => tf rfl rfl (fun a hf => e_call hf rfl call345 rfl (laws_eqIns_ok _ aL aN (hm.now aP) aQ aS (hm.now aV) _ aW)) ?_))))))
   rintro an w ⟨rfl, hB⟩
   replace hm := hm.below' hB; clear hB
   refine tAn rfl (tP rfl (fun w => yN rfl) (tE (gsn 26 rfl (fun aX => ?_) fun aX => ?_)))
   ·exact gct rfl (gS (gR (gA rfl (gE (gRt (gLr aK aJ (gr1 results315 rfl ⟨rfl, hm.below⟩)))))))
   exact gcf rfl (gSk (gR (gM rfl (gP (by omega) (by omega) rfl (gA rfl (gE (gze hm [] rfl)))))))
  repeat clear hm
  intro ao ap w hm aq ar
  exact gS (gS (gR (gM rfl (gM rfl (gY (yV st_61 rfl) (gB rfl (gE (go _ 14 rfl (decide_eq_false (by omega)) (gcf rfl (gXt (gHh (gS (gR (gA rfl (gE (gRt (gr1 results315 rfl ⟨rfl, hm.below⟩)))))))))))))))))
theorem laws_eqBlock_ok (w0 : World) (a_ : Block_) (v1 : Value) (h1 : GT.rep (hp w0) [v1] a_.phis) (v2 : Value) (h2 : GT.rep (hp w0) [v2] a_.ins) (v3 : Value) (h3 : GT.rep (hp w0) [v3] a_.next_) (b_ : Block_) (v4 : Value) (h4 : GT.rep (hp w0) [v4] b_.phis) (v5 : Value) (h5 : GT.rep (hp w0) [v5] b_.ins) (v6 : Value) (h6 : GT.rep (hp w0) [v6] b_.next_) :
    ConM Tryz.prog 246 [(.agg #[v1, v2, nV a_.jump, nV a_.on, v3]), (.agg #[v4, v5, nV b_.jump, nV b_.on, v6])] w0 (laws_eqBlock a_ b_) fun r v w' => v = (.bool (r)) ∧ Below w0.heap.size w0 w' := by
  unfold laws_eqBlock
  refine gcon func246 rfl fun r => ?_
  have hm := Mem.start w0
  refine gS (gR (gBx hm rfl fun aF w hm => gBx hm rfl fun aG w hm => gA rfl (gE (gS (gS (gR (gF fo_63_0 rfl (gL hm 1 isAgg60 rfl (gF fo_63_0 rfl (gL hm 0 isAgg60 rfl (gC hm rfl call314 (laws_eqPhiS_ok _ a_.phis v1 (hm.now h1) b_.phis v4 (hm.now h4)) fun aH aI w hm => gN rfl (gE (gsn 10 rfl (fun aA => ?_) fun aA => ?_)))))))))))))
  ·exact gct rfl (gS (gR (gA rfl (gE (gRt (gr1 results246 rfl ⟨rfl, hm.below⟩))))))
  refine gcf rfl (gSk (gS (gS (gR (gF fo_63_1 rfl (gL hm 1 isAgg61 rfl (gF fo_63_1 rfl (gL hm 0 isAgg61 rfl (gC hm rfl call315 (laws_eqInsS_ok _ a_.ins v2 (hm.now h2) b_.ins v5 (hm.now h5)) fun aJ aK w hm => gN rfl (gE (gsn 16 rfl (fun aB => ?_) fun aB => ?_)))))))))))
  ·exact gct rfl (gS (gR (gA rfl (gE (gRt (gr1 results246 rfl ⟨rfl, hm.below⟩))))))
  refine gcf rfl (gSk (gS (gS (gR (gF fo_63_2 rfl (gL hm 1 isAgg3 rfl (gF fo_63_2 rfl (gL hm 0 isAgg3 rfl (gB rfl (gE (gsd 21 rfl (fun aC => ?_) fun aC => ?_)))))))))))
  ·exact gct rfl (gS (gR (gA rfl (gE (gRt (gr1 results246 rfl ⟨rfl, hm.below⟩))))))
  refine gcf rfl (gSk (gS (gS (gR (gF fo_63_3 rfl (gL hm 1 isAgg3 rfl (gF fo_63_3 rfl (gL hm 0 isAgg3 rfl (gB rfl (gE (gsd 26 rfl (fun aD => ?_) fun aD => ?_)))))))))))
  ·exact gct rfl (gS (gR (gA rfl (gE (gRt (gr1 results246 rfl ⟨rfl, hm.below⟩))))))
  refine gcf rfl (gSk (gS (gS (gR (gF fo_63_4 rfl (gL hm 1 isAgg43 rfl (gF fo_63_4 rfl (gL hm 0 isAgg43 rfl (gC hm rfl call316 (laws_eqIntS_ok _ a_.next_ v3 (hm.now h3) b_.next_ v6 (hm.now h6)) fun aL aM w hm => gN rfl (gE (gsn 32 rfl (fun aE => ?_) fun aE => ?_)))))))))))
  ·exact gct rfl (gS (gR (gA rfl (gE (gRt (gr1 results246 rfl ⟨rfl, hm.below⟩))))))
  exact gcf rfl (gSk (gS (gR (gA rfl (gE (gRt (gr1 results246 rfl ⟨rfl, hm.below⟩)))))))
theorem laws_eqBlockS_ok (w0 : World) (a_ : List Block_) (v1 : Value) (h1 : GT.rep (hp w0) [v1] a_) (b_ : List Block_) (v2 : Value) (h2 : GT.rep (hp w0) [v2] b_) :
    ConM Tryz.prog 168 [v1, v2] w0 (laws_eqBlockS a_ b_) fun r v w' => v = (.bool (r)) ∧ Below w0.heap.size w0 w' := by
  unfold laws_eqBlockS
  refine gcon func168 rfl fun r => ?_
  have hm := Mem.start w0
  refine gS (gR (gA rfl (gE (gS (gS (gR (gM rfl ?_)))))))
  obtain ⟨aE, aF, rfl, ah⟩ := ro_slice h1
  refine gY (yV st_47 rfl) (gM rfl ?_)
  obtain ⟨aG, aH, rfl, ai⟩ := ro_slice h2
  refine gY (yV st_47 rfl) (gB rfl (gE (gsd 10 rfl (fun aI => ?_) fun aI => ?_)))
  ·exact gct rfl (gS (gR (gA rfl (gE (gRt (gr1 results168 rfl ⟨rfl, hm.below⟩))))))
  refine gcf rfl (gSk (gS (gS (gR (gA rfl (gE (gBk (gNf hm (fun aA aD => [(0, (.slice aE a_.length aF)), (1, (.slice aG b_.length aH)), (5, (nV aA))]) (fun aA aD => []) [] rfl ?_ ?_))))))))
  ·repeat clear hm
   intro aj aJ aA aD w hm ak am an aK
   refine gS (gS (gR (gM rfl (gM rfl (gY (yV st_47 rfl) (gB rfl (gE (go _ 14 rfl (decide_eq_true (by omega)) (gct rfl (gSk (gS (gBk (gS (gW (.p 0 (.p 1 (.p 2 (.p 4 (.p 5 (.p 6 (.q 3 (.e 7 (.e 8 (.p 9 .fin) .nil) .nil)))))))) [7] [0, 1, 2, 4, 5, 6, 9] hm [] [] rfl mxo (by kernel_rfl) (fun _ _ _ h => h.2) fun w hm hS => tP rfl (fun w => yM rfl) (tP rfl (fun w => yM rfl) (gg fun aL aM aB => ?_))))))))))))))))
   obtain ⟨ao, ap, aq, he⟩ := idx_form' h1 aB
   obtain ⟨rfl, _, rfl⟩ := sl3 he
   obtain ⟨aN, aO, aP, aQ, aR, aS, aT⟩ := rk_Block_ h1 aB
   refine tP rfl (fun w => yI st_47 aM (idx_lt aB) rfl) (tP rfl (fun w => yM rfl) (tP rfl (fun w => yM rfl) (gg fun aV aW aC => ?_)))
   obtain ⟨ar, au, av, he⟩ := idx_form' h2 aC
   obtain ⟨rfl, _, rfl⟩ := sl3 he
   obtain ⟨aX, aY, aZ, aa, ab, ac, ae⟩ := rk_Block_ h2 aC
   refine tP rfl (fun w => yI st_47 aW (idx_lt aC) rfl) (tQ rfl hS (fun w hm => yn (aQ.mono hm.lez) isAgg63 sizeOf63 rfl) (tO (tY rfl (yn (aa.mono hm.lez) isAgg63 sizeOf63 rfl) (tAs hS (tO (gb fun aw af => tf rfl rfl (fun a hf => e_call hf rfl call246 rfl (laws_eqBlock_ok _ aL aN (hm.now aR) aO (hm.now aS) aP (hm.now aT) aV aX (hm.now ab) aY (hm.now ac) aZ (hm.now ae) _ af)) ?_))))))
   rintro ax w ⟨rfl, hB⟩
   replace hm := hm.below' hB; clear hB
   refine tAn rfl (tP rfl (fun w => yN rfl) (tE (gsn 26 rfl (fun ag => ?_) fun ag => ?_)))
   ·exact gct rfl (gS (gR (gA rfl (gE (gRt (gLr aK aJ (gr1 results168 rfl ⟨rfl, hm.below⟩)))))))
   exact gcf rfl (gSk (gR (gM rfl (gP (by omega) (by omega) rfl (gA rfl (gE (gze hm [] rfl)))))))
  repeat clear hm
  intro ay az w hm bA bB
  exact gS (gS (gR (gM rfl (gM rfl (gY (yV st_47 rfl) (gB rfl (gE (go _ 14 rfl (decide_eq_false (by omega)) (gcf rfl (gXt (gHh (gS (gR (gA rfl (gE (gRt (gr1 results168 rfl ⟨rfl, hm.below⟩)))))))))))))))))
theorem laws_eqCode_ok (w0 : World) (a_ : Code_) (v1 : Value) (h1 : GT.rep (hp w0) [v1] a_.blocks) (b_ : Code_) (v2 : Value) (h2 : GT.rep (hp w0) [v2] b_.blocks) :
    ConM Tryz.prog 103 [(.agg #[nV a_.params, nV a_.regs, v1]), (.agg #[nV b_.params, nV b_.regs, v2])] w0 (laws_eqCode a_ b_) fun r v w' => v = (.bool (r)) ∧ Below w0.heap.size w0 w' := by
  unfold laws_eqCode
  refine gcon func103 rfl fun r => ?_
  have hm := Mem.start w0
  refine gS (gR (gBx hm rfl fun aD w hm => gBx hm rfl fun aE w hm => gA rfl (gE (gS (gS (gR (gF fo_49_0 rfl (gL hm 1 isAgg3 rfl (gF fo_49_0 rfl (gL hm 0 isAgg3 rfl (gB rfl (gE (gsd 9 rfl (fun aA => ?_) fun aA => ?_)))))))))))))
  ·exact gct rfl (gS (gR (gA rfl (gE (gRt (gr1 results103 rfl ⟨rfl, hm.below⟩))))))
  refine gcf rfl (gSk (gS (gS (gR (gF fo_49_1 rfl (gL hm 1 isAgg3 rfl (gF fo_49_1 rfl (gL hm 0 isAgg3 rfl (gB rfl (gE (gsd 14 rfl (fun aB => ?_) fun aB => ?_)))))))))))
  ·exact gct rfl (gS (gR (gA rfl (gE (gRt (gr1 results103 rfl ⟨rfl, hm.below⟩))))))
  refine gcf rfl (gSk (gS (gS (gR (gF fo_49_2 rfl (gL hm 1 isAgg47 rfl (gF fo_49_2 rfl (gL hm 0 isAgg47 rfl (gC hm rfl call168 (laws_eqBlockS_ok _ a_.blocks v1 (hm.now h1) b_.blocks v2 (hm.now h2)) fun aF aG w hm => gN rfl (gE (gsn 20 rfl (fun aC => ?_) fun aC => ?_)))))))))))
  ·exact gct rfl (gS (gR (gA rfl (gE (gRt (gr1 results103 rfl ⟨rfl, hm.below⟩))))))
  exact gcf rfl (gSk (gS (gR (gA rfl (gE (gRt (gr1 results103 rfl ⟨rfl, hm.below⟩)))))))
theorem laws_eqCodeS_ok (w0 : World) (a_ : List Code_) (v1 : Value) (h1 : GT.rep (hp w0) [v1] a_) (b_ : List Code_) (v2 : Value) (h2 : GT.rep (hp w0) [v2] b_) :
    ConM Tryz.prog 52 [v1, v2] w0 (laws_eqCodeS a_ b_) fun r v w' => v = (.bool (r)) ∧ Below w0.heap.size w0 w' := by
  unfold laws_eqCodeS
  refine gcon func52 rfl fun r => ?_
  have hm := Mem.start w0
  refine gS (gR (gA rfl (gE (gS (gS (gR (gM rfl ?_)))))))
  obtain ⟨aE, aF, rfl, aY⟩ := ro_slice h1
  refine gY (yV st_26 rfl) (gM rfl ?_)
  obtain ⟨aG, aH, rfl, aZ⟩ := ro_slice h2
  refine gY (yV st_26 rfl) (gB rfl (gE (gsd 10 rfl (fun aI => ?_) fun aI => ?_)))
  ·exact gct rfl (gS (gR (gA rfl (gE (gRt (gr1 results52 rfl ⟨rfl, hm.below⟩))))))
  refine gcf rfl (gSk (gS (gS (gR (gA rfl (gE (gBk (gNf hm (fun aA aD => [(0, (.slice aE a_.length aF)), (1, (.slice aG b_.length aH)), (5, (nV aA))]) (fun aA aD => []) [] rfl ?_ ?_))))))))
  ·repeat clear hm
   intro aa aJ aA aD w hm ab ac ae aK
   refine gS (gS (gR (gM rfl (gM rfl (gY (yV st_26 rfl) (gB rfl (gE (go _ 14 rfl (decide_eq_true (by omega)) (gct rfl (gSk (gS (gBk (gS (gW (.p 0 (.p 1 (.p 2 (.p 4 (.p 5 (.p 6 (.q 3 (.e 7 (.e 8 (.p 9 .fin) .nil) .nil)))))))) [7] [0, 1, 2, 4, 5, 6, 9] hm [] [] rfl mxo (by kernel_rfl) (fun _ _ _ h => h.2) fun w hm hS => tP rfl (fun w => yM rfl) (tP rfl (fun w => yM rfl) (gg fun aL aM aB => ?_))))))))))))))))
   obtain ⟨af, ag, ah, he⟩ := idx_form' h1 aB
   obtain ⟨rfl, _, rfl⟩ := sl3 he
   obtain ⟨aN, aO, aP⟩ := rk_Code_ h1 aB
   refine tP rfl (fun w => yI st_26 aM (idx_lt aB) rfl) (tP rfl (fun w => yM rfl) (tP rfl (fun w => yM rfl) (gg fun aQ aR aC => ?_)))
   obtain ⟨ai, aj, ak, he⟩ := idx_form' h2 aC
   obtain ⟨rfl, _, rfl⟩ := sl3 he
   obtain ⟨aS, aT, aV⟩ := rk_Code_ h2 aC
   refine tP rfl (fun w => yI st_26 aR (idx_lt aC) rfl) (tQ rfl hS (fun w hm => yn (aO.mono hm.lez) isAgg49 sizeOf49 rfl) (tO (tY rfl (yn (aT.mono hm.lez) isAgg49 sizeOf49 rfl) (tAs hS (tO (gb fun am aW => tf rfl rfl (fun a hf => e_call hf rfl call103 rfl (laws_eqCode_ok _ aL aN (hm.now aP) aQ aS (hm.now aV) _ aW)) ?_))))))
   rintro an w ⟨rfl, hB⟩
   replace hm := hm.below' hB; clear hB
   refine tAn rfl (tP rfl (fun w => yN rfl) (tE (gsn 26 rfl (fun aX => ?_) fun aX => ?_)))
   ·exact gct rfl (gS (gR (gA rfl (gE (gRt (gLr aK aJ (gr1 results52 rfl ⟨rfl, hm.below⟩)))))))
   exact gcf rfl (gSk (gR (gM rfl (gP (by omega) (by omega) rfl (gA rfl (gE (gze hm [] rfl)))))))
  repeat clear hm
  intro ao ap w hm aq ar
  exact gS (gS (gR (gM rfl (gM rfl (gY (yV st_26 rfl) (gB rfl (gE (go _ 14 rfl (decide_eq_false (by omega)) (gcf rfl (gXt (gHh (gS (gR (gA rfl (gE (gRt (gr1 results52 rfl ⟨rfl, hm.below⟩)))))))))))))))))
theorem laws_eqUnit_ok (w0 : World) (a_ : Unit_) (v1 : Value) (h1 : GT.rep (hp w0) [v1] a_.codes) (b_ : Unit_) (v2 : Value) (h2 : GT.rep (hp w0) [v2] b_.codes) :
    ConM Tryz.prog 17 [(.agg #[v1]), (.agg #[v2])] w0 (laws_eqUnit a_ b_) fun r v w' => v = (.bool (r)) ∧ Below w0.heap.size w0 w' := by
  unfold laws_eqUnit
  refine gcon func17 rfl fun r => ?_
  have hm := Mem.start w0
  refine gS (gR (gBx hm rfl fun aB w hm => gBx hm rfl fun aC w hm => gA rfl (gE (gS (gS (gR (gF fo_28_0 rfl (gL hm 1 isAgg26 rfl (gF fo_28_0 rfl (gL hm 0 isAgg26 rfl (gC hm rfl call52 (laws_eqCodeS_ok _ a_.codes v1 (hm.now h1) b_.codes v2 (hm.now h2)) fun aD aE w hm => gN rfl (gE (gsn 10 rfl (fun aA => ?_) fun aA => ?_)))))))))))))
  ·exact gct rfl (gS (gR (gA rfl (gE (gRt (gr1 results17 rfl ⟨rfl, hm.below⟩))))))
  exact gcf rfl (gSk (gS (gR (gA rfl (gE (gRt (gr1 results17 rfl ⟨rfl, hm.below⟩)))))))
theorem laws_markIntS_ok (w0 : World) (hz : Heap) (a_ : List Int) (v1 : Value) (k_ : Int) (hm0 : Mem w0 hz w0 [ow [v1] a_]) :
    ConM Tryz.prog 171 [v1, nV k_] w0 (laws_markIntS a_ k_) fun r v w' => v = (nV r.1) ∧ Mem w0 hz w' [ow [v1] r.2] := by
  unfold laws_markIntS
  refine gcon func171 rfl fun r => ?_
  have hm := hm0
  refine gS (gR (gA rfl (gE (gS (gS (gR (gA rfl (gE ?_))))))))
  obtain ⟨aD, aE, rfl, aG⟩ := ro_slice (hm.ow_rep 0 rfl)
  refine gBk (gNf hm (fun aC aA => [(0, (.slice aD a_.length aE)), (1, (nV aA.2)), (5, (nV aC))]) (fun aC aA => [ow [.slice aD a_.length aE] aA.1]) [0] rfl ?_ ?_)
  ·repeat clear hm
   intro _ _ aC aA w hm aH aI aJ _
   refine gS (gS (gR (gM rfl (gM rfl ?_))))
   have aK := rep_len (hm.ow_rep 0 rfl)
   refine gY (yV st_43 rfl) (gB rfl (gE (go _ 9 rfl (decide_eq_true (by omega)) (gct rfl (gSk (gS (gBk (gS (gR (gM rfl (gM rfl (gM rfl (gg fun aL aF aB => ?_)))))))))))))
   obtain ⟨aM, aN, aO, he⟩ := idx_form (hm.ow_rep 0 rfl) aB
   obtain ⟨rfl, _, rfl⟩ := sl3 he
   have hL1_1 := rep_slice_len (hm.ow_rep 0 rfl)
   refine gI st_43 aF (idx_lt2 aB hL1_1) rfl (gf0 rfl (fun a hf => e_setElem (x1 := aA.2) (j := 0) (vs := [nV aA.2]) 0 hf hm rfl aB rfl sizeOf3 rfl rfl rfl (one_cons rfl one_nil) rfl rfl) ?_)
   rintro _ w hm
   have aP := List.getElem?_set_self (a := aA.2) (idx_lt aB)
   exact gE (gR (gM rfl (gB rfl (gA rfl (gE (gR (gM rfl (gP (by omega) (by omega) rfl (gA rfl (gE (gze hm [0] rfl)))))))))))
  repeat clear hm
  intro aQ aR w hm aS aT
  refine gS (gS (gR (gM rfl (gM rfl ?_))))
  have aV := rep_len (hm.ow_rep 0 rfl)
  exact gY (yV st_43 rfl) (gB rfl (gE (go _ 9 rfl (decide_eq_false (by omega)) (gcf rfl (gXt (gHh (gS (gR (gM rfl (gA rfl (gE (gRt (gr1 results171 rfl ⟨rfl, hm.pk [0] rfl rfl⟩)))))))))))))
theorem laws_markPhiS_ok (w0 : World) (hz : Heap) (a_ : List Phi_) (v1 : Value) (k_ : Int) (hm0 : Mem w0 hz w0 [ow [v1] a_]) :
    ConM Tryz.prog 169 [v1, nV k_] w0 (laws_markPhiS a_ k_) fun r v w' => v = (nV r.1) ∧ Mem w0 hz w' [ow [v1] r.2] := by
  unfold laws_markPhiS
  refine gcon func169 rfl fun r => ?_
  have hm := hm0
  refine gS (gR (gA rfl (gE (gS (gS (gR (gA rfl (gE ?_))))))))
  obtain ⟨aL, aE, rfl, aT⟩ := ro_slice (hm.ow_rep 0 rfl)
  refine gBk (gNf hm (fun aD aA => [(0, (.slice aL a_.length aE)), (1, (nV aA.2)), (5, (nV aD))]) (fun aD aA => [ow [.slice aL a_.length aE] aA.1]) [0] rfl ?_ ?_)
  ·repeat clear hm
   intro _ _ aD aA w hm aV aW aX _
   refine gS (gS (gR (gM rfl (gM rfl ?_))))
   have aY := rep_len (hm.ow_rep 0 rfl)
   refine gY (yV st_60 rfl) (gB rfl (gE (go _ 9 rfl (decide_eq_true (by omega)) (gct rfl (gSk (gS (gBk (gS (gR (gM rfl (gM rfl (gM rfl (gg fun aB aM aF => ?_)))))))))))))
   obtain ⟨aG, aH, aZ, he⟩ := idx_form' (hm.ow_rep 0 rfl) aF
   obtain ⟨rfl, _, rfl⟩ := sl3 he
   obtain ⟨aN, aO, aa⟩ := rk_Phi_ (hm.ow_rep 0 rfl) aF
   have hL1_1 := rep_slice_len (hm.ow_rep 0 rfl)
   refine gI st_60 aM (idx_lt2 aF hL1_1) rfl (gF fo_127_0 rfl (gf0 rfl (fun a hf => e_setElemR (x1 := ((⟨aA.2, aB.args⟩ : Phi_) : Phi_)) (j := 0) (vs := [nV aA.2]) 0 hf hm rfl aF aO rfl (fun F h ho => (fun _ => own_fst_map (α := Int) (β := (List Int)) (cs := [nV aB.to]) (cs' := [nV aA.2]) (ds := [aN]) rfl (fun _ _ => Flat.own_iff.2 rfl)) F ho) rfl sizeOf3 rfl rfl rfl (one_cons rfl one_nil) rfl) ?_))
   rintro _ w hm
   have aJ := List.getElem?_set_self (a := ((⟨aA.2, aB.args⟩ : Phi_) : Phi_)) (idx_lt aF)
   refine gE (gS (gR (gM rfl (gB rfl (gA rfl (gE (gR (gM rfl (gM rfl ?_)))))))))
   obtain ⟨_, _, aI, aP⟩ := ro_get' (hm.ow_rep 0 rfl) aJ
   obtain ⟨_, _, rfl, rfl, aK⟩ := aP
   obtain ⟨aC, rfl, -⟩ := id aK
   replace aK : GT.rep (hp _) [aC] aB.args := aK
   replace aI : CellsAt (hp _) aG (aH + (aD).toNat * 2) [nV aA.2, aC] := aI
   have hL1_2 := rep_slice_len (hm.ow_rep 0 rfl)
   refine gI st_60 aM (idx_lt2 aJ hL1_2) rfl (gF fo_127_1 rfl (gY (yl isAgg43 (aI.cell (j := 1) rfl) rfl) (gM rfl ?_)))
   replace hm : Mem w0 hz _ [ow [aC] aB.args, hole [sV aG aH a_.length aE] [aC] (fun (y : List Int) => ((aA.1.set (aD).toNat (⟨aA.2, aB.args⟩ : Phi_)) : List Phi_).set (aD).toNat (⟨aA.2, y⟩ : Phi_))] := hm.open 0 rfl (foc_elem aJ aI rfl (show FocH (α := Phi_) _ _ (⟨aA.2, aB.args⟩ : Phi_) [aC] aB.args (fun y => (⟨aA.2, y⟩ : Phi_)) from (foc_snd (α := Int) (β := (List Int)) (cs := [nV aA.2]) (ds := [aC]) (v := [aC]) (inner := aB.args) (x := aB.args) (z := aA.2) (put := fun (y : List Int) => y) rfl (foc_id [aC] aB.args))))
   obtain ⟨aQ, hle, hm1, hsub, aR⟩ := hm.take2 (L1 := [ow [aC] aB.args]) (L2 := [hole [sV aG aH a_.length aE] [aC] (fun (y : List Int) => ((aA.1.set (aD).toNat (⟨aA.2, aB.args⟩ : Phi_)) : List Phi_).set (aD).toNat (⟨aA.2, y⟩ : Phi_))]) [0] [1] (by decide) rfl rfl
   refine gCg rfl call171 (laws_markIntS_ok _ aQ aB.args aC (w64 (aA.2 + 1)) hm1 ) ?_
   rintro aS ab ac w ⟨rfl, hB⟩
   replace hm := aR _ _ hB; clear hB
   replace hm := (hm.shut 1 0 (by decide) rfl rfl).pk (L' := [ow [sV aG aH a_.length aE] ((aA.1.set (aD).toNat (⟨aA.2, aB.args⟩ : Phi_)).set (aD).toNat (⟨aA.2, aS.2⟩ : Phi_))]) [1] rfl rfl
   exact gA rfl (gE (gR (gM rfl (gP (by omega) (by omega) rfl (gA rfl (gE (gze hm [0] rfl)))))))
  repeat clear hm
  intro ae af w hm ag ah
  refine gS (gS (gR (gM rfl (gM rfl ?_))))
  have ai := rep_len (hm.ow_rep 0 rfl)
  exact gY (yV st_60 rfl) (gB rfl (gE (go _ 9 rfl (decide_eq_false (by omega)) (gcf rfl (gXt (gHh (gS (gR (gM rfl (gA rfl (gE (gRt (gr1 results169 rfl ⟨rfl, hm.pk [0] rfl rfl⟩)))))))))))))
theorem laws_markInsS_ok (w0 : World) (hz : Heap) (a_ : List Ins_) (v1 : Value) (k_ : Int) (hm0 : Mem w0 hz w0 [ow [v1] a_]) :
    ConM Tryz.prog 170 [v1, nV k_] w0 (laws_markInsS a_ k_) fun r v w' => v = (nV r.1) ∧ Mem w0 hz w' [ow [v1] r.2] := by
  unfold laws_markInsS
  refine gcon func170 rfl fun r => ?_
  have hm := hm0
  refine gS (gR (gA rfl (gE (gS (gS (gR (gA rfl (gE ?_))))))))
  obtain ⟨aV, aG, rfl, af⟩ := ro_slice (hm.ow_rep 0 rfl)
  refine gBk (gNf hm (fun aD aB => [(0, (.slice aV a_.length aG)), (1, (nV aB.2)), (5, (nV aD))]) (fun aD aB => [ow [.slice aV a_.length aG] aB.1]) [0] rfl ?_ ?_)
  ·repeat clear hm
   intro _ _ aD aB w hm ag ah ai _
   refine gS (gS (gR (gM rfl (gM rfl ?_))))
   have aj := rep_len (hm.ow_rep 0 rfl)
   refine gY (yV st_61 rfl) (gB rfl (gE (go _ 9 rfl (decide_eq_true (by omega)) (gct rfl (gSk (gS (gBk (gS (gR (gM rfl (gM rfl (gM rfl (gg fun aA aP aH => ?_)))))))))))))
   obtain ⟨aI, aJ, ak, he⟩ := idx_form' (hm.ow_rep 0 rfl) aH
   obtain ⟨rfl, _, rfl⟩ := sl3 he
   obtain ⟨aW, aX, am⟩ := rk_Ins_ (hm.ow_rep 0 rfl) aH
   have hL1_1 := rep_slice_len (hm.ow_rep 0 rfl)
   refine gI st_61 aP (idx_lt2 aH hL1_1) rfl (gF fo_65_0 rfl (gf0 rfl (fun a hf => e_setElemR (x1 := ((⟨aB.2, aA.to, aA.args, aA.n_⟩ : Ins_) : Ins_)) (j := 0) (vs := [nV aB.2]) 0 hf hm rfl aH aX rfl (fun F h ho => (fun _ => own_fst_map (α := Int) (β := Int × (List Int) × Int) (cs := [nV aA.op]) (cs' := [nV aB.2]) (ds := [nV aA.to, aW, nV aA.n_]) rfl (fun _ _ => Flat.own_iff.2 rfl)) F ho) rfl sizeOf3 rfl rfl rfl (one_cons rfl one_nil) rfl) ?_))
   rintro _ w hm
   have aM := List.getElem?_set_self (a := ((⟨aB.2, aA.to, aA.args, aA.n_⟩ : Ins_) : Ins_)) (idx_lt aH)
   refine gE (gS (gR (gM rfl (gB rfl (gA rfl (gE (gS (gR (gM rfl (gM rfl (gM rfl ?_)))))))))))
   obtain ⟨_, _, aQ, aY⟩ := ro_get' (hm.ow_rep 0 rfl) aM
   obtain ⟨_, _, rfl, rfl, _, _, rfl, rfl, _, _, rfl, aR, rfl⟩ := aY
   obtain ⟨aK, rfl, -⟩ := id aR
   replace aR : GT.rep (hp _) [aK] aA.args := aR
   replace aQ : CellsAt (hp _) aI (aJ + (aD).toNat * 4) [nV aB.2, nV aA.to, aK, nV aA.n_] := aQ
   have hL1_2 := rep_slice_len (hm.ow_rep 0 rfl)
   refine gI st_61 aP (idx_lt2 aM hL1_2) rfl (gF fo_65_1 rfl (gf0 rfl (fun a hf => e_setElemR (x1 := ((⟨aB.2, w64 (aB.2 + 1), aA.args, aA.n_⟩ : Ins_) : Ins_)) (j := 1) (vs := [nV (w64 (aB.2 + 1))]) 0 hf hm rfl aM aQ rfl (fun F h ho => (fun _ => own_snd_map (α := Int) (β := Int × (List Int) × Int) (cs := [nV aB.2]) (ds := [nV aA.to, aK, nV aA.n_]) (ds' := [nV (w64 (aB.2 + 1)), aK, nV aA.n_]) rfl (fun _ => own_fst_map (α := Int) (β := (List Int) × Int) (cs := [nV aA.to]) (cs' := [nV (w64 (aB.2 + 1))]) (ds := [aK, nV aA.n_]) rfl (fun _ _ => Flat.own_iff.2 rfl))) F ho) rfl sizeOf3 rfl rfl rfl (one_cons rfl one_nil) rfl) ?_))
   rintro _ w hm
   have aS := List.getElem?_set_self (a := ((⟨aB.2, w64 (aB.2 + 1), aA.args, aA.n_⟩ : Ins_) : Ins_)) (idx_lt aM)
   refine gE (gS (gR (gM rfl (gB rfl (gA rfl (gE (gS (gR (gM rfl (gM rfl ?_))))))))))
   obtain ⟨_, _, aN, aZ⟩ := ro_get' (hm.ow_rep 0 rfl) aS
   obtain ⟨_, _, rfl, rfl, _, _, rfl, rfl, _, _, rfl, aT, rfl⟩ := aZ
   obtain ⟨aC, rfl, -⟩ := id aT
   replace aT : GT.rep (hp _) [aC] aA.args := aT
   replace aN : CellsAt (hp _) aI (aJ + (aD).toNat * 4) [nV aB.2, nV (w64 (aB.2 + 1)), aC, nV aA.n_] := aN
   have hL1_3 := rep_slice_len (hm.ow_rep 0 rfl)
   refine gI st_61 aP (idx_lt2 aS hL1_3) rfl (gF fo_65_2 rfl (gY (yl isAgg43 (aN.cell (j := 2) rfl) rfl) (gM rfl ?_)))
   replace hm : Mem w0 hz _ [ow [aC] aA.args, hole [sV aI aJ a_.length aG] [aC] (fun (y : List Int) => (((aB.1.set (aD).toNat (⟨aB.2, aA.to, aA.args, aA.n_⟩ : Ins_)).set (aD).toNat (⟨aB.2, w64 (aB.2 + 1), aA.args, aA.n_⟩ : Ins_)) : List Ins_).set (aD).toNat (⟨aB.2, w64 (aB.2 + 1), y, aA.n_⟩ : Ins_))] := hm.open 0 rfl (foc_elem aS aN rfl (show FocH (α := Ins_) _ _ (⟨aB.2, w64 (aB.2 + 1), aA.args, aA.n_⟩ : Ins_) [aC] aA.args (fun y => (⟨aB.2, w64 (aB.2 + 1), y, aA.n_⟩ : Ins_)) from (foc_snd (α := Int) (β := Int × (List Int) × Int) (cs := [nV aB.2]) (ds := [nV (w64 (aB.2 + 1)), aC, nV aA.n_]) (v := [aC]) (inner := aA.args) (x := (w64 (aB.2 + 1), aA.args, aA.n_)) (z := aB.2) (put := fun (y : List Int) => (w64 (aB.2 + 1), y, aA.n_)) rfl (foc_snd (α := Int) (β := (List Int) × Int) (cs := [nV (w64 (aB.2 + 1))]) (ds := [aC, nV aA.n_]) (v := [aC]) (inner := aA.args) (x := (aA.args, aA.n_)) (z := w64 (aB.2 + 1)) (put := fun (y : List Int) => (y, aA.n_)) rfl (foc_fst (α := List Int) (β := Int) (cs := [aC]) (ds := [nV aA.n_]) (v := [aC]) (inner := aA.args) (x := aA.args) (z := aA.n_) (put := fun (y : List Int) => y) rfl (foc_id [aC] aA.args))))))
   obtain ⟨aa, hle, hm1, hsub, ab⟩ := hm.take2 (L1 := [ow [aC] aA.args]) (L2 := [hole [sV aI aJ a_.length aG] [aC] (fun (y : List Int) => (((aB.1.set (aD).toNat (⟨aB.2, aA.to, aA.args, aA.n_⟩ : Ins_)).set (aD).toNat (⟨aB.2, w64 (aB.2 + 1), aA.args, aA.n_⟩ : Ins_)) : List Ins_).set (aD).toNat (⟨aB.2, w64 (aB.2 + 1), y, aA.n_⟩ : Ins_))]) [0] [1] (by decide) rfl rfl
   refine gCg rfl call171 (laws_markIntS_ok _ aa aA.args aC (w64 ((w64 (aB.2 + 1)) + 1)) hm1 ) ?_
   rintro aF an ao w ⟨rfl, hB⟩
   replace hm := ab _ _ hB; clear hB
   replace hm := (hm.shut 1 0 (by decide) rfl rfl).pk (L' := [ow [sV aI aJ a_.length aG] (((aB.1.set (aD).toNat (⟨aB.2, aA.to, aA.args, aA.n_⟩ : Ins_)).set (aD).toNat (⟨aB.2, w64 (aB.2 + 1), aA.args, aA.n_⟩ : Ins_)).set (aD).toNat (⟨aB.2, w64 (aB.2 + 1), aF.2, aA.n_⟩ : Ins_))]) [1] rfl rfl
   refine gA rfl (gE (gS (gR (gM rfl (gM rfl (gM rfl (gg fun aE ac aO => ?_)))))))
   obtain ⟨aL, ae, ap⟩ := rk_Ins_ (hm.ow_rep 0 rfl) aO
   have hL1_4 := rep_slice_len (hm.ow_rep 0 rfl)
   refine gI st_61 ac (idx_lt2 aO hL1_4) rfl (gF fo_65_3 rfl (gf0 rfl (fun a hf => e_setElemR (x1 := ((⟨aE.op, aE.to, aE.args, aF.1⟩ : Ins_) : Ins_)) (j := 3) (vs := [nV aF.1]) 0 hf hm rfl aO ae rfl (fun F h ho => (fun _ => own_snd_map (α := Int) (β := Int × (List Int) × Int) (cs := [nV aE.op]) (ds := [nV aE.to, aL, nV aE.n_]) (ds' := [nV aE.to, aL, nV aF.1]) rfl (fun _ => own_snd_map (α := Int) (β := (List Int) × Int) (cs := [nV aE.to]) (ds := [aL, nV aE.n_]) (ds' := [aL, nV aF.1]) rfl (fun _ => own_snd_map (α := List Int) (β := Int) (cs := [aL]) (ds := [nV aE.n_]) (ds' := [nV aF.1]) rfl (fun _ _ => Flat.own_iff.2 rfl)))) F ho) rfl sizeOf3 rfl rfl rfl (one_cons rfl one_nil) rfl) ?_))
   rintro _ w hm
   have aq := List.getElem?_set_self (a := ((⟨aE.op, aE.to, aE.args, aF.1⟩ : Ins_) : Ins_)) (idx_lt aO)
   exact gE (gR (gM rfl (gB rfl (gA rfl (gE (gR (gM rfl (gP (by omega) (by omega) rfl (gA rfl (gE (gze hm [0] rfl)))))))))))
  repeat clear hm
  intro ar au w hm av aw
  refine gS (gS (gR (gM rfl (gM rfl ?_))))
  have ax := rep_len (hm.ow_rep 0 rfl)
  exact gY (yV st_61 rfl) (gB rfl (gE (go _ 9 rfl (decide_eq_false (by omega)) (gcf rfl (gXt (gHh (gS (gR (gM rfl (gA rfl (gE (gRt (gr1 results170 rfl ⟨rfl, hm.pk [0] rfl rfl⟩)))))))))))))
theorem laws_markBlockS_ok (w0 : World) (hz : Heap) (a_ : List Block_) (v1 : Value) (k_ : Int) (hm0 : Mem w0 hz w0 [ow [v1] a_]) :
    ConM Tryz.prog 104 [v1, nV k_] w0 (laws_markBlockS a_ k_) fun r v w' => v = (nV r.1) ∧ Mem w0 hz w' [ow [v1] r.2] := by
  unfold laws_markBlockS
  refine gcon func104 rfl fun r => ?_
  have hm := hm0
  refine gS (gR (gA rfl (gE (gS (gS (gR (gA rfl (gE ?_))))))))
  obtain ⟨ak, aH, rfl, bH⟩ := ro_slice (hm.ow_rep 0 rfl)
  refine gBk (gNf hm (fun aE aG => [(0, (.slice ak a_.length aH)), (1, (nV aG.2)), (5, (nV aE))]) (fun aE aG => [ow [.slice ak a_.length aH] aG.1]) [0] rfl ?_ ?_)
  ·repeat clear hm
   intro _ _ aE aG w hm bJ bK bL _
   refine gS (gS (gR (gM rfl (gM rfl ?_))))
   have bM := rep_len (hm.ow_rep 0 rfl)
   refine gY (yV st_47 rfl) (gB rfl (gE (go _ 9 rfl (decide_eq_true (by omega)) (gct rfl (gSk (gS (gBk (gS (gR (gM rfl (gM rfl (gg fun aC ap aQ => ?_))))))))))))
   obtain ⟨aI, aJ, bN, he⟩ := idx_form' (hm.ow_rep 0 rfl) aQ
   obtain ⟨rfl, _, rfl⟩ := sl3 he
   obtain ⟨aL, aq, ar, am, bO, bP, bQ⟩ := rk_Block_ (hm.ow_rep 0 rfl) aQ
   have hL1_1 := rep_slice_len (hm.ow_rep 0 rfl)
   refine gI st_47 ap (idx_lt2 aQ hL1_1) rfl (gF fo_63_0 rfl (gY (yl isAgg60 (am.cell (j := 0) rfl) rfl) (gM rfl ?_)))
   replace hm : Mem w0 hz _ [ow [aL] aC.phis, hole [sV aI aJ a_.length aH] [aL] (fun (y : List Phi_) => (aG.1 : List Block_).set (aE).toNat (⟨y, aC.ins, aC.jump, aC.on, aC.next_⟩ : Block_))] := hm.open 0 rfl (foc_elem aQ am rfl (show FocH (α := Block_) _ _ aC [aL] aC.phis (fun y => (⟨y, aC.ins, aC.jump, aC.on, aC.next_⟩ : Block_)) from (foc_fst (α := List Phi_) (β := (List Ins_) × Int × Int × (List Int)) (cs := [aL]) (ds := [aq, nV aC.jump, nV aC.on, ar]) (v := [aL]) (inner := aC.phis) (x := aC.phis) (z := (aC.ins, aC.jump, aC.on, aC.next_)) (put := fun (y : List Phi_) => y) rfl (foc_id [aL] aC.phis))))
   obtain ⟨au, hle, hm1, hsub, av⟩ := hm.take2 (L1 := [ow [aL] aC.phis]) (L2 := [hole [sV aI aJ a_.length aH] [aL] (fun (y : List Phi_) => (aG.1 : List Block_).set (aE).toNat (⟨y, aC.ins, aC.jump, aC.on, aC.next_⟩ : Block_))]) [0] [1] (by decide) rfl rfl
   refine gCg rfl call169 (laws_markPhiS_ok _ au aC.phis aL aG.2 hm1 ) ?_
   rintro aN bR bS w ⟨rfl, hB⟩
   replace hm := av _ _ hB; clear hB
   replace hm := (hm.shut 1 0 (by decide) rfl rfl).pk (L' := [ow [sV aI aJ a_.length aH] (aG.1.set (aE).toNat (⟨aN.2, aC.ins, aC.jump, aC.on, aC.next_⟩ : Block_))]) [1] rfl rfl
   refine gA rfl (gE (gS (gR (gM rfl (gM rfl (gg fun aD aw aW => ?_))))))
   obtain ⟨ax, aK, an, ao, bT, bU, bV⟩ := rk_Block_ (hm.ow_rep 0 rfl) aW
   have hL1_2 := rep_slice_len (hm.ow_rep 0 rfl)
   refine gI st_47 aw (idx_lt2 aW hL1_2) rfl (gF fo_63_1 rfl (gY (yl isAgg61 (ao.cell (j := 1) rfl) rfl) (gM rfl ?_)))
   replace hm : Mem w0 hz _ [ow [aK] aD.ins, hole [sV aI aJ a_.length aH] [aK] (fun (y : List Ins_) => ((aG.1.set (aE).toNat (⟨aN.2, aC.ins, aC.jump, aC.on, aC.next_⟩ : Block_)) : List Block_).set (aE).toNat (⟨aD.phis, y, aD.jump, aD.on, aD.next_⟩ : Block_))] := hm.open 0 rfl (foc_elem aW ao rfl (show FocH (α := Block_) _ _ aD [aK] aD.ins (fun y => (⟨aD.phis, y, aD.jump, aD.on, aD.next_⟩ : Block_)) from (foc_snd (α := List Phi_) (β := (List Ins_) × Int × Int × (List Int)) (cs := [ax]) (ds := [aK, nV aD.jump, nV aD.on, an]) (v := [aK]) (inner := aD.ins) (x := (aD.ins, aD.jump, aD.on, aD.next_)) (z := aD.phis) (put := fun (y : List Ins_) => (y, aD.jump, aD.on, aD.next_)) rfl (foc_fst (α := List Ins_) (β := Int × Int × (List Int)) (cs := [aK]) (ds := [nV aD.jump, nV aD.on, an]) (v := [aK]) (inner := aD.ins) (x := aD.ins) (z := (aD.jump, aD.on, aD.next_)) (put := fun (y : List Ins_) => y) rfl (foc_id [aK] aD.ins)))))
   obtain ⟨ay, hle, hm1, hsub, az⟩ := hm.take2 (L1 := [ow [aK] aD.ins]) (L2 := [hole [sV aI aJ a_.length aH] [aK] (fun (y : List Ins_) => ((aG.1.set (aE).toNat (⟨aN.2, aC.ins, aC.jump, aC.on, aC.next_⟩ : Block_)) : List Block_).set (aE).toNat (⟨aD.phis, y, aD.jump, aD.on, aD.next_⟩ : Block_))]) [0] [1] (by decide) rfl rfl
   refine gCg rfl call170 (laws_markInsS_ok _ ay aD.ins aK aN.1 hm1 ) ?_
   rintro aB bW bX w ⟨rfl, hB⟩
   replace hm := az _ _ hB; clear hB
   replace hm := (hm.shut 1 0 (by decide) rfl rfl).pk (L' := [ow [sV aI aJ a_.length aH] ((aG.1.set (aE).toNat (⟨aN.2, aC.ins, aC.jump, aC.on, aC.next_⟩ : Block_)).set (aE).toNat (⟨aD.phis, aB.2, aD.jump, aD.on, aD.next_⟩ : Block_))]) [1] rfl rfl
   refine gA rfl (gE (gS (gR (gM rfl (gM rfl (gM rfl (gg fun aA aX aR => ?_)))))))
   obtain ⟨bA, aY, aO, bB, bY, bZ, b8⟩ := rk_Block_ (hm.ow_rep 0 rfl) aR
   have hL1_3 := rep_slice_len (hm.ow_rep 0 rfl)
   refine gI st_47 aX (idx_lt2 aR hL1_3) rfl (gF fo_63_2 rfl (gf0 rfl (fun a hf => e_setElemR (x1 := ((⟨aA.phis, aA.ins, aB.1, aA.on, aA.next_⟩ : Block_) : Block_)) (j := 2) (vs := [nV aB.1]) 0 hf hm rfl aR bB rfl (fun F h ho => (fun _ => own_snd_map (α := List Phi_) (β := (List Ins_) × Int × Int × (List Int)) (cs := [bA]) (ds := [aY, nV aA.jump, nV aA.on, aO]) (ds' := [aY, nV aB.1, nV aA.on, aO]) rfl (fun _ => own_snd_map (α := List Ins_) (β := Int × Int × (List Int)) (cs := [aY]) (ds := [nV aA.jump, nV aA.on, aO]) (ds' := [nV aB.1, nV aA.on, aO]) rfl (fun _ => own_fst_map (α := Int) (β := Int × (List Int)) (cs := [nV aA.jump]) (cs' := [nV aB.1]) (ds := [nV aA.on, aO]) rfl (fun _ _ => Flat.own_iff.2 rfl)))) F ho) rfl sizeOf3 rfl rfl rfl (one_cons rfl one_nil) rfl) ?_))
   rintro _ w hm
   have aS := List.getElem?_set_self (a := ((⟨aA.phis, aA.ins, aB.1, aA.on, aA.next_⟩ : Block_) : Block_)) (idx_lt aR)
   refine gE (gS (gR (gM rfl (gB rfl (gA rfl (gE (gS (gR (gM rfl (gM rfl (gM rfl ?_)))))))))))
   obtain ⟨_, _, aZ, bC⟩ := ro_get' (hm.ow_rep 0 rfl) aS
   obtain ⟨_, _, rfl, aa, _, _, rfl, ab, _, _, rfl, rfl, _, _, rfl, rfl, ac⟩ := bC
   obtain ⟨ae, rfl, -⟩ := id aa
   replace aa : GT.rep (hp _) [ae] aA.phis := aa
   obtain ⟨aP, rfl, -⟩ := id ab
   replace ab : GT.rep (hp _) [aP] aA.ins := ab
   obtain ⟨aM, rfl, -⟩ := id ac
   replace ac : GT.rep (hp _) [aM] aA.next_ := ac
   replace aZ : CellsAt (hp _) aI (aJ + (aE).toNat * 5) [ae, aP, nV aB.1, nV aA.on, aM] := aZ
   have hL1_4 := rep_slice_len (hm.ow_rep 0 rfl)
   refine gI st_47 aX (idx_lt2 aS hL1_4) rfl (gF fo_63_3 rfl (gf0 rfl (fun a hf => e_setElemR (x1 := ((⟨aA.phis, aA.ins, aB.1, w64 (aB.1 + 1), aA.next_⟩ : Block_) : Block_)) (j := 3) (vs := [nV (w64 (aB.1 + 1))]) 0 hf hm rfl aS aZ rfl (fun F h ho => (fun _ => own_snd_map (α := List Phi_) (β := (List Ins_) × Int × Int × (List Int)) (cs := [ae]) (ds := [aP, nV aB.1, nV aA.on, aM]) (ds' := [aP, nV aB.1, nV (w64 (aB.1 + 1)), aM]) rfl (fun _ => own_snd_map (α := List Ins_) (β := Int × Int × (List Int)) (cs := [aP]) (ds := [nV aB.1, nV aA.on, aM]) (ds' := [nV aB.1, nV (w64 (aB.1 + 1)), aM]) rfl (fun _ => own_snd_map (α := Int) (β := Int × (List Int)) (cs := [nV aB.1]) (ds := [nV aA.on, aM]) (ds' := [nV (w64 (aB.1 + 1)), aM]) rfl (fun _ => own_fst_map (α := Int) (β := (List Int)) (cs := [nV aA.on]) (cs' := [nV (w64 (aB.1 + 1))]) (ds := [aM]) rfl (fun _ _ => Flat.own_iff.2 rfl))))) F ho) rfl sizeOf3 rfl rfl rfl (one_cons rfl one_nil) rfl) ?_))
   rintro _ w hm
   have af := List.getElem?_set_self (a := ((⟨aA.phis, aA.ins, aB.1, w64 (aB.1 + 1), aA.next_⟩ : Block_) : Block_)) (idx_lt aS)
   refine gE (gS (gR (gM rfl (gB rfl (gA rfl (gE (gR (gM rfl (gM rfl ?_)))))))))
   obtain ⟨_, _, aT, bD⟩ := ro_get' (hm.ow_rep 0 rfl) af
   obtain ⟨_, _, rfl, ag, _, _, rfl, ah, _, _, rfl, rfl, _, _, rfl, rfl, ai⟩ := bD
   obtain ⟨aj, rfl, -⟩ := id ag
   replace ag : GT.rep (hp _) [aj] aA.phis := ag
   obtain ⟨aV, rfl, -⟩ := id ah
   replace ah : GT.rep (hp _) [aV] aA.ins := ah
   obtain ⟨aF, rfl, -⟩ := id ai
   replace ai : GT.rep (hp _) [aF] aA.next_ := ai
   replace aT : CellsAt (hp _) aI (aJ + (aE).toNat * 5) [aj, aV, nV aB.1, nV (w64 (aB.1 + 1)), aF] := aT
   have hL1_5 := rep_slice_len (hm.ow_rep 0 rfl)
   refine gI st_47 aX (idx_lt2 af hL1_5) rfl (gF fo_63_4 rfl (gY (yl isAgg43 (aT.cell (j := 4) rfl) rfl) (gM rfl ?_)))
   replace hm : Mem w0 hz _ [ow [aF] aA.next_, hole [sV aI aJ a_.length aH] [aF] (fun (y : List Int) => (((((aG.1.set (aE).toNat (⟨aN.2, aC.ins, aC.jump, aC.on, aC.next_⟩ : Block_)).set (aE).toNat (⟨aD.phis, aB.2, aD.jump, aD.on, aD.next_⟩ : Block_)).set (aE).toNat (⟨aA.phis, aA.ins, aB.1, aA.on, aA.next_⟩ : Block_)).set (aE).toNat (⟨aA.phis, aA.ins, aB.1, w64 (aB.1 + 1), aA.next_⟩ : Block_)) : List Block_).set (aE).toNat (⟨aA.phis, aA.ins, aB.1, w64 (aB.1 + 1), y⟩ : Block_))] := hm.open 0 rfl (foc_elem af aT rfl (show FocH (α := Block_) _ _ (⟨aA.phis, aA.ins, aB.1, w64 (aB.1 + 1), aA.next_⟩ : Block_) [aF] aA.next_ (fun y => (⟨aA.phis, aA.ins, aB.1, w64 (aB.1 + 1), y⟩ : Block_)) from (foc_snd (α := List Phi_) (β := (List Ins_) × Int × Int × (List Int)) (cs := [aj]) (ds := [aV, nV aB.1, nV (w64 (aB.1 + 1)), aF]) (v := [aF]) (inner := aA.next_) (x := (aA.ins, aB.1, w64 (aB.1 + 1), aA.next_)) (z := aA.phis) (put := fun (y : List Int) => (aA.ins, aB.1, w64 (aB.1 + 1), y)) rfl (foc_snd (α := List Ins_) (β := Int × Int × (List Int)) (cs := [aV]) (ds := [nV aB.1, nV (w64 (aB.1 + 1)), aF]) (v := [aF]) (inner := aA.next_) (x := (aB.1, w64 (aB.1 + 1), aA.next_)) (z := aA.ins) (put := fun (y : List Int) => (aB.1, w64 (aB.1 + 1), y)) rfl (foc_snd (α := Int) (β := Int × (List Int)) (cs := [nV aB.1]) (ds := [nV (w64 (aB.1 + 1)), aF]) (v := [aF]) (inner := aA.next_) (x := (w64 (aB.1 + 1), aA.next_)) (z := aB.1) (put := fun (y : List Int) => (w64 (aB.1 + 1), y)) rfl (foc_snd (α := Int) (β := (List Int)) (cs := [nV (w64 (aB.1 + 1))]) (ds := [aF]) (v := [aF]) (inner := aA.next_) (x := aA.next_) (z := w64 (aB.1 + 1)) (put := fun (y : List Int) => y) rfl (foc_id [aF] aA.next_)))))))
   obtain ⟨bE, hle, hm1, hsub, bF⟩ := hm.take2 (L1 := [ow [aF] aA.next_]) (L2 := [hole [sV aI aJ a_.length aH] [aF] (fun (y : List Int) => (((((aG.1.set (aE).toNat (⟨aN.2, aC.ins, aC.jump, aC.on, aC.next_⟩ : Block_)).set (aE).toNat (⟨aD.phis, aB.2, aD.jump, aD.on, aD.next_⟩ : Block_)).set (aE).toNat (⟨aA.phis, aA.ins, aB.1, aA.on, aA.next_⟩ : Block_)).set (aE).toNat (⟨aA.phis, aA.ins, aB.1, w64 (aB.1 + 1), aA.next_⟩ : Block_)) : List Block_).set (aE).toNat (⟨aA.phis, aA.ins, aB.1, w64 (aB.1 + 1), y⟩ : Block_))]) [0] [1] (by decide) rfl rfl
   refine gCg rfl call171 (laws_markIntS_ok _ bE aA.next_ aF (w64 ((w64 (aB.1 + 1)) + 1)) hm1 ) ?_
   rintro bG b9 ba w ⟨rfl, hB⟩
   replace hm := bF _ _ hB; clear hB
   replace hm := (hm.shut 1 0 (by decide) rfl rfl).pk (L' := [ow [sV aI aJ a_.length aH] (((((aG.1.set (aE).toNat (⟨aN.2, aC.ins, aC.jump, aC.on, aC.next_⟩ : Block_)).set (aE).toNat (⟨aD.phis, aB.2, aD.jump, aD.on, aD.next_⟩ : Block_)).set (aE).toNat (⟨aA.phis, aA.ins, aB.1, aA.on, aA.next_⟩ : Block_)).set (aE).toNat (⟨aA.phis, aA.ins, aB.1, w64 (aB.1 + 1), aA.next_⟩ : Block_)).set (aE).toNat (⟨aA.phis, aA.ins, aB.1, w64 (aB.1 + 1), bG.2⟩ : Block_))]) [1] rfl rfl
   exact gA rfl (gE (gR (gM rfl (gP (by omega) (by omega) rfl (gA rfl (gE (gze hm [0] rfl)))))))
  repeat clear hm
  intro bb bc w hm bd be
  refine gS (gS (gR (gM rfl (gM rfl ?_))))
  have bf := rep_len (hm.ow_rep 0 rfl)
  exact gY (yV st_47 rfl) (gB rfl (gE (go _ 9 rfl (decide_eq_false (by omega)) (gcf rfl (gXt (gHh (gS (gR (gM rfl (gA rfl (gE (gRt (gr1 results104 rfl ⟨rfl, hm.pk [0] rfl rfl⟩)))))))))))))
theorem laws_markCodeS_ok (w0 : World) (hz : Heap) (a_ : List Code_) (v1 : Value) (k_ : Int) (hm0 : Mem w0 hz w0 [ow [v1] a_]) :
    ConM Tryz.prog 53 [v1, nV k_] w0 (laws_markCodeS a_ k_) fun r v w' => v = (nV r.1) ∧ Mem w0 hz w' [ow [v1] r.2] := by
  unfold laws_markCodeS
  refine gcon func53 rfl fun r => ?_
  have hm := hm0
  refine gS (gR (gA rfl (gE (gS (gS (gR (gA rfl (gE ?_))))))))
  obtain ⟨aQ, aE, rfl, aZ⟩ := ro_slice (hm.ow_rep 0 rfl)
  refine gBk (gNf hm (fun aC aA => [(0, (.slice aQ a_.length aE)), (1, (nV aA.2)), (5, (nV aC))]) (fun aC aA => [ow [.slice aQ a_.length aE] aA.1]) [0] rfl ?_ ?_)
  ·repeat clear hm
   intro _ _ aC aA w hm aa ab ac _
   refine gS (gS (gR (gM rfl (gM rfl ?_))))
   have ae := rep_len (hm.ow_rep 0 rfl)
   refine gY (yV st_26 rfl) (gB rfl (gE (go _ 9 rfl (decide_eq_true (by omega)) (gct rfl (gSk (gS (gBk (gS (gR (gM rfl (gM rfl (gM rfl (gg fun aB aL aF => ?_)))))))))))))
   obtain ⟨aG, aH, af, he⟩ := idx_form' (hm.ow_rep 0 rfl) aF
   obtain ⟨rfl, _, rfl⟩ := sl3 he
   obtain ⟨aR, aS, ag⟩ := rk_Code_ (hm.ow_rep 0 rfl) aF
   have hL1_1 := rep_slice_len (hm.ow_rep 0 rfl)
   refine gI st_26 aL (idx_lt2 aF hL1_1) rfl (gF fo_49_0 rfl (gf0 rfl (fun a hf => e_setElemR (x1 := ((⟨aA.2, aB.regs, aB.blocks⟩ : Code_) : Code_)) (j := 0) (vs := [nV aA.2]) 0 hf hm rfl aF aS rfl (fun F h ho => (fun _ => own_fst_map (α := Int) (β := Int × (List Block_)) (cs := [nV aB.params]) (cs' := [nV aA.2]) (ds := [nV aB.regs, aR]) rfl (fun _ _ => Flat.own_iff.2 rfl)) F ho) rfl sizeOf3 rfl rfl rfl (one_cons rfl one_nil) rfl) ?_))
   rintro _ w hm
   have aJ := List.getElem?_set_self (a := ((⟨aA.2, aB.regs, aB.blocks⟩ : Code_) : Code_)) (idx_lt aF)
   refine gE (gS (gR (gM rfl (gB rfl (gA rfl (gE (gS (gR (gM rfl (gM rfl (gM rfl ?_)))))))))))
   obtain ⟨_, _, aM, aT⟩ := ro_get' (hm.ow_rep 0 rfl) aJ
   obtain ⟨_, _, rfl, rfl, _, _, rfl, rfl, aN⟩ := aT
   obtain ⟨aI, rfl, -⟩ := id aN
   replace aN : GT.rep (hp _) [aI] aB.blocks := aN
   replace aM : CellsAt (hp _) aG (aH + (aC).toNat * 3) [nV aA.2, nV aB.regs, aI] := aM
   have hL1_2 := rep_slice_len (hm.ow_rep 0 rfl)
   refine gI st_26 aL (idx_lt2 aJ hL1_2) rfl (gF fo_49_1 rfl (gf0 rfl (fun a hf => e_setElemR (x1 := ((⟨aA.2, w64 (aA.2 + 1), aB.blocks⟩ : Code_) : Code_)) (j := 1) (vs := [nV (w64 (aA.2 + 1))]) 0 hf hm rfl aJ aM rfl (fun F h ho => (fun _ => own_snd_map (α := Int) (β := Int × (List Block_)) (cs := [nV aA.2]) (ds := [nV aB.regs, aI]) (ds' := [nV (w64 (aA.2 + 1)), aI]) rfl (fun _ => own_fst_map (α := Int) (β := (List Block_)) (cs := [nV aB.regs]) (cs' := [nV (w64 (aA.2 + 1))]) (ds := [aI]) rfl (fun _ _ => Flat.own_iff.2 rfl))) F ho) rfl sizeOf3 rfl rfl rfl (one_cons rfl one_nil) rfl) ?_))
   rintro _ w hm
   have aO := List.getElem?_set_self (a := ((⟨aA.2, w64 (aA.2 + 1), aB.blocks⟩ : Code_) : Code_)) (idx_lt aJ)
   refine gE (gS (gR (gM rfl (gB rfl (gA rfl (gE (gR (gM rfl (gM rfl ?_)))))))))
   obtain ⟨_, _, aK, aV⟩ := ro_get' (hm.ow_rep 0 rfl) aO
   obtain ⟨_, _, rfl, rfl, _, _, rfl, rfl, aP⟩ := aV
   obtain ⟨aD, rfl, -⟩ := id aP
   replace aP : GT.rep (hp _) [aD] aB.blocks := aP
   replace aK : CellsAt (hp _) aG (aH + (aC).toNat * 3) [nV aA.2, nV (w64 (aA.2 + 1)), aD] := aK
   have hL1_3 := rep_slice_len (hm.ow_rep 0 rfl)
   refine gI st_26 aL (idx_lt2 aO hL1_3) rfl (gF fo_49_2 rfl (gY (yl isAgg47 (aK.cell (j := 2) rfl) rfl) (gM rfl ?_)))
   replace hm : Mem w0 hz _ [ow [aD] aB.blocks, hole [sV aG aH a_.length aE] [aD] (fun (y : List Block_) => (((aA.1.set (aC).toNat (⟨aA.2, aB.regs, aB.blocks⟩ : Code_)).set (aC).toNat (⟨aA.2, w64 (aA.2 + 1), aB.blocks⟩ : Code_)) : List Code_).set (aC).toNat (⟨aA.2, w64 (aA.2 + 1), y⟩ : Code_))] := hm.open 0 rfl (foc_elem aO aK rfl (show FocH (α := Code_) _ _ (⟨aA.2, w64 (aA.2 + 1), aB.blocks⟩ : Code_) [aD] aB.blocks (fun y => (⟨aA.2, w64 (aA.2 + 1), y⟩ : Code_)) from (foc_snd (α := Int) (β := Int × (List Block_)) (cs := [nV aA.2]) (ds := [nV (w64 (aA.2 + 1)), aD]) (v := [aD]) (inner := aB.blocks) (x := (w64 (aA.2 + 1), aB.blocks)) (z := aA.2) (put := fun (y : List Block_) => (w64 (aA.2 + 1), y)) rfl (foc_snd (α := Int) (β := (List Block_)) (cs := [nV (w64 (aA.2 + 1))]) (ds := [aD]) (v := [aD]) (inner := aB.blocks) (x := aB.blocks) (z := w64 (aA.2 + 1)) (put := fun (y : List Block_) => y) rfl (foc_id [aD] aB.blocks)))))
   obtain ⟨aW, hle, hm1, hsub, aX⟩ := hm.take2 (L1 := [ow [aD] aB.blocks]) (L2 := [hole [sV aG aH a_.length aE] [aD] (fun (y : List Block_) => (((aA.1.set (aC).toNat (⟨aA.2, aB.regs, aB.blocks⟩ : Code_)).set (aC).toNat (⟨aA.2, w64 (aA.2 + 1), aB.blocks⟩ : Code_)) : List Code_).set (aC).toNat (⟨aA.2, w64 (aA.2 + 1), y⟩ : Code_))]) [0] [1] (by decide) rfl rfl
   refine gCg rfl call104 (laws_markBlockS_ok _ aW aB.blocks aD (w64 ((w64 (aA.2 + 1)) + 1)) hm1 ) ?_
   rintro aY ah ai w ⟨rfl, hB⟩
   replace hm := aX _ _ hB; clear hB
   replace hm := (hm.shut 1 0 (by decide) rfl rfl).pk (L' := [ow [sV aG aH a_.length aE] (((aA.1.set (aC).toNat (⟨aA.2, aB.regs, aB.blocks⟩ : Code_)).set (aC).toNat (⟨aA.2, w64 (aA.2 + 1), aB.blocks⟩ : Code_)).set (aC).toNat (⟨aA.2, w64 (aA.2 + 1), aY.2⟩ : Code_))]) [1] rfl rfl
   exact gA rfl (gE (gR (gM rfl (gP (by omega) (by omega) rfl (gA rfl (gE (gze hm [0] rfl)))))))
  repeat clear hm
  intro aj ak w hm am an
  refine gS (gS (gR (gM rfl (gM rfl ?_))))
  have ao := rep_len (hm.ow_rep 0 rfl)
  exact gY (yV st_26 rfl) (gB rfl (gE (go _ 9 rfl (decide_eq_false (by omega)) (gcf rfl (gXt (gHh (gS (gR (gM rfl (gA rfl (gE (gRt (gr1 results53 rfl ⟨rfl, hm.pk [0] rfl rfl⟩)))))))))))))
theorem laws_markUnit_ok (w0 : World) (hz : Heap) (a_ : Unit_) (v1 : Value) (k_ : Int) (hm0 : Mem w0 hz w0 [ow [v1] a_.codes]) :
    ConM Tryz.prog 18 [(.agg #[v1]), nV k_] w0 (laws_markUnit a_ k_) fun r v w' => v = (nV r.1) ∧ Mem w0 hz w' [ow [v1] r.2] := by
  unfold laws_markUnit
  refine gcon func18 rfl fun r => ?_
  have hm := hm0
  refine gS (gR (gBx hm rfl fun aA w hm => gA rfl (gE (gS (gR (gF fo_28_0 rfl (gL hm 0 isAgg26 rfl (gM rfl ?_))))))))
  obtain ⟨aB, hle, hm1, hsub, aC⟩ := hm.take2 (L1 := [ow [v1] a_.codes]) (L2 := [blk aA [v1] 28]) [1] [0] (by decide) rfl rfl
  refine gCg rfl call53 (laws_markCodeS_ok _ aB a_.codes v1 k_ hm1 ) ?_
  rintro aD aE aF w ⟨rfl, hB⟩
  replace hm := aC _ _ hB; clear hB
  exact gA rfl (gE (gS (gR (gM rfl (gA rfl (gE (gRt (gr1 results18 rfl ⟨rfl, hm.pk [0] rfl rfl⟩))))))))
theorem laws_heldIntS_ok (w0 : World) (a_ : List Int) (v1 : Value) (h1 : GT.rep (hp w0) [v1] a_) (k_ : Int) :
    ConM Tryz.prog 174 [v1, nV k_] w0 (laws_heldIntS a_ k_) fun r v w' => v = (nV r) ∧ Below w0.heap.size w0 w' := by
  unfold laws_heldIntS
  refine gcon func174 rfl fun r => ?_
  have hm := Mem.start w0
  refine gS (gR (gA rfl (gE (gS (gS (gR (gA rfl (gE (gBk (gNf hm (fun aA aB => [(0, v1), (1, (nV aB)), (5, (nV aA))]) (fun aA aB => []) [] rfl ?_ ?_))))))))))
  ·repeat clear hm
   intro aI aD aA aB w hm aJ aK aL aE
   refine gS (gS (gR (gM rfl (gM rfl ?_))))
   obtain ⟨aM, aN, rfl, aO⟩ := ro_slice h1
   refine gY (yV st_43 rfl) (gB rfl (gE (go _ 9 rfl (decide_eq_true (by omega)) (gct rfl (gSk (gS (gBk (gS (gS (gR (gM rfl (gM rfl (gg fun aF aG aC => ?_)))))))))))))
   obtain ⟨aP, aQ, aR, he⟩ := idx_form h1 aC
   obtain ⟨rfl, _, rfl⟩ := sl3 he
   refine gI st_43 aG (idx_lt aC) rfl (gY (yl isAgg3 ((flat_cells (cs := [nV aF]) (hm.now h1) aC rfl).cell (j := 0) rfl) rfl) (gM rfl (gB rfl (gE (gsd 17 rfl (fun aH => ?_) fun aH => ?_)))))
   ·exact gct rfl (gS (gR (gA rfl (gE (gRt (gLr aE aD (gr1 results174 rfl ⟨rfl, hm.below⟩)))))))
   exact gcf rfl (gSk (gR (gM rfl (gB rfl (gA rfl (gE (gR (gM rfl (gP (by omega) (by omega) rfl (gA rfl (gE (gze hm [] rfl))))))))))))
  repeat clear hm
  intro aS aT w hm aV aW
  refine gS (gS (gR (gM rfl (gM rfl ?_))))
  obtain ⟨aX, aY, rfl, aZ⟩ := ro_slice h1
  exact gY (yV st_43 rfl) (gB rfl (gE (go _ 9 rfl (decide_eq_false (by omega)) (gcf rfl (gXt (gHh (gS (gR (gM rfl (gA rfl (gE (gRt (gr1 results174 rfl ⟨rfl, hm.below⟩)))))))))))))
theorem laws_heldPhiS_ok (w0 : World) (a_ : List Phi_) (v1 : Value) (h1 : GT.rep (hp w0) [v1] a_) (k_ : Int) :
    ConM Tryz.prog 172 [v1, nV k_] w0 (laws_heldPhiS a_ k_) fun r v w' => v = (nV r) ∧ Below w0.heap.size w0 w' := by
  unfold laws_heldPhiS
  refine gcon func172 rfl fun r => ?_
  have hm := Mem.start w0
  refine gS (gR (gA rfl (gE (gS (gS (gR (gA rfl (gE (gBk (gNf hm (fun aC aA => [(0, v1), (1, (nV aA)), (5, (nV aC))]) (fun aC aA => []) [] rfl ?_ ?_))))))))))
  ·repeat clear hm
   intro aM aD aC aA w hm aN aO aP aE
   refine gS (gS (gR (gM rfl (gM rfl ?_))))
   obtain ⟨aQ, aR, rfl, aS⟩ := ro_slice h1
   refine gY (yV st_60 rfl) (gB rfl (gE (go _ 9 rfl (decide_eq_true (by omega)) (gct rfl (gSk (gS (gBk (gS (gS (gR (gM rfl (gM rfl (gg fun aH aF aB => ?_)))))))))))))
   obtain ⟨aT, aV, aW, he⟩ := idx_form' h1 aB
   obtain ⟨rfl, _, rfl⟩ := sl3 he
   obtain ⟨aI, aG, aJ⟩ := rk_Phi_ h1 aB
   refine gI st_60 aF (idx_lt aB) rfl (gF fo_127_0 rfl (gY (yl isAgg3 ((aG.mono hm.lez).cell (j := 0) rfl) rfl) (gM rfl (gB rfl (gE (gsd 18 rfl (fun aK => ?_) fun aK => ?_))))))
   ·exact gct rfl (gS (gR (gA rfl (gE (gRt (gLr aE aD (gr1 results172 rfl ⟨rfl, hm.below⟩)))))))
   refine gcf rfl (gSk (gS (gR (gM rfl (gB rfl (gA rfl (gE (gS (gR (gM rfl (gM rfl (gI st_60 aF (idx_lt aB) rfl (gF fo_127_1 rfl (gY (yl isAgg43 ((aG.mono hm.lez).cell (j := 1) rfl) rfl) (gM rfl (gC hm rfl call174 (laws_heldIntS_ok _ aH.args aI (hm.now aJ) (w64 (aA + 1))) fun aX aY w hm => gA rfl (gE (gS (gR (gM rfl (gB rfl (gE (gsd 29 rfl (fun aL => ?_) fun aL => ?_)))))))))))))))))))))))
   ·exact gct rfl (gS (gR (gA rfl (gE (gRt (gLr aE aD (gr1 results172 rfl ⟨rfl, hm.below⟩)))))))
   exact gcf rfl (gSk (gR (gM rfl (gP (by omega) (by omega) rfl (gA rfl (gE (gze hm [] rfl)))))))
  repeat clear hm
  intro aZ aa w hm ab ac
  refine gS (gS (gR (gM rfl (gM rfl ?_))))
  obtain ⟨ae, af, rfl, ag⟩ := ro_slice h1
  exact gY (yV st_60 rfl) (gB rfl (gE (go _ 9 rfl (decide_eq_false (by omega)) (gcf rfl (gXt (gHh (gS (gR (gM rfl (gA rfl (gE (gRt (gr1 results172 rfl ⟨rfl, hm.below⟩)))))))))))))
theorem laws_heldInsS_ok (w0 : World) (a_ : List Ins_) (v1 : Value) (h1 : GT.rep (hp w0) [v1] a_) (k_ : Int) :
    ConM Tryz.prog 173 [v1, nV k_] w0 (laws_heldInsS a_ k_) fun r v w' => v = (nV r) ∧ Below w0.heap.size w0 w' := by
  unfold laws_heldInsS
  refine gcon func173 rfl fun r => ?_
  have hm := Mem.start w0
  refine gS (gR (gA rfl (gE (gS (gS (gR (gA rfl (gE (gBk (gNf hm (fun aG aB => [(0, v1), (1, (nV aB)), (5, (nV aG))]) (fun aG aB => []) [] rfl ?_ ?_))))))))))
  ·repeat clear hm
   intro aO aC aG aB w hm aP aQ aR aD
   refine gS (gS (gR (gM rfl (gM rfl ?_))))
   obtain ⟨aS, aT, rfl, aV⟩ := ro_slice h1
   refine gY (yV st_61 rfl) (gB rfl (gE (go _ 9 rfl (decide_eq_true (by omega)) (gct rfl (gSk (gS (gBk (gS (gS (gR (gM rfl (gM rfl (gg fun aH aE aA => ?_)))))))))))))
   obtain ⟨aW, aX, aY, he⟩ := idx_form' h1 aA
   obtain ⟨rfl, _, rfl⟩ := sl3 he
   obtain ⟨aI, aF, aJ⟩ := rk_Ins_ h1 aA
   refine gI st_61 aE (idx_lt aA) rfl (gF fo_65_0 rfl (gY (yl isAgg3 ((aF.mono hm.lez).cell (j := 0) rfl) rfl) (gM rfl (gB rfl (gE (gsd 18 rfl (fun aK => ?_) fun aK => ?_))))))
   ·exact gct rfl (gS (gR (gA rfl (gE (gRt (gLr aD aC (gr1 results173 rfl ⟨rfl, hm.below⟩)))))))
   refine gcf rfl (gSk (gS (gR (gM rfl (gB rfl (gA rfl (gE (gS (gS (gR (gM rfl (gM rfl (gI st_61 aE (idx_lt aA) rfl (gF fo_65_1 rfl (gY (yl isAgg3 ((aF.mono hm.lez).cell (j := 1) rfl) rfl) (gM rfl (gB rfl (gE (gsd 27 rfl (fun aL => ?_) fun aL => ?_)))))))))))))))))))
   ·exact gct rfl (gS (gR (gA rfl (gE (gRt (gLr aD aC (gr1 results173 rfl ⟨rfl, hm.below⟩)))))))
   refine gcf rfl (gSk (gS (gR (gM rfl (gB rfl (gA rfl (gE (gS (gR (gM rfl (gM rfl (gI st_61 aE (idx_lt aA) rfl (gF fo_65_2 rfl (gY (yl isAgg43 ((aF.mono hm.lez).cell (j := 2) rfl) rfl) (gM rfl (gC hm rfl call174 (laws_heldIntS_ok _ aH.args aI (hm.now aJ) (w64 ((w64 (aB + 1)) + 1))) fun aZ aa w hm => gA rfl (gE (gS (gS (gR (gM rfl (gB rfl (gE (gsd 38 rfl (fun aM => ?_) fun aM => ?_))))))))))))))))))))))))
   ·exact gct rfl (gS (gR (gA rfl (gE (gRt (gLr aD aC (gr1 results173 rfl ⟨rfl, hm.below⟩)))))))
   refine gcf rfl (gSk (gS (gS (gR (gM rfl (gM rfl (gI st_61 aE (idx_lt aA) rfl (gF fo_65_3 rfl (gY (yl isAgg3 ((aF.mono hm.lez).cell (j := 3) rfl) rfl) (gM rfl (gB rfl (gE (gsd 45 rfl (fun aN => ?_) fun aN => ?_)))))))))))))
   ·exact gct rfl (gS (gR (gA rfl (gE (gRt (gLr aD aC (gr1 results173 rfl ⟨rfl, hm.below⟩)))))))
   exact gcf rfl (gSk (gR (gM rfl (gB rfl (gA rfl (gE (gR (gM rfl (gP (by omega) (by omega) rfl (gA rfl (gE (gze hm [] rfl))))))))))))
  repeat clear hm
  intro ab ac w hm ae af
  refine gS (gS (gR (gM rfl (gM rfl ?_))))
  obtain ⟨ag, ah, rfl, ai⟩ := ro_slice h1
  exact gY (yV st_61 rfl) (gB rfl (gE (go _ 9 rfl (decide_eq_false (by omega)) (gcf rfl (gXt (gHh (gS (gR (gM rfl (gA rfl (gE (gRt (gr1 results173 rfl ⟨rfl, hm.below⟩)))))))))))))
theorem laws_heldBlockS_ok (w0 : World) (a_ : List Block_) (v1 : Value) (h1 : GT.rep (hp w0) [v1] a_) (k_ : Int) :
    ConM Tryz.prog 105 [v1, nV k_] w0 (laws_heldBlockS a_ k_) fun r v w' => v = (nV r) ∧ Below w0.heap.size w0 w' := by
  unfold laws_heldBlockS
  refine gcon func105 rfl fun r => ?_
  have hm := Mem.start w0
  refine gS (gR (gA rfl (gE (gS (gS (gR (gA rfl (gE (gBk (gNf hm (fun aG aF => [(0, v1), (1, (nV aF)), (5, (nV aG))]) (fun aG aF => []) [] rfl ?_ ?_))))))))))
  ·repeat clear hm
   intro aW aB aG aF w hm aX aY aZ aC
   refine gS (gS (gR (gM rfl (gM rfl ?_))))
   obtain ⟨aa, ab, rfl, ac⟩ := ro_slice h1
   refine gY (yV st_47 rfl) (gB rfl (gE (go _ 9 rfl (decide_eq_true (by omega)) (gct rfl (gSk (gS (gBk (gS (gR (gM rfl (gM rfl (gg fun aH aD aA => ?_))))))))))))
   obtain ⟨ae, af, ag, he⟩ := idx_form' h1 aA
   obtain ⟨rfl, _, rfl⟩ := sl3 he
   obtain ⟨aI, aJ, aK, aE, aL, aM, aN⟩ := rk_Block_ h1 aA
   refine gI st_47 aD (idx_lt aA) rfl (gF fo_63_0 rfl (gY (yl isAgg60 ((aE.mono hm.lez).cell (j := 0) rfl) rfl) (gM rfl (gC hm rfl call172 (laws_heldPhiS_ok _ aH.phis aI (hm.now aL) aF) fun aO ah w hm => gA rfl (gE (gS (gS (gR (gM rfl (gB rfl (gE (gsd 20 rfl (fun aP => ?_) fun aP => ?_))))))))))))
   ·exact gct rfl (gS (gR (gA rfl (gE (gRt (gLr aC aB (gr1 results105 rfl ⟨rfl, hm.below⟩)))))))
   refine gcf rfl (gSk (gS (gR (gM rfl (gM rfl (gI st_47 aD (idx_lt aA) rfl (gF fo_63_1 rfl (gY (yl isAgg61 ((aE.mono hm.lez).cell (j := 1) rfl) rfl) (gM rfl (gC hm rfl call173 (laws_heldInsS_ok _ aH.ins aJ (hm.now aM) aO) fun aQ ai w hm => gA rfl (gE (gS (gS (gR (gM rfl (gB rfl (gE (gsd 29 rfl (fun aR => ?_) fun aR => ?_))))))))))))))))))
   ·exact gct rfl (gS (gR (gA rfl (gE (gRt (gLr aC aB (gr1 results105 rfl ⟨rfl, hm.below⟩)))))))
   refine gcf rfl (gSk (gS (gS (gR (gM rfl (gM rfl (gI st_47 aD (idx_lt aA) rfl (gF fo_63_2 rfl (gY (yl isAgg3 ((aE.mono hm.lez).cell (j := 2) rfl) rfl) (gM rfl (gB rfl (gE (gsd 36 rfl (fun aS => ?_) fun aS => ?_)))))))))))))
   ·exact gct rfl (gS (gR (gA rfl (gE (gRt (gLr aC aB (gr1 results105 rfl ⟨rfl, hm.below⟩)))))))
   refine gcf rfl (gSk (gS (gR (gM rfl (gB rfl (gA rfl (gE (gS (gS (gR (gM rfl (gM rfl (gI st_47 aD (idx_lt aA) rfl (gF fo_63_3 rfl (gY (yl isAgg3 ((aE.mono hm.lez).cell (j := 3) rfl) rfl) (gM rfl (gB rfl (gE (gsd 45 rfl (fun aT => ?_) fun aT => ?_)))))))))))))))))))
   ·exact gct rfl (gS (gR (gA rfl (gE (gRt (gLr aC aB (gr1 results105 rfl ⟨rfl, hm.below⟩)))))))
   refine gcf rfl (gSk (gS (gR (gM rfl (gB rfl (gA rfl (gE (gS (gR (gM rfl (gM rfl (gI st_47 aD (idx_lt aA) rfl (gF fo_63_4 rfl (gY (yl isAgg43 ((aE.mono hm.lez).cell (j := 4) rfl) rfl) (gM rfl (gC hm rfl call174 (laws_heldIntS_ok _ aH.next_ aK (hm.now aN) (w64 ((w64 (aQ + 1)) + 1))) fun aj ak w hm => gA rfl (gE (gS (gR (gM rfl (gB rfl (gE (gsd 56 rfl (fun aV => ?_) fun aV => ?_)))))))))))))))))))))))
   ·exact gct rfl (gS (gR (gA rfl (gE (gRt (gLr aC aB (gr1 results105 rfl ⟨rfl, hm.below⟩)))))))
   exact gcf rfl (gSk (gR (gM rfl (gP (by omega) (by omega) rfl (gA rfl (gE (gze hm [] rfl)))))))
  repeat clear hm
  intro am an w hm ao ap
  refine gS (gS (gR (gM rfl (gM rfl ?_))))
  obtain ⟨aq, ar, rfl, au⟩ := ro_slice h1
  exact gY (yV st_47 rfl) (gB rfl (gE (go _ 9 rfl (decide_eq_false (by omega)) (gcf rfl (gXt (gHh (gS (gR (gM rfl (gA rfl (gE (gRt (gr1 results105 rfl ⟨rfl, hm.below⟩)))))))))))))
theorem laws_heldCodeS_ok (w0 : World) (a_ : List Code_) (v1 : Value) (h1 : GT.rep (hp w0) [v1] a_) (k_ : Int) :
    ConM Tryz.prog 54 [v1, nV k_] w0 (laws_heldCodeS a_ k_) fun r v w' => v = (nV r) ∧ Below w0.heap.size w0 w' := by
  unfold laws_heldCodeS
  refine gcon func54 rfl fun r => ?_
  have hm := Mem.start w0
  refine gS (gR (gA rfl (gE (gS (gS (gR (gA rfl (gE (gBk (gNf hm (fun aC aB => [(0, v1), (1, (nV aB)), (5, (nV aC))]) (fun aC aB => []) [] rfl ?_ ?_))))))))))
  ·repeat clear hm
   intro aN aD aC aB w hm aO aP aQ aE
   refine gS (gS (gR (gM rfl (gM rfl ?_))))
   obtain ⟨aR, aS, rfl, aT⟩ := ro_slice h1
   refine gY (yV st_26 rfl) (gB rfl (gE (go _ 9 rfl (decide_eq_true (by omega)) (gct rfl (gSk (gS (gBk (gS (gS (gR (gM rfl (gM rfl (gg fun aH aF aA => ?_)))))))))))))
   obtain ⟨aV, aW, aX, he⟩ := idx_form' h1 aA
   obtain ⟨rfl, _, rfl⟩ := sl3 he
   obtain ⟨aI, aG, aJ⟩ := rk_Code_ h1 aA
   refine gI st_26 aF (idx_lt aA) rfl (gF fo_49_0 rfl (gY (yl isAgg3 ((aG.mono hm.lez).cell (j := 0) rfl) rfl) (gM rfl (gB rfl (gE (gsd 18 rfl (fun aK => ?_) fun aK => ?_))))))
   ·exact gct rfl (gS (gR (gA rfl (gE (gRt (gLr aE aD (gr1 results54 rfl ⟨rfl, hm.below⟩)))))))
   refine gcf rfl (gSk (gS (gR (gM rfl (gB rfl (gA rfl (gE (gS (gS (gR (gM rfl (gM rfl (gI st_26 aF (idx_lt aA) rfl (gF fo_49_1 rfl (gY (yl isAgg3 ((aG.mono hm.lez).cell (j := 1) rfl) rfl) (gM rfl (gB rfl (gE (gsd 27 rfl (fun aL => ?_) fun aL => ?_)))))))))))))))))))
   ·exact gct rfl (gS (gR (gA rfl (gE (gRt (gLr aE aD (gr1 results54 rfl ⟨rfl, hm.below⟩)))))))
   refine gcf rfl (gSk (gS (gR (gM rfl (gB rfl (gA rfl (gE (gS (gR (gM rfl (gM rfl (gI st_26 aF (idx_lt aA) rfl (gF fo_49_2 rfl (gY (yl isAgg47 ((aG.mono hm.lez).cell (j := 2) rfl) rfl) (gM rfl (gC hm rfl call105 (laws_heldBlockS_ok _ aH.blocks aI (hm.now aJ) (w64 ((w64 (aB + 1)) + 1))) fun aY aZ w hm => gA rfl (gE (gS (gR (gM rfl (gB rfl (gE (gsd 38 rfl (fun aM => ?_) fun aM => ?_)))))))))))))))))))))))
   ·exact gct rfl (gS (gR (gA rfl (gE (gRt (gLr aE aD (gr1 results54 rfl ⟨rfl, hm.below⟩)))))))
   exact gcf rfl (gSk (gR (gM rfl (gP (by omega) (by omega) rfl (gA rfl (gE (gze hm [] rfl)))))))
  repeat clear hm
  intro aa ab w hm ac ae
  refine gS (gS (gR (gM rfl (gM rfl ?_))))
  obtain ⟨af, ag, rfl, ah⟩ := ro_slice h1
  exact gY (yV st_26 rfl) (gB rfl (gE (go _ 9 rfl (decide_eq_false (by omega)) (gcf rfl (gXt (gHh (gS (gR (gM rfl (gA rfl (gE (gRt (gr1 results54 rfl ⟨rfl, hm.below⟩)))))))))))))
theorem laws_heldUnit_ok (w0 : World) (a_ : Unit_) (v1 : Value) (h1 : GT.rep (hp w0) [v1] a_.codes) (k_ : Int) :
    ConM Tryz.prog 19 [(.agg #[v1]), nV k_] w0 (laws_heldUnit a_ k_) fun r v w' => v = (nV r) ∧ Below w0.heap.size w0 w' := by
  unfold laws_heldUnit
  refine gcon func19 rfl fun r => ?_
  have hm := Mem.start w0
  refine gS (gR (gBx hm rfl fun aB w hm => gA rfl (gE (gS (gR (gF fo_28_0 rfl (gL hm 0 isAgg26 rfl (gM rfl (gC hm rfl call54 (laws_heldCodeS_ok _ a_.codes v1 (hm.now h1) k_) fun aC aD w hm => gA rfl (gE (gS (gS (gR (gM rfl (gB rfl (gE (gsd 10 rfl (fun aA => ?_) fun aA => ?_)))))))))))))))))
  ·exact gct rfl (gS (gR (gA rfl (gE (gRt (gr1 results19 rfl ⟨rfl, hm.below⟩))))))
  exact gcf rfl (gSk (gS (gR (gM rfl (gA rfl (gE (gRt (gr1 results19 rfl ⟨rfl, hm.below⟩))))))))
theorem spec_CleanUnit_ok (w0 : World) (u : Unit_) (v1 : Value) (h1 : GT.rep (hp w0) [v1] u.codes) :
    ConM Tryz.prog 28 [(.agg #[v1])] w0 (spec_CleanUnit u) fun r v w' => ∃ (x1 : Value), v = (.tuple #[(.agg #[x1]), (.bool (r.2))]) ∧ Mem w0 (hp w0) w' [ow [x1] r.1.codes] := by
  unfold spec_CleanUnit
  refine gcon func28 rfl fun r => ?_
  have hm := Mem.start w0
  refine gS (gR (gBx hm rfl fun aB w hm => gAl hm zeroValue28 rfl fun aC w hm => gA rfl (gE (gS (gR (gY (yn (hm.blk_at 1 rfl) isAgg28 sizeOf28 rfl) (gCg rfl call68 (spec_l10Each_ok _ u v1 (hm.now h1) (mkS [99, 108, 101, 97, 110])) ?_)))))))
  rintro aD aE aF w ⟨aA, rfl, hB⟩
  replace hm := hm.give hB; clear hB
  exact gX rfl (gX rfl (gSN hm 1 sizeOf28 (one_cons (rep_one (hm.ow_rep 0 rfl)) one_nil) rfl fun w hm => gA rfl (gE (gRt (grct 1 results28 hm rfl isAgg28 sizeOf28 ⟨aA, rfl, hm.pk [0] rfl rfl⟩)))))
theorem impl_mapped_impl_Block_impl_Block_ok (w0 : World) (list : List Block_) (v1 : Value) (h1 : GT.rep (hp w0) [v1] list) (f : Block_ → Option Block_) (fv1 : Value) (hfn1 : ∀ (w : World) (y0 : Block_) (z1 : Value) (_ : GT.rep (hp w) [z1] y0.phis) (z2 : Value) (_ : GT.rep (hp w) [z2] y0.ins) (z3 : Value) (_ : GT.rep (hp w) [z3] y0.next_) (r : Block_), Below w0.heap.size w0 w → f y0 = some r → FnOk Tryz.prog fv1 [(.agg #[z1, z2, nV y0.jump, nV y0.on, z3])] w (fun v w' => ∃ (x1 : Value) (x2 : Value) (x3 : Value), v = (.agg #[x1, x2, nV r.jump, nV r.on, x3]) ∧ Mem w (hp w) w' [ow [x1] r.phis, ow [x2] r.ins, ow [x3] r.next_])) :
    ConM Tryz.prog 161 [v1, fv1] w0 (impl_mapped_impl_Block_impl_Block list f) fun r v w' => ∃ (x1 : Value), v = x1 ∧ Mem w0 (hp w0) w' [ow [x1] r] := by
  unfold impl_mapped_impl_Block_impl_Block
  refine gcon func161 rfl fun r => ?_
  have hm := Mem.start w0
  refine gS (gR (gA rfl (gE (gS (gR (gA rfl (gE (gS (gS (gR (gM rfl ?_)))))))))))
  obtain ⟨aR, aS, rfl, ac⟩ := ro_slice h1
  refine gY (yV st_47 rfl) (gM rfl (gE (gBk ?_)))
  replace hm := hm.nilow (α := Block_)
  refine gNg (fun aN aC a w => ∃ (aD : Value), St 22 [(1, fv1), (5, aD), (8, (.slice aR list.length aS)), (9, (nV ((list.length : Int)))), (10, (nV aN))] w0 (hp w0) [ow [aD] aC] a w) (fun a hf => ⟨.slice none 0 0, hf.sb rfl, hm.pk [0] rfl rfl⟩) ?_ ?_
  ·repeat clear hm
   rintro _ _ aN aC a w ⟨aD, hf, hm⟩ ae af ag _
   refine gv hf (gS (gR (gB rfl (gE (gS (go _ 11 rfl (decide_eq_true (by omega)) (gct rfl (gSk (gS (gBk (gS (gR (gg fun aB aT aM => ?_)))))))))))))
   obtain ⟨ah, ai, aj, he⟩ := idx_form' h1 aM
   obtain ⟨rfl, _, rfl⟩ := sl3 he
   obtain ⟨aH, aI, aJ, aV, aO, aP, aQ⟩ := rk_Block_ h1 aM
   refine gI st_47 aT (idx_lt aM) rfl (gY (yn (aV.mono hm.lez) isAgg63 sizeOf63 rfl) (gAl hm zeroValue63 rfl fun aK w hm => gSN hm 0 sizeOf63 (one_cons (rep_one aO) (one_cons (rep_one aP) (one_cons rfl (one_cons rfl (one_cons (rep_one aQ) one_nil))))) rfl fun w hm => gE (gR (gM rfl (gM rfl (gY (yn (hm.blk_at 0 rfl) isAgg63 sizeOf63 rfl) (gb fun aA aW => gf rfl (fun a hf => e_callv hf rfl rfl rfl (hfn1 _ aB aH (hm.now aO) aI (hm.now aP) aJ (hm.now aQ) _ hm.below aW)) ?_)))))))
   rintro ak w ⟨aE, aF, aG, rfl, hB⟩
   replace hm := hm.give hB; clear hB
   refine gf rfl (fun a hf => e_build (vs := #[(0, (.agg #[aE, aF, nV aA.jump, nV aA.on, aG]))]) (cs := [aE, aF, nV aA.jump, nV aA.on, aG]) et_47 hf hm rfl rfl (by kernel_rfl) rfl rfl) ?_
   rintro _ w ⟨aL, rfl, hm⟩
   replace hm := hm.els_nil (α := Block_)
   replace hm := (mk_Block_ aA.jump aA.on hm 2 3 4 rfl).pk (L' := [els [] ([] : List Block_), blk aL [aE, aF, nV aA.jump, nV aA.on, aG] 63, ow [aE, aF, nV aA.jump, nV aA.on, aG] (aA : Block_), blk aK [aH, aI, nV aB.jump, nV aB.on, aJ] 63, ow [aD] aC]) [0, 1, 2, 5, 6] rfl rfl
   replace hm := (hm.els_cons 0 2 (by decide) rfl rfl).pk (L' := [els [aE, aF, nV aA.jump, nV aA.on, aG] ([aA] : List Block_), blk aL [aE, aF, nV aA.jump, nV aA.on, aG] 63, blk aK [aH, aI, nV aB.jump, nV aB.on, aJ] 63, ow [aD] aC]) [0, 1, 3, 4] rfl rfl
   replace hm := (hm.lit_els 1 0 (by decide) rfl rfl rfl rfl).pk (L' := [ow [sV aL 0 1 1] ([aA] : List Block_), blk aK [aH, aI, nV aB.jump, nV aB.on, aJ] 63, ow [aD] aC]) [1, 2, 3] rfl rfl
   refine gb fun am aX => ?_
   obtain ⟨aY, aZ⟩ := appM_some.1 aX
   replace hm := (hm.both 2 0 (by decide) rfl rfl).pk (L' := [blk aK [aH, aI, nV aB.jump, nV aB.on, aJ] 63, both (ow [aD] aC) (ow [sV aL 0 1 1] ([aA] : List Block_))]) [1, 2] rfl rfl
   refine gf rfl (fun a hf => e_appendD (xs := aC) (ys := ([aA] : List Block_)) 1 et_47 hf hm rfl rfl rfl rfl aY) ?_
   rintro aa w hm
   rw [aZ] at hm
   exact gA rfl (gE (gR (gP (by omega) (by omega) rfl (gM rfl (gE (gZe fun a hf => ⟨aa, hf.sb rfl, hm.pk [1] rfl rfl⟩))))))
  repeat clear hm
  rintro an ao a w ⟨ab, hf, hm⟩ ap aq
  exact gv hf (gS (gR (gB rfl (gE (gS (go _ 11 rfl (decide_eq_false (by omega)) (gcf rfl (gXt (gHh (gS (gR (gM rfl (gA rfl (gE (gRt (gr1 results161 rfl ⟨ab, rfl, hm.pk [0] rfl rfl⟩))))))))))))))))
theorem impl_cloneCode_ok (w0 : World) (c_ : Code_) (v1 : Value) (h1 : GT.rep (hp w0) [v1] c_.blocks) :
    ConM Tryz.prog 97 [(.agg #[nV c_.params, nV c_.regs, v1])] w0 (impl_cloneCode c_) fun r v w' => ∃ (x1 : Value), v = (.agg #[nV r.params, nV r.regs, x1]) ∧ Mem w0 (hp w0) w' [ow [x1] r.blocks] := by
  unfold impl_cloneCode
  refine gcon func97 rfl fun r => ?_
  have hm := Mem.start w0
  refine gS (gR (gBx hm rfl fun aH w hm => gAl hm zeroValue49 rfl fun aI w hm => gE (gS (gR (gF fo_49_2 rfl (gL hm 1 isAgg47 rfl (gCg rfl call161 (impl_mapped_impl_Block_impl_Block_ok _ c_.blocks v1 (hm.now h1) (fun y0 => impl_cloneBlock y0) (.func (.func 162) #[] #[]) (fun w y0 aA aB aC aD aE aF r hB hq => ⟨162, [], rfl, call162, impl_cloneBlock_ok w y0 aA aB aC aD aE aF  r hq⟩)) ?_)))))))
  rintro aJ aK aG w ⟨_, rfl, hB⟩
  replace hm := hm.give hB; clear hB
  exact gF fo_49_2 rfl (gS1 hm 2 sizeOf47 (rep_one (hm.ow_rep 0 rfl)) rfl fun w hm => gE (gS (gR (gY (yn (hm.blk_at 2 rfl) isAgg49 sizeOf49 rfl) (gSN hm 1 sizeOf49 (one_cons rfl (one_cons rfl (one_cons (rep_one (hm.ow_rep 0 rfl)) one_nil))) rfl fun w hm => gE (gRt (grc 1 results97 hm rfl isAgg49 sizeOf49 ⟨aG, rfl, hm.pk [0] rfl rfl⟩)))))))
theorem impl_even_ok (w0 : World) (c_ : Code_) (v1 : Value) (h1 : GT.rep (hp w0) [v1] c_.blocks) :
    ConM Tryz.prog 126 [(.agg #[nV c_.params, nV c_.regs, v1])] w0 (impl_even c_) fun r v w' => ∃ (x1 : Value), v = (.agg #[nV r.params, nV r.regs, x1]) ∧ Mem w0 (hp w0) w' [ow [x1] r.blocks] := by
  unfold impl_even
  refine gcon func126 rfl fun r => ?_
  have hm := Mem.start w0
  refine gS (gR (gBx hm rfl fun aF w hm => gAl hm zeroValue49 rfl fun aG w hm => gE (gS (gR (gY (yn (hm.blk_at 1 rfl) isAgg49 sizeOf49 rfl) (gCg rfl call97 (impl_cloneCode_ok _ c_ v1 (hm.now h1)) ?_))))))
  rintro aA an ao w ⟨ap, rfl, hB⟩
  replace hm := hm.give hB; clear hB
  refine gSN hm 2 sizeOf49 (one_cons rfl (one_cons rfl (one_cons (rep_one (hm.ow_rep 0 rfl)) one_nil))) rfl fun w hm => gE (gS (gS (gR (gF fo_49_2 rfl (gL hm 2 isAgg47 rfl ?_)))))
  obtain ⟨aP, aC, rfl, aq⟩ := ro_slice (hm.ow_rep 0 rfl)
  refine gY (yV st_47 rfl) (gM rfl (gE (gBk (gNf hm (fun aH aK => [(1, (pV aF)), (2, (pV aG)), (9, (nV ((aA.blocks.length : Int)))), (10, (nV aH))]) (fun aH aK => [blk aF [nV aA.params, nV aA.regs, .slice aP aA.blocks.length aC] 49, ow [.slice aP aA.blocks.length aC] aK, blk aG [nV 0, nV 0, .slice none 0 0] 49]) [2, 0, 1] rfl ?_ ?_))))
  ·repeat clear hm
   intro _ _ aH aK w hm ar au av _
   refine gS (gR (gB rfl (gE (gS (go _ 11 rfl (decide_eq_true (by omega)) (gct rfl (gSk (gS (gJ hm (fun aQ => [(1, (pV aF)), (2, (pV aG)), (9, (nV ((aA.blocks.length : Int)))), (10, (nV aH))]) (fun aQ => [blk aF [nV aA.params, nV aA.regs, .slice aP aA.blocks.length aC] 49, ow [.slice aP aA.blocks.length aC] aQ, blk aG [nV 0, nV 0, .slice none 0 0] 49]) (fun aQ => ?_) ?_)))))))))
   ·refine gBk (gS (gR (gM rfl (gA rfl (gE (gS (gR (gF fo_49_2 rfl (gL hm 0 isAgg47 rfl (gM rfl (gg fun aB aY aN => ?_)))))))))))
    obtain ⟨aD, aE, aw, he⟩ := idx_form' (hm.ow_rep 1 rfl) aN
    obtain ⟨rfl, _, rfl⟩ := sl3 he
    obtain ⟨ax, ay, az, bA, bB, bC, bD⟩ := rk_Block_ (hm.ow_rep 1 rfl) aN
    have hL2_1 := rep_slice_len (hm.ow_rep 1 rfl)
    refine gI st_47 aY (idx_lt2 aN hL2_1) rfl (gA rfl (gE (gS ?_)))
    obtain ⟨aI, aJ, aL, hm⟩ := pin_Block_ hm 1 rfl aN
    refine gJ hm (fun aR => [(1, (pV aF)), (2, (pV aG)), (4, (.pointer (some ⟨aD, aE + (aH).toNat * 5, none⟩))), (9, (nV ((aA.blocks.length : Int)))), (10, (nV aH)), (36, (.bool (aR)))]) (fun aR => [blk aF [nV aA.params, nV aA.regs, sV aD aE aA.blocks.length aC] 49, holeE aD aE aA.blocks.length aC (aK : List Block_) (aH).toNat [aI, aJ, nV aB.jump, nV aB.on, aL], ow [aI] aB.phis, ow [aJ] aB.ins, ow [aL] aB.next_, blk aG [nV 0, nV 0, .slice none 0 0] 49]) (fun aR => ?_) ?_
    ·refine gW (.p 0 (.p 1 (.p 2 (.e 3 (.p 4 (.p 5 (.p 6 (.p 7 (.p 8 (.p 12 (.p 13 (.p 14 (.q 9 (.p 10 (.q 11 (.e 15 (.p 16 (.e 17 (.p 18 (.p 19 .fin)) .nil)) .nil)))))))))))) .nil)))) [15, 17] [0, 1, 2, 4, 5, 6, 7, 8, 10, 12, 13, 14, 16, 18, 19] hm [0, 1, 2, 3, 4, 5] [ow [aL] aB.next_, ow [aJ] aB.ins, ow [aI] aB.phis, blk aF [nV aA.params, nV aA.regs, sV aD aE aA.blocks.length aC] 49, holeE aD aE aA.blocks.length aC (aK : List Block_) (aH).toNat [aI, aJ, nV aB.jump, nV aB.on, aL], blk aG [nV 0, nV 0, .slice none 0 0] 49] rfl mxo (by kernel_rfl) (fun _ _ _ h => h.2) fun w hm hS => tP rfl (fun w => yM rfl) (tP rfl (fun w => yG rfl (y_nilptr rfl rfl)) (tP rfl (fun w => yF fo_63_2 rfl) (tO (tY rfl (yl isAgg3 ((hm.holeE_at 4 rfl).cell (j := 2) rfl) rfl) (tAn rfl (tP rfl (fun w => yB rfl) (tP rfl (fun w => yM rfl) (gsd 22 rfl (fun aZ => ?_) fun aZ => ?_))))))))
     ·refine tP rfl (fun w => yM rfl) (tP rfl (fun w => yG rfl (y_nilptr rfl rfl)) (tP rfl (fun w => yF fo_63_4 rfl) (tP rfl (fun w => yM rfl) (tP rfl (fun w => yG rfl (y_nilptr rfl rfl)) (tP rfl (fun w => yF fo_63_4 rfl) (tQ rfl hS (fun w hm => yl isAgg43 ((hm.holeE_at 4 rfl).cell (j := 4) rfl) rfl) (gg fun aa ab aT => ?_)))))))
      obtain ⟨bE, bF, bG, he⟩ := idx_form (hm.ow_rep 0 rfl) aT
      subst he
      exact tP rfl (fun w => yI st_43 ab (idx_lt aT) rfl) (tQ rfl hS (fun w hm => yl isAgg3 ((flat_cells (cs := [nV aa]) (hm.ow_rep 0 rfl) aT rfl).cell (j := 0) rfl) rfl) (tO (tY rfl (yl isAgg43 ((hm.holeE_at 4 rfl).cell (j := 4) rfl) rfl) (tAs hS (gg fun ac ae aV => tP rfl (fun w => yI st_43 ae (idx_lt aV) rfl) (tO (tY rfl (yl isAgg3 ((flat_cells (cs := [nV ac]) (hm.ow_rep 0 rfl) aV rfl).cell (j := 0) rfl) rfl) (tAs hS (tP rfl (fun w => yB rfl) (tP rfl (fun w => yKt rfl) (tE (gz hm [3, 4, 2, 1, 0, 5] rfl))))))))))))
     exact tPo rfl rfl (tPo rfl rfl (tPo rfl rfl (tPo rfl rfl (tPo rfl rfl (tPo rfl rfl (tQo rfl hS rfl (tPo rfl rfl (tQo rfl hS rfl (tO (tEo rfl rfl (tAs hS (tPo rfl rfl (tO (tEo rfl rfl (tAs hS (tPo rfl rfl (tP rfl (fun w => yKf rfl) (tE (gz hm [3, 4, 2, 1, 0, 5] rfl)))))))))))))))))))
    repeat clear hm
    intro aR w hm
    refine gJ hm (fun aS => [(1, (pV aF)), (2, (pV aG)), (9, (nV ((aA.blocks.length : Int)))), (10, (nV aH))]) (fun aS => [blk aF [nV aA.params, nV aA.regs, sV aD aE aA.blocks.length aC] 49, ow [sV aD aE aA.blocks.length aC] aS, blk aG [nV 0, nV 0, .slice none 0 0] 49]) (fun aS => ?_) ?_
    ·refine gs 36 rfl (fun af => ?_) fun af => ?_
     ·refine gct rfl (gW (.p 0 (.p 1 (.p 2 (.p 3 (.p 4 (.p 5 (.e 6 (.p 7 (.p 8 (.p 9 (.e 10 (.p 11 (.p 12 (.e 13 (.p 14 (.p 15 (.e 16 .fin .nil))) .nil))) .nil)))) .nil))))))) [] [0, 1, 2, 3, 4, 5, 7, 8, 9, 11, 12, 14, 15] hm [0, 1, 2, 3, 4, 5] [blk aF [nV aA.params, nV aA.regs, sV aD aE aA.blocks.length aC] 49, holeE aD aE aA.blocks.length aC (aK : List Block_) (aH).toNat [aI, aJ, nV aB.jump, nV aB.on, aL], ow [aI] aB.phis, ow [aJ] aB.ins, ow [aL] aB.next_, blk aG [nV 0, nV 0, .slice none 0 0] 49] rfl mxo (by kernel_rfl) (fun _ _ _ h => h.2) fun w hm hS => tP rfl (fun w => yM rfl) (tP rfl (fun w => yM rfl) (tP rfl (fun w => yM rfl) (tP rfl (fun w => yM rfl) (tP rfl (fun w => yG rfl (y_nilptr rfl rfl)) (tP rfl (fun w => yF fo_63_4 rfl) (tO (tY rfl (yl isAgg43 ((hm.holeE_at 1 rfl).cell (j := 4) rfl) rfl) (tAn rfl (gb fun aO ag => ?_))))))))))
      obtain ⟨ah, ai⟩ := subM_some.1 ag
      have aj := (hm.ow_rep 4 rfl)
      obtain ⟨aM, aW⟩ : ∃ nv, nv = subC (GT.sz (Int)) aL (0 : Int).toNat (1 : Int).toNat := ⟨_, rfl⟩
      refine tP rfl (fun w => yG rfl (yl_eq aW (y_slcHC (α := Int) st_43 aj rfl rfl rfl rfl ah _))) (tP rfl (fun w => yG rfl (y_nilptr rfl rfl)) (tP rfl (fun w => yF fo_63_2 rfl) (tO ?_)))
      have ak : ∀ u ∈ ([nV 1] : List Value), u.oneCell' = true := (one_cons rfl one_nil)
      refine tf0 rfl rfl (fun a hf => e_storeH (j := 2) (vs := [nV 1]) 1 hf hm rfl rfl rfl sizeOf3 rfl rfl rfl ak rfl) ?_
      rintro _ w hm
      replace hm : Mem w0 (hp w0) _ [blk aF [nV aA.params, nV aA.regs, sV aD aE aA.blocks.length aC] 49, holeE aD aE aA.blocks.length aC (aK : List Block_) (aH).toNat [aI, aJ, nV 1, nV aB.on, aL], ow [aI] aB.phis, ow [aJ] aB.ins, ow [aL] aB.next_, blk aG [nV 0, nV 0, .slice none 0 0] 49] := hm
      refine tAn rfl (tP rfl (fun w => yG rfl (y_nilptr rfl rfl)) (tP rfl (fun w => yF fo_63_3 rfl) (tO ?_)))
      have am : ∀ u ∈ ([nV 0] : List Value), u.oneCell' = true := (one_cons rfl one_nil)
      refine tf0 rfl rfl (fun a hf => e_storeH (j := 3) (vs := [nV 0]) 1 hf hm rfl rfl rfl sizeOf3 rfl rfl rfl am rfl) ?_
      rintro _ w hm
      replace hm : Mem w0 (hp w0) _ [blk aF [nV aA.params, nV aA.regs, sV aD aE aA.blocks.length aC] 49, holeE aD aE aA.blocks.length aC (aK : List Block_) (aH).toNat [aI, aJ, nV 1, nV 0, aL], ow [aI] aB.phis, ow [aJ] aB.ins, ow [aL] aB.next_, blk aG [nV 0, nV 0, .slice none 0 0] 49] := hm
      refine tAn rfl (tP rfl (fun w => yG rfl (y_nilptr rfl rfl)) (tP rfl (fun w => yF fo_63_4 rfl) (tO ?_)))
      replace hm := hm.imp (c' := ow [aM] aO) 4 rfl (fun F h0 => by rw [aW, ← ai]; exact own_subC h0 (by omega) (by omega))
      have aX : ∀ u ∈ ([aM] : List Value), u.oneCell' = true := (one_cons (rep_one (hm.ow_rep 4 rfl)) one_nil)
      refine tf0 rfl rfl (fun a hf => e_storeH (j := 4) (vs := [aM]) 1 hf hm rfl rfl rfl sizeOf43 rfl rfl (cells_one (aX _ (List.mem_singleton.2 rfl))) aX rfl) ?_
      rintro _ w hm
      replace hm : Mem w0 (hp w0) _ [blk aF [nV aA.params, nV aA.regs, sV aD aE aA.blocks.length aC] 49, holeE aD aE aA.blocks.length aC (aK : List Block_) (aH).toNat [aI, aJ, nV 1, nV 0, aM], ow [aI] aB.phis, ow [aJ] aB.ins, ow [aM] aO, blk aG [nV 0, nV 0, .slice none 0 0] 49] := hm
      refine tAn rfl (tE ?_)
      replace hm := (mk_Block_ 1 0 hm 2 3 4 rfl).pk (L' := [blk aF [nV aA.params, nV aA.regs, sV aD aE aA.blocks.length aC] 49, holeE aD aE aA.blocks.length aC (aK : List Block_) (aH).toNat [aI, aJ, nV 1, nV 0, aM], ow [aI, aJ, nV 1, nV 0, aM] ((⟨aB.phis, aB.ins, 1, 0, aO⟩ : Block_) : Block_), blk aG [nV 0, nV 0, .slice none 0 0] 49]) [0, 1, 2, 5] rfl rfl
      replace hm := (hm.shutE (y := ((⟨aB.phis, aB.ins, 1, 0, aO⟩ : Block_) : Block_)) 1 2 (by decide) rfl rfl).pk (L' := [blk aF [nV aA.params, nV aA.regs, sV aD aE aA.blocks.length aC] 49, ow [sV aD aE aA.blocks.length aC] (aK.set (aH).toNat (⟨aB.phis, aB.ins, 1, 0, aO⟩ : Block_)), blk aG [nV 0, nV 0, .slice none 0 0] 49]) [0, 1, 3] rfl rfl
      have bH := List.getElem?_set_self (a := ((⟨aB.phis, aB.ins, 1, 0, aO⟩ : Block_) : Block_)) (idx_lt aN)
      exact gz hm [0, 1, 2] rfl
     refine gcf rfl (gSk ?_)
     replace hm := (mk_Block_ aB.jump aB.on hm 2 3 4 rfl).pk (L' := [blk aF [nV aA.params, nV aA.regs, sV aD aE aA.blocks.length aC] 49, holeE aD aE aA.blocks.length aC (aK : List Block_) (aH).toNat [aI, aJ, nV aB.jump, nV aB.on, aL], ow [aI, aJ, nV aB.jump, nV aB.on, aL] (aB : Block_), blk aG [nV 0, nV 0, .slice none 0 0] 49]) [0, 1, 2, 5] rfl rfl
     replace hm := (hm.shutE (y := (aB : Block_)) 1 2 (by decide) rfl rfl).pk (L' := [blk aF [nV aA.params, nV aA.regs, sV aD aE aA.blocks.length aC] 49, ow [sV aD aE aA.blocks.length aC] (aK.set (aH).toNat aB), blk aG [nV 0, nV 0, .slice none 0 0] 49]) [0, 1, 3] rfl rfl
     rw [set_same aN] at hm
     exact gz hm [0, 1, 2] rfl
    repeat clear hm
    intro aS w hm
    exact gz hm [0, 1, 2] rfl
   repeat clear hm
   intro aQ w hm
   exact gR (gP (by omega) (by omega) rfl (gM rfl (gE (gze hm [0, 1, 2] rfl))))
  repeat clear hm
  intro bJ bK w hm bL bM
  exact gS (gR (gB rfl (gE (gS (go _ 11 rfl (decide_eq_false (by omega)) (gcf rfl (gXt (gHh (gS (gR (gY (yn (hm.blk_at 0 rfl) isAgg49 sizeOf49 rfl) (gSN hm 2 sizeOf49 (one_cons rfl (one_cons rfl (one_cons rfl one_nil))) rfl fun w hm => gE (gRt (grc 2 results126 hm rfl isAgg49 sizeOf49 ⟨.slice aP aA.blocks.length aC, rfl, hm.pk [1] rfl rfl⟩))))))))))))))
theorem impl_isEmpty_ok (w0 : World) (c_ : Code_) (v1 : Value) (h1 : GT.rep (hp w0) [v1] c_.blocks) (b_ : Int) :
    ConM Tryz.prog 206 [(.agg #[nV c_.params, nV c_.regs, v1]), nV b_] w0 (impl_isEmpty c_ b_) fun r v w' => v = (.bool (r)) ∧ Below w0.heap.size w0 w' := by
  unfold impl_isEmpty
  refine gcon func206 rfl fun r => ?_
  have hm := Mem.start w0
  refine gS (gR (gBx hm rfl fun aK w hm => gA rfl (gE (gS (gR (gF fo_49_2 rfl (gL hm 0 isAgg47 rfl (gM rfl (gg fun aL aE aB => ?_)))))))))
  obtain ⟨aM, aN, aO, he⟩ := idx_form' h1 aB
  subst he
  obtain ⟨aP, aQ, aR, aF, aC, aD, aG⟩ := rk_Block_ h1 aB
  refine gI st_47 aE (idx_lt aB) rfl (gY (yn (aF.mono hm.lez) isAgg63 sizeOf63 rfl) (gAl hm zeroValue63 rfl fun aS w hm => gSN hm 0 sizeOf63 (one_cons (rep_one aC) (one_cons (rep_one aD) (one_cons rfl (one_cons rfl (one_cons (rep_one aG) one_nil))))) rfl fun w hm => gE (gS (gJ hm (fun aA => [(4, (.bool (aA)))]) (fun aA => []) (fun aA => ?_) ?_))))
  ·refine gR (gM rfl (gB rfl (gM rfl (gsd 13 rfl (fun aH => ?_) fun aH => ?_))))
   ·refine gF fo_63_0 rfl (gL hm 0 isAgg60 rfl ?_)
    obtain ⟨aT, aV, rfl, aW⟩ := ro_slice aC
    refine gY (yV st_60 rfl) (gB rfl (gKt rfl (gM rfl (gsd 19 rfl (fun aI => ?_) fun aI => ?_))))
    ·refine gF fo_63_1 rfl (gL hm 0 isAgg61 rfl ?_)
     obtain ⟨aX, aY, rfl, aZ⟩ := ro_slice aD
     refine gY (yV st_61 rfl) (gB rfl (gKt rfl (gM rfl (gsd 25 rfl (fun aJ => ?_) fun aJ => ?_))))
     ·exact gF fo_63_2 rfl (gL hm 0 isAgg3 rfl (gB rfl (gKt rfl (gA rfl (gE (gz hm [] rfl))))))
     exact gO rfl (gO rfl (gO rfl (gKf rfl (gA rfl (gE (gz hm [] rfl))))))
    exact gO rfl (gO rfl (gO rfl (gO rfl (gKf rfl (gM rfl (gO rfl (gO rfl (gO rfl (gKf rfl (gA rfl (gE (gz hm [] rfl))))))))))))
   exact gO rfl (gO rfl (gO rfl (gO rfl (gKf rfl (gM rfl (gO rfl (gO rfl (gO rfl (gO rfl (gKf rfl (gM rfl (gO rfl (gO rfl (gO rfl (gKf rfl (gA rfl (gE (gz hm [] rfl))))))))))))))))))
  repeat clear hm
  intro aA w hm
  exact gRt (gr1 results206 rfl ⟨rfl, hm.below⟩)
theorem impl_skipEmpty_ok (w0 : World) (c_ : Code_) (v1 : Value) (h1 : GT.rep (hp w0) [v1] c_.blocks) :
    ConM Tryz.prog 125 [(.agg #[nV c_.params, nV c_.regs, v1])] w0 (impl_skipEmpty c_) fun r v w' => ∃ (x1 : Value), v = (.agg #[nV r.params, nV r.regs, x1]) ∧ Mem w0 (hp w0) w' [ow [x1] r.blocks] := by
  unfold impl_skipEmpty
  refine gcon func125 rfl fun r => ?_
  have hm := Mem.start w0
  refine gS (gR (gBx hm rfl fun aG w hm => gAl hm zeroValue49 rfl fun aH w hm => gE (gSc (gS (gR (gY (yn (hm.blk_at 1 rfl) isAgg49 sizeOf49 rfl) (gCg rfl call97 (impl_cloneCode_ok _ c_ v1 (hm.now h1)) ?_)))))))
  rintro aA bZ b8 w ⟨b9, rfl, hB⟩
  replace hm := hm.give hB; clear hB
  refine gSN hm 2 sizeOf49 (one_cons rfl (one_cons rfl (one_cons (rep_one (hm.ow_rep 0 rfl)) one_nil))) rfl fun w hm => gE (gS (gLb ?_))
  obtain ⟨aV, aC, rfl, ba⟩ := ro_slice (hm.ow_rep 0 rfl)
  refine gBk (gMf hm (fun aL => [(1, (pV aG)), (2, (pV aH))]) (fun aL => [blk aG [nV aA.params, nV aA.regs, .slice aV aA.blocks.length aC] 49, ow [.slice aV aA.blocks.length aC] aL, blk aH [nV 0, nV 0, .slice none 0 0] 49]) [2, 0, 1] rfl ?_)
  repeat clear hm
  intro bb bB aL w hm bc bC
  refine gJe hm (fun ao => [(1, (pV aG)), (2, (pV aH))]) (fun ao => [blk aG [nV aA.params, nV aA.regs, .slice aV aA.blocks.length aC] 49, ow [.slice aV aA.blocks.length aC] ao, blk aH [nV 0, nV 0, .slice none 0 0] 49]) (fun bd bD => ?_) ?_
  ·refine gBk (gS (gS (gR (gF fo_49_2 rfl (gL hm 0 isAgg47 rfl ?_)))))
   have be := rep_len (hm.ow_rep 1 rfl)
   refine gY (yV st_47 rfl) (gM rfl (gE (gBk (gNf hm (fun aK av => [(1, (pV aG)), (2, (pV aH)), (12, (.slice aV aA.blocks.length aC)), (13, (nV ((aA.blocks.length : Int)))), (14, (nV aK))]) (fun aK av => [blk aG [nV aA.params, nV aA.regs, .slice aV aA.blocks.length aC] 49, ow [.slice aV aA.blocks.length aC] aL, blk aH [nV 0, nV 0, .slice none 0 0] 49]) [0, 1, 2] rfl ?_ ?_))))
   ·repeat clear hm
    intro bf bE aK av w hm bg bh bi bF
    refine gS (gR (gB rfl (gE (gS (go _ 15 rfl (decide_eq_true (by omega)) (gct rfl (gSk (gS (gBk (gS (gR (gM rfl (gg fun aB bG aT => ?_)))))))))))))
    obtain ⟨aE, aF, bj, he⟩ := idx_form' (hm.ow_rep 1 rfl) aT
    obtain ⟨rfl, _, rfl⟩ := sl3 he
    obtain ⟨bk, bl, bm, bo, bp, bq, br⟩ := rk_Block_ (hm.ow_rep 1 rfl) aT
    have hL3_1 := rep_slice_len (hm.ow_rep 1 rfl)
    refine gI st_47 bG (idx_lt2 aT hL3_1) rfl ?_
    obtain ⟨aI, aJ, aN, hm⟩ := pin_Block_ hm 1 rfl aT
    refine gY (yn (hm.holeE_at 4 rfl) isAgg63 sizeOf63 rfl) (gAl hm zeroValue63 rfl fun aM w hm => gA rfl (gSN hm 0 sizeOf63 (one_cons (rep_one (hm.ow_rep 3 rfl)) (one_cons (rep_one (hm.ow_rep 2 rfl)) (one_cons rfl (one_cons rfl (one_cons (rep_one (hm.ow_rep 1 rfl)) one_nil))))) rfl fun w hm => gE (gS (gS (gJ hm (fun ag => [(1, (pV aG)), (2, (pV aH)), (3, (nV aK)), (4, (pV aM)), (12, (sV aE aF aA.blocks.length aC)), (13, (nV ((aA.blocks.length : Int)))), (14, (nV aK)), (50, (.bool (ag)))]) (fun ag => [blk aG [nV aA.params, nV aA.regs, sV aE aF aA.blocks.length aC] 49, holeE aE aF aA.blocks.length aC (aL : List Block_) (aK).toNat [aI, aJ, nV aB.jump, nV aB.on, aN], ow [aI] aB.phis, ow [aJ] aB.ins, ow [aN] aB.next_, blk aH [nV 0, nV 0, .slice none 0 0] 49, blk aM [aI, aJ, nV aB.jump, nV aB.on, aN] 63]) (fun ag => ?_) ?_)))))
    ·refine gW (.p 1 (.e 0 (.e 2 (.p 3 (.p 4 (.p 5 (.p 9 (.e 6 (.p 7 (.e 8 (.p 10 (.p 11 (.p 12 (.p 13 (.p 15 (.q 14 (.e 16 (.p 17 (.e 18 (.p 19 (.p 20 (.e 21 (.p 22 (.p 23 (.p 24 (.p 25 (.p 27 (.e 26 (.e 28 (.p 29 (.p 30 (.p 31 .fin))) .nil) .nil)))))) .nil))) .nil)) .nil))))))) .nil)) .nil))))) .nil) .nil)) [16, 18] [1, 3, 4, 5, 7, 9, 10, 11, 12, 13, 15, 17, 19, 20, 22, 23, 24, 25, 27, 29, 30, 31] hm [0, 1, 2, 3, 4, 5, 6] [blk aM [aI, aJ, nV aB.jump, nV aB.on, aN] 63, ow [aN] aB.next_, ow [aJ] aB.ins, ow [aI] aB.phis, blk aG [nV aA.params, nV aA.regs, sV aE aF aA.blocks.length aC] 49, holeE aE aF aA.blocks.length aC (aL : List Block_) (aK).toNat [aI, aJ, nV aB.jump, nV aB.on, aN], blk aH [nV 0, nV 0, .slice none 0 0] 49] rfl mxo (by kernel_rfl) (fun _ _ _ h => h.2) fun w hm hS => tP rfl (fun w => yM rfl) (tO (tY rfl (yn (hm.blk_at 4 rfl) isAgg49 sizeOf49 rfl) (tAn rfl (tO ?_))))
     have hmS := hm
     replace hm := (mk_Block_ aB.jump aB.on hm 3 2 1 rfl).pk (L' := [blk aM [aI, aJ, nV aB.jump, nV aB.on, aN] 63, ow [aI, aJ, nV aB.jump, nV aB.on, aN] (aB : Block_), blk aG [nV aA.params, nV aA.regs, sV aE aF aA.blocks.length aC] 49, holeE aE aF aA.blocks.length aC (aL : List Block_) (aK).toNat [aI, aJ, nV aB.jump, nV aB.on, aN], blk aH [nV 0, nV 0, .slice none 0 0] 49]) [0, 3, 4, 5, 6] rfl rfl
     replace hm := (hm.shutE (y := (aB : Block_)) 3 1 (by decide) rfl rfl).pk (L' := [blk aM [aI, aJ, nV aB.jump, nV aB.on, aN] 63, blk aG [nV aA.params, nV aA.regs, sV aE aF aA.blocks.length aC] 49, ow [sV aE aF aA.blocks.length aC] (aL.set (aK).toNat aB), blk aH [nV 0, nV 0, .slice none 0 0] 49]) [0, 2, 3, 4] rfl rfl
     rw [set_same aT] at hm
     have bH := hm.ow_rep 2 rfl
     replace hm := hmS
     refine gb fun bt bJ => tf rfl rfl (fun a hf => e_call hf rfl call206 rfl (impl_isEmpty_ok _ (⟨aA.params, aA.regs, aL⟩ : Code_) (sV aE aF aA.blocks.length aC) bH aK _ bJ)) ?_
     rintro bu w ⟨rfl, hB⟩
     replace hm := hm.below' hB; clear hB
     refine tAk hm [0, 1, 2, 3, 4, 5, 6] rfl fun hS => tP rfl (fun w => yN rfl) (tP rfl (fun w => yM rfl) (gsn 23 rfl (fun bK => ?_) fun bK => ?_))
     ·refine tPo rfl rfl (tPo rfl rfl (tO (tEo rfl rfl (tAn rfl (tPo rfl rfl (tO (tEo rfl rfl (tAn rfl (tPo rfl rfl (tP rfl (fun w => yKt rfl) (tP rfl (fun w => yM rfl) (tPo rfl rfl (tPo rfl rfl (tQo rfl hS rfl (tO (tEo rfl rfl (tAs hS (tPo rfl rfl (tO (tEo rfl rfl (tAs hS (tPo rfl rfl (tPo rfl rfl (tO (tEo rfl rfl (tAn rfl (tPo rfl rfl (tPo rfl rfl (tP rfl (fun w => yKt rfl) (tP rfl (fun w => yM rfl) ?_))))))))))))))))))))))))))))))
      exact tPo rfl rfl (tO (tEo rfl rfl (tAn rfl (tO (tEo rfl rfl (tAn rfl (tPo rfl rfl (tPo rfl rfl (tP rfl (fun w => yKt rfl) (tE (gz hm [4, 5, 3, 2, 1, 6, 0] rfl)))))))))))
     refine tP rfl (fun w => yF fo_63_4 rfl) (tP rfl (fun w => yM rfl) (tO (tY rfl (yL hm 0 isAgg43 rfl) (tAn rfl (gg fun aw ax ac => ?_)))))
     obtain ⟨aP, aQ, aR, he⟩ := idx_form (hm.ow_rep 1 rfl) ac
     subst he
     refine tP rfl (fun w => yI st_43 ax (idx_lt ac) rfl) (tO (tY rfl (yl isAgg3 ((flat_cells (cs := [nV aw]) (hm.ow_rep 1 rfl) ac rfl).cell (j := 0) rfl) rfl) (tAn rfl (tP rfl (fun w => yB rfl) (tP rfl (fun w => yKf rfl) (tP rfl (fun w => yM rfl) (gsd 31 rfl (fun bL => ?_) fun bL => ?_)))))))
     ·exact tPo rfl rfl (tPo rfl rfl (tQo rfl hS rfl (tO (tEo rfl rfl (tAs hS (tPo rfl rfl (tO (tEo rfl rfl (tAs hS (tPo rfl rfl (tPo rfl rfl (tO (tEo rfl rfl (tAn rfl (tPo rfl rfl (tPo rfl rfl (tP rfl (fun w => yKt rfl) (tP rfl (fun w => yM rfl) (tPo rfl rfl (tO (tEo rfl rfl (tAn rfl (tO (tEo rfl rfl (tAn rfl (tPo rfl rfl (tPo rfl rfl (tP rfl (fun w => yKt rfl) (tE (gz hm [4, 5, 3, 2, 1, 6, 0] rfl))))))))))))))))))))))))))))))
     refine tP rfl (fun w => yF fo_49_2 rfl) (tP rfl (fun w => yF fo_63_4 rfl) (tQ rfl hS (fun w hm => yL hm 4 isAgg47 rfl) (tO (tY rfl (yL hm 0 isAgg43 rfl) (tAs hS (tP rfl (fun w => yI st_43 ax (idx_lt ac) rfl) (tO (tY rfl (yl isAgg3 ((flat_cells (cs := [nV aw]) (hm.ow_rep 1 rfl) ac rfl).cell (j := 0) rfl) rfl) (tAs hS (gg fun bv bM ay => ?_))))))))))
     have hmS := hm
     replace hm := (mk_Block_ aB.jump aB.on hm 3 2 1 rfl).pk (L' := [blk aM [aI, aJ, nV aB.jump, nV aB.on, sV aP aQ aB.next_.length aR] 63, ow [aI, aJ, nV aB.jump, nV aB.on, sV aP aQ aB.next_.length aR] (aB : Block_), blk aG [nV aA.params, nV aA.regs, sV aE aF aA.blocks.length aC] 49, holeE aE aF aA.blocks.length aC (aL : List Block_) (aK).toNat [aI, aJ, nV aB.jump, nV aB.on, sV aP aQ aB.next_.length aR], blk aH [nV 0, nV 0, .slice none 0 0] 49]) [0, 3, 4, 5, 6] rfl rfl
     replace hm := (hm.shutE (y := (aB : Block_)) 3 1 (by decide) rfl rfl).pk (L' := [blk aM [aI, aJ, nV aB.jump, nV aB.on, sV aP aQ aB.next_.length aR] 63, blk aG [nV aA.params, nV aA.regs, sV aE aF aA.blocks.length aC] 49, ow [sV aE aF aA.blocks.length aC] (aL.set (aK).toNat aB), blk aH [nV 0, nV 0, .slice none 0 0] 49]) [0, 2, 3, 4] rfl rfl
     rw [set_same aT] at hm
     have bN := hm.ow_rep 2 rfl
     replace hm := hmS
     obtain ⟨bw, bx, bz, bO, bP, cA, cB⟩ := rk_Block_ bN ay
     have hmS := hm
     replace hm := (mk_Block_ aB.jump aB.on hm 3 2 1 rfl).pk (L' := [blk aM [aI, aJ, nV aB.jump, nV aB.on, sV aP aQ aB.next_.length aR] 63, ow [aI, aJ, nV aB.jump, nV aB.on, sV aP aQ aB.next_.length aR] (aB : Block_), blk aG [nV aA.params, nV aA.regs, sV aE aF aA.blocks.length aC] 49, holeE aE aF aA.blocks.length aC (aL : List Block_) (aK).toNat [aI, aJ, nV aB.jump, nV aB.on, sV aP aQ aB.next_.length aR], blk aH [nV 0, nV 0, .slice none 0 0] 49]) [0, 3, 4, 5, 6] rfl rfl
     replace hm := (hm.shutE (y := (aB : Block_)) 3 1 (by decide) rfl rfl).pk (L' := [blk aM [aI, aJ, nV aB.jump, nV aB.on, sV aP aQ aB.next_.length aR] 63, blk aG [nV aA.params, nV aA.regs, sV aE aF aA.blocks.length aC] 49, ow [sV aE aF aA.blocks.length aC] (aL.set (aK).toNat aB), blk aH [nV 0, nV 0, .slice none 0 0] 49]) [0, 2, 3, 4] rfl rfl
     rw [set_same aT] at hm
     have bQ := hm.ow_rep 2 rfl
     replace hm := hmS
     have hL4_1 := rep_slice_len bQ
     refine tP rfl (fun w => yI st_47 bM (idx_lt2 ay hL4_1) rfl) (tP rfl (fun w => yF fo_63_0 rfl) (tO (tY rfl (yl isAgg60 (bO.cell (j := 0) rfl) rfl) (tAn rfl ?_))))
     obtain ⟨cC, cD, rfl, cE⟩ := ro_slice bP
     refine tP rfl (fun w => yV st_60 rfl) (tP rfl (fun w => yB rfl) (tP rfl (fun w => yKf rfl) (tP rfl (fun w => yM rfl) (gsd 44 rfl (fun bR => ?_) fun bR => ?_))))
     ·exact tPo rfl rfl (tO (tEo rfl rfl (tAn rfl (tO (tEo rfl rfl (tAn rfl (tPo rfl rfl (tPo rfl rfl (tP rfl (fun w => yKt rfl) (tE (gz hm [4, 5, 3, 2, 1, 6, 0] rfl)))))))))))
     refine tP rfl (fun w => yM rfl) (tO (tY rfl (yn (hm.blk_at 4 rfl) isAgg49 sizeOf49 rfl) (tAn rfl (tO ?_))))
     have hmS := hm
     replace hm := (mk_Block_ aB.jump aB.on hm 3 2 1 rfl).pk (L' := [blk aM [aI, aJ, nV aB.jump, nV aB.on, sV aP aQ aB.next_.length aR] 63, ow [aI, aJ, nV aB.jump, nV aB.on, sV aP aQ aB.next_.length aR] (aB : Block_), blk aG [nV aA.params, nV aA.regs, sV aE aF aA.blocks.length aC] 49, holeE aE aF aA.blocks.length aC (aL : List Block_) (aK).toNat [aI, aJ, nV aB.jump, nV aB.on, sV aP aQ aB.next_.length aR], blk aH [nV 0, nV 0, .slice none 0 0] 49]) [0, 3, 4, 5, 6] rfl rfl
     replace hm := (hm.shutE (y := (aB : Block_)) 3 1 (by decide) rfl rfl).pk (L' := [blk aM [aI, aJ, nV aB.jump, nV aB.on, sV aP aQ aB.next_.length aR] 63, blk aG [nV aA.params, nV aA.regs, sV aE aF aA.blocks.length aC] 49, ow [sV aE aF aA.blocks.length aC] (aL.set (aK).toNat aB), blk aH [nV 0, nV 0, .slice none 0 0] 49]) [0, 2, 3, 4] rfl rfl
     rw [set_same aT] at hm
     have bS := hm.ow_rep 2 rfl
     replace hm := hmS
     refine gb fun cF bT => tf rfl rfl (fun a hf => e_call hf rfl call113 rfl (impl_PredsOf_ok _ (⟨aA.params, aA.regs, aL⟩ : Code_) (sV aE aF aA.blocks.length aC) bS aK _ bT)) ?_
     rintro cG w ⟨_, rfl, hB⟩
     replace hm := hm.give hB; clear hB
     refine tAn rfl ?_
     obtain ⟨cH, cI, rfl, cJ⟩ := ro_slice (hm.ow_rep 0 rfl)
     exact tP rfl (fun w => yV st_43 rfl) (tP rfl (fun w => yB rfl) (tP rfl (fun w => yKf rfl) (tE (gz hm [5, 6, 4, 3, 2, 7, 1] rfl))))
    repeat clear hm
    intro ag w hm
    refine gs 50 rfl (fun bU => ?_) fun bU => ?_
    ·refine gct rfl (gXt (gHh ?_))
     replace hm := (mk_Block_ aB.jump aB.on hm 2 3 4 rfl).pk (L' := [blk aG [nV aA.params, nV aA.regs, sV aE aF aA.blocks.length aC] 49, holeE aE aF aA.blocks.length aC (aL : List Block_) (aK).toNat [aI, aJ, nV aB.jump, nV aB.on, aN], ow [aI, aJ, nV aB.jump, nV aB.on, aN] (aB : Block_), blk aH [nV 0, nV 0, .slice none 0 0] 49, blk aM [aI, aJ, nV aB.jump, nV aB.on, aN] 63]) [0, 1, 2, 5, 6] rfl rfl
     replace hm := (hm.shutE (y := (aB : Block_)) 1 2 (by decide) rfl rfl).pk (L' := [blk aG [nV aA.params, nV aA.regs, sV aE aF aA.blocks.length aC] 49, ow [sV aE aF aA.blocks.length aC] (aL.set (aK).toNat aB), blk aH [nV 0, nV 0, .slice none 0 0] 49, blk aM [aI, aJ, nV aB.jump, nV aB.on, aN] 63]) [0, 1, 3, 4] rfl rfl
     rw [set_same aT] at hm
     exact gR (gP (by omega) (by omega) rfl (gM rfl (gE (gze hm [0, 1, 2] rfl))))
    refine gcf rfl (gSk (gS (gR (gF fo_63_4 rfl (gL hm 6 isAgg43 rfl (gg fun aW bV ap => ?_))))))
    obtain ⟨ah, ai, aj, he⟩ := idx_form (hm.ow_rep 4 rfl) ap
    subst he
    refine gI st_43 bV (idx_lt ap) rfl (gY (yl isAgg3 ((flat_cells (cs := [nV aW]) (hm.ow_rep 4 rfl) ap rfl).cell (j := 0) rfl) rfl) (gA rfl (gE (gS (gS ?_)))))
    replace hm := (mk_Block_ aB.jump aB.on hm 2 3 4 rfl).pk (L' := [blk aG [nV aA.params, nV aA.regs, sV aE aF aA.blocks.length aC] 49, holeE aE aF aA.blocks.length aC (aL : List Block_) (aK).toNat [aI, aJ, nV aB.jump, nV aB.on, sV ah ai aB.next_.length aj], ow [aI, aJ, nV aB.jump, nV aB.on, sV ah ai aB.next_.length aj] (aB : Block_), blk aH [nV 0, nV 0, .slice none 0 0] 49, blk aM [aI, aJ, nV aB.jump, nV aB.on, sV ah ai aB.next_.length aj] 63]) [0, 1, 2, 5, 6] rfl rfl
    replace hm := (hm.shutE (y := (aB : Block_)) 1 2 (by decide) rfl rfl).pk (L' := [blk aG [nV aA.params, nV aA.regs, sV aE aF aA.blocks.length aC] 49, ow [sV aE aF aA.blocks.length aC] (aL.set (aK).toNat aB), blk aH [nV 0, nV 0, .slice none 0 0] 49, blk aM [aI, aJ, nV aB.jump, nV aB.on, sV ah ai aB.next_.length aj] 63]) [0, 1, 3, 4] rfl rfl
    rw [set_same aT] at hm
    refine gR (gF fo_49_2 rfl (gL hm 0 isAgg47 rfl (gY (yV st_47 rfl) (gM rfl (gE (gBk (gNf hm (fun aO aX => [(1, (pV aG)), (2, (pV aH)), (3, (nV aK)), (5, (nV aW)), (57, (nV ((aA.blocks.length : Int)))), (58, (nV aO))]) (fun aO aX => [blk aG [nV aA.params, nV aA.regs, sV aE aF aA.blocks.length aC] 49, ow [sV aE aF aA.blocks.length aC] aX, blk aH [nV 0, nV 0, .slice none 0 0] 49]) [0, 1, 2] rfl ?_ ?_)))))))
    ·repeat clear hm
     intro _ _ aO aX w hm cK cL cM _
     refine gS (gR (gB rfl (gE (gS (go _ 59 rfl (decide_eq_true (by omega)) (gct rfl (gSk (gS (gBk (gS (gR (gM rfl (gA rfl (gE (gS (gR (gF fo_49_2 rfl (gL hm 0 isAgg47 rfl (gM rfl (gg fun aD az ae => ?_))))))))))))))))))))
     obtain ⟨cN, cO, cP, cQ, cR, cS, cT⟩ := rk_Block_ (hm.ow_rep 1 rfl) ae
     have hL4_2 := rep_slice_len (hm.ow_rep 1 rfl)
     refine gI st_47 az (idx_lt2 ae hL4_2) rfl (gF fo_63_4 rfl ?_)
     obtain ⟨aY, aZ, cU, hm⟩ := pin_Block_ hm 1 rfl ae
     refine gY (yl isAgg43 ((hm.holeE_at 4 rfl).cell (j := 4) rfl) rfl) ?_
     obtain ⟨aa, aS, rfl, cV⟩ := ro_slice (hm.ow_rep 0 rfl)
     refine gY (yV st_43 rfl) (gM rfl (gE (gBk (gNf hm (fun af aq => [(1, (pV aG)), (2, (pV aH)), (3, (nV aK)), (5, (nV aW)), (6, (nV aO)), (57, (nV ((aA.blocks.length : Int)))), (58, (nV aO)), (66, (.slice aa aD.next_.length aS)), (67, (nV ((aD.next_.length : Int)))), (68, (nV af))]) (fun af aq => [blk aG [nV aA.params, nV aA.regs, sV aE aF aA.blocks.length aC] 49, holeE aE aF aA.blocks.length aC (aX : List Block_) (aO).toNat [aY, aZ, nV aD.jump, nV aD.on, .slice aa aD.next_.length aS], ow [aY] aD.phis, ow [aZ] aD.ins, ow [.slice aa aD.next_.length aS] aq, blk aH [nV 0, nV 0, .slice none 0 0] 49]) [3, 4, 2, 1, 0, 5] rfl ?_ ?_))))
     ·repeat clear hm
      intro _ _ af aq w hm cW cX cY _
      refine gS (gR (gB rfl (gE (gS (go _ 69 rfl (decide_eq_true (by omega)) (gct rfl (gSk (gS (gJ hm (fun ak => [(1, (pV aG)), (2, (pV aH)), (3, (nV aK)), (5, (nV aW)), (6, (nV aO)), (57, (nV ((aA.blocks.length : Int)))), (58, (nV aO)), (66, (.slice aa aD.next_.length aS)), (67, (nV ((aD.next_.length : Int)))), (68, (nV af))]) (fun ak => [blk aG [nV aA.params, nV aA.regs, sV aE aF aA.blocks.length aC] 49, holeE aE aF aA.blocks.length aC (aX : List Block_) (aO).toNat [aY, aZ, nV aD.jump, nV aD.on, .slice aa aD.next_.length aS], ow [aY] aD.phis, ow [aZ] aD.ins, ow [.slice aa aD.next_.length aS] ak, blk aH [nV 0, nV 0, .slice none 0 0] 49]) (fun ak => ?_) ?_)))))))))
      ·refine gBk (gS (gR (gM rfl (gg fun bW bA ab => ?_))))
       obtain ⟨ar, au, cZ, he⟩ := idx_form (hm.ow_rep 4 rfl) ab
       obtain ⟨rfl, _, rfl⟩ := sl3 he
       have hL6_1 := rep_slice_len (hm.ow_rep 4 rfl)
       refine gI st_43 bA (idx_lt2 ab hL6_1) rfl (gY (yl isAgg3 ((flat_cells (cs := [nV bW]) (hm.ow_rep 4 rfl) ab rfl).cell (j := 0) rfl) rfl) (gA rfl (gA rfl (gE (gS (gR (gM rfl (gM rfl (gB rfl (gE (gJ hm (fun am => [(1, (pV aG)), (2, (pV aH)), (3, (nV aK)), (5, (nV aW)), (6, (nV aO)), (57, (nV ((aA.blocks.length : Int)))), (58, (nV aO)), (66, (sV ar au aD.next_.length aS)), (67, (nV ((aD.next_.length : Int)))), (68, (nV af))]) (fun am => [blk aG [nV aA.params, nV aA.regs, sV aE aF aA.blocks.length aC] 49, holeE aE aF aA.blocks.length aC (aX : List Block_) (aO).toNat [aY, aZ, nV aD.jump, nV aD.on, sV ar au aD.next_.length aS], ow [aY] aD.phis, ow [aZ] aD.ins, ow [sV ar au aD.next_.length aS] am, blk aH [nV 0, nV 0, .slice none 0 0] 49]) (fun am => ?_) ?_)))))))))))
       ·refine gsd 75 rfl (fun bX => ?_) fun bX => ?_
        ·refine gct rfl (gR (gF fo_49_2 rfl (gL hm 0 isAgg47 rfl (gM rfl ?_))))
         have hL7_1 := hm.holeE_len 1 rfl
         refine gI st_47 az (idx_lt2 ae hL7_1) rfl (gF fo_63_4 rfl (gY (yl isAgg43 ((hm.holeE_at 1 rfl).cell (j := 4) rfl) rfl) (gM rfl (gM rfl ?_))))
         have hL7_2 := rep_slice_len (hm.ow_rep 4 rfl)
         refine gI st_43 bA (idx_lt2 ab hL7_2) rfl (gf0 rfl (fun a hf => e_setElem (x1 := aW) (j := 0) (vs := [nV aW]) 4 hf hm rfl ab rfl sizeOf3 rfl rfl rfl (one_cons rfl one_nil) rfl rfl) ?_)
         rintro _ w hm
         have c4 := List.getElem?_set_self (a := aW) (idx_lt ab)
         exact gE (gz hm [0, 1, 2, 3, 4, 5] rfl)
        exact gcf rfl (gSk (gz hm [0, 1, 2, 3, 4, 5] rfl))
       repeat clear hm
       intro am w hm
       exact gz hm [0, 1, 2, 3, 4, 5] rfl
      repeat clear hm
      intro ak w hm
      exact gR (gP (by omega) (by omega) rfl (gM rfl (gE (gze hm [0, 1, 2, 3, 4, 5] rfl))))
     repeat clear hm
     intro c5 an w hm c6 c7
     refine gS (gR (gB rfl (gE (gS (go _ 69 rfl (decide_eq_false (by omega)) (gcf rfl (gXt (gHh ?_))))))))
     replace hm := (mk_Block_ aD.jump aD.on hm 2 3 4 rfl).pk (L' := [blk aG [nV aA.params, nV aA.regs, sV aE aF aA.blocks.length aC] 49, holeE aE aF aA.blocks.length aC (aX : List Block_) (aO).toNat [aY, aZ, nV aD.jump, nV aD.on, .slice aa aD.next_.length aS], ow [aY, aZ, nV aD.jump, nV aD.on, .slice aa aD.next_.length aS] ((⟨aD.phis, aD.ins, aD.jump, aD.on, an⟩ : Block_) : Block_), blk aH [nV 0, nV 0, .slice none 0 0] 49]) [0, 1, 2, 5] rfl rfl
     replace hm := (hm.shutE (y := ((⟨aD.phis, aD.ins, aD.jump, aD.on, an⟩ : Block_) : Block_)) 1 2 (by decide) rfl rfl).pk (L' := [blk aG [nV aA.params, nV aA.regs, sV aE aF aA.blocks.length aC] 49, ow [sV aE aF aA.blocks.length aC] (aX.set (aO).toNat (⟨aD.phis, aD.ins, aD.jump, aD.on, an⟩ : Block_)), blk aH [nV 0, nV 0, .slice none 0 0] 49]) [0, 1, 3] rfl rfl
     have c8 := List.getElem?_set_self (a := ((⟨aD.phis, aD.ins, aD.jump, aD.on, an⟩ : Block_) : Block_)) (idx_lt ae)
     exact gR (gP (by omega) (by omega) rfl (gM rfl (gE (gze hm [0, 1, 2] rfl))))
    repeat clear hm
    intro c9 ca w hm cb cc
    exact gS (gR (gB rfl (gE (gS (go _ 59 rfl (decide_eq_false (by omega)) (gcf rfl (gXt (gHh (gXt (gHm rfl (gHm rfl (gHh (gLr bF bE (gze hm [0, 1, 2] rfl))))))))))))))
   repeat clear hm
   intro cd ce w hm cf cg
   refine gS (gR (gB rfl (gE (gS (go _ 15 rfl (decide_eq_false (by omega)) (gcf rfl (gXt (gHh (gS (gR (gY (yn (hm.blk_at 0 rfl) isAgg49 sizeOf49 rfl) (gCg rfl call118 (impl_reachedOnly_ok _ (⟨aA.params, aA.regs, aL⟩ : Code_) (.slice aV aA.blocks.length aC) (hm.ow_rep 1 rfl)) ?_))))))))))))
   rintro ci cj cl w ⟨bY, rfl, hB⟩
   replace hm := hm.give hB; clear hB
   exact gSN hm 3 sizeOf49 (one_cons rfl (one_cons rfl (one_cons (rep_one (hm.ow_rep 0 rfl)) one_nil))) rfl fun w hm => gE (gRt (gEr bD (gLp bC bB (grc 3 results125 hm rfl isAgg49 sizeOf49 ⟨bY, rfl, hm.pk [0] rfl rfl⟩))))
  repeat clear hm
  intro ao w hm
  exact gze hm [0, 1, 2] rfl
theorem slices_EqualFunc_S_impl_Block_S_impl_Block_impl_Block_impl_Block_ok (w0 : World) (s1 : List Block_) (v1 : Value) (h1 : GT.rep (hp w0) [v1] s1) (s2 : List Block_) (v2 : Value) (h2 : GT.rep (hp w0) [v2] s2) (eq : Block_ → Block_ → Option Bool) (fv1 : Value) (hfn1 : ∀ (w : World) (y0 : Block_) (z1 : Value) (_ : GT.rep (hp w) [z1] y0.phis) (z2 : Value) (_ : GT.rep (hp w) [z2] y0.ins) (z3 : Value) (_ : GT.rep (hp w) [z3] y0.next_) (y1 : Block_) (z4 : Value) (_ : GT.rep (hp w) [z4] y1.phis) (z5 : Value) (_ : GT.rep (hp w) [z5] y1.ins) (z6 : Value) (_ : GT.rep (hp w) [z6] y1.next_) (r : Bool), Below w0.heap.size w0 w → eq y0 y1 = some r → FnOk Tryz.prog fv1 [(.agg #[z1, z2, nV y0.jump, nV y0.on, z3]), (.agg #[z4, z5, nV y1.jump, nV y1.on, z6])] w (fun v w' => v = (.bool (r)) ∧ Below w.heap.size w w')) :
    ConM Tryz.prog 207 [v1, v2, fv1] w0 (slices_EqualFunc_S_impl_Block_S_impl_Block_impl_Block_impl_Block s1 s2 eq) fun r v w' => v = (.bool (r)) ∧ Below w0.heap.size w0 w' := by
  unfold slices_EqualFunc_S_impl_Block_S_impl_Block_impl_Block_impl_Block
  refine gcon func207 rfl fun r => ?_
  have hm := Mem.start w0
  refine gS (gR (gA rfl (gE (gS (gS (gR (gM rfl ?_)))))))
  obtain ⟨aK, aL, rfl, ah⟩ := ro_slice h1
  refine gY (yV st_47 rfl) (gM rfl ?_)
  obtain ⟨aM, aN, rfl, ai⟩ := ro_slice h2
  refine gY (yV st_47 rfl) (gB rfl (gE (gsd 14 rfl (fun aO => ?_) fun aO => ?_)))
  ·exact gct rfl (gS (gR (gA rfl (gE (gRt (gr1 results207 rfl ⟨rfl, hm.below⟩))))))
  refine gcf rfl (gSk (gS (gS (gR (gM rfl (gY (yV st_47 rfl) (gM rfl (gE (gBk (gNf hm (fun aA aD => [(1, (.slice aM s2.length aN)), (2, fv1), (15, (.slice aK s1.length aL)), (16, (nV ((s1.length : Int)))), (17, (nV aA))]) (fun aA aD => []) [] rfl ?_ ?_))))))))))
  ·repeat clear hm
   intro aj aP aA aD w hm ak am an aQ
   refine gS (gR (gB rfl (gE (gS (go _ 18 rfl (decide_eq_true (by omega)) (gct rfl (gSk (gS (gBk (gS (gR (gM rfl (gg fun aR aS aB => ?_)))))))))))))
   obtain ⟨ao, ap, aq, he⟩ := idx_form' h1 aB
   obtain ⟨rfl, _, rfl⟩ := sl3 he
   obtain ⟨aT, aV, aW, aX, aE, aF, aG⟩ := rk_Block_ h1 aB
   refine gI st_47 aS (idx_lt aB) rfl (gY (yn (aX.mono hm.lez) isAgg63 sizeOf63 rfl) (gAl hm zeroValue63 rfl fun ar w hm => gA rfl (gSN hm 0 sizeOf63 (one_cons (rep_one aE) (one_cons (rep_one aF) (one_cons rfl (one_cons rfl (one_cons (rep_one aG) one_nil))))) rfl fun w hm => gE (gS (gR (gM rfl (gM rfl (gg fun aY aZ aC => ?_))))))))
   obtain ⟨au, av, aw, he⟩ := idx_form' h2 aC
   obtain ⟨rfl, _, rfl⟩ := sl3 he
   obtain ⟨aa, ab, ac, ae, aH, aI, aJ⟩ := rk_Block_ h2 aC
   refine gI st_47 aZ (idx_lt aC) rfl (gY (yn (ae.mono hm.lez) isAgg63 sizeOf63 rfl) (gAl hm zeroValue63 rfl fun ax w hm => gSN hm 0 sizeOf63 (one_cons (rep_one aH) (one_cons (rep_one aI) (one_cons rfl (one_cons rfl (one_cons (rep_one aJ) one_nil))))) rfl fun w hm => gE (gS (gR (gM rfl (gY (yn (hm.blk_at 1 rfl) isAgg63 sizeOf63 rfl) (gY (yn (hm.blk_at 0 rfl) isAgg63 sizeOf63 rfl) (gb fun ay af => gf rfl (fun a hf => e_callv hf rfl rfl rfl (hfn1 _ aR aT (hm.now aE) aV (hm.now aF) aW (hm.now aG) aY aa (hm.now aH) ab (hm.now aI) ac (hm.now aJ) _ hm.below af)) ?_))))))))
   rintro az w ⟨rfl, hB⟩
   replace hm := hm.below' hB; clear hB
   refine gN rfl (gE (gsn 30 rfl (fun ag => ?_) fun ag => ?_))
   ·exact gct rfl (gS (gR (gA rfl (gE (gRt (gLr aQ aP (gr1 results207 rfl ⟨rfl, hm.below⟩)))))))
   exact gcf rfl (gSk (gR (gP (by omega) (by omega) rfl (gM rfl (gE (gze hm [] rfl))))))
  repeat clear hm
  intro bA bB w hm bC bD
  exact gS (gR (gB rfl (gE (gS (go _ 18 rfl (decide_eq_false (by omega)) (gcf rfl (gXt (gHh (gS (gR (gA rfl (gE (gRt (gr1 results207 rfl ⟨rfl, hm.below⟩))))))))))))))
theorem slices_Equal_S_int_int_ok (w0 : World) (s1 : List Int) (v1 : Value) (h1 : GT.rep (hp w0) [v1] s1) (s2 : List Int) (v2 : Value) (h2 : GT.rep (hp w0) [v2] s2) :
    ConM Tryz.prog 274 [v1, v2] w0 (slices_Equal_S_int_int s1 s2) fun r v w' => v = (.bool (r)) ∧ Below w0.heap.size w0 w' := by
  unfold slices_Equal_S_int_int
  refine gcon func274 rfl fun r => ?_
  have hm := Mem.start w0
  refine gS (gR (gA rfl (gE (gS (gS (gR (gM rfl ?_)))))))
  obtain ⟨aE, aF, rfl, aQ⟩ := ro_slice h1
  refine gY (yV st_43 rfl) (gM rfl ?_)
  obtain ⟨aG, aH, rfl, aR⟩ := ro_slice h2
  refine gY (yV st_43 rfl) (gB rfl (gE (gsd 10 rfl (fun aI => ?_) fun aI => ?_)))
  ·exact gct rfl (gS (gR (gA rfl (gE (gRt (gr1 results274 rfl ⟨rfl, hm.below⟩))))))
  refine gcf rfl (gSk (gS (gS (gR (gM rfl (gY (yV st_43 rfl) (gM rfl (gE (gBk (gNf hm (fun aA aD => [(0, (.slice aE s1.length aF)), (1, (.slice aG s2.length aH)), (12, (nV ((s1.length : Int)))), (13, (nV aA))]) (fun aA aD => []) [] rfl ?_ ?_))))))))))
  ·repeat clear hm
   intro aS aJ aA aD w hm aT aV aW aK
   refine gS (gR (gB rfl (gE (gS (go _ 14 rfl (decide_eq_true (by omega)) (gct rfl (gSk (gS (gBk (gS (gR (gM rfl (gA rfl (gE (gS (gW (.p 0 (.p 1 (.p 2 (.p 4 (.p 5 (.p 6 (.q 3 (.e 7 (.p 8 .fin) .nil)))))))) [7] [0, 1, 2, 4, 5, 6, 8] hm [] [] rfl mxo (by kernel_rfl) (fun _ _ _ h => h.2) fun w hm hS => tP rfl (fun w => yM rfl) (tP rfl (fun w => yM rfl) (gg fun aL aM aB => ?_))))))))))))))))))
   obtain ⟨aX, aY, aZ, he⟩ := idx_form h1 aB
   obtain ⟨rfl, _, rfl⟩ := sl3 he
   refine tP rfl (fun w => yI st_43 aM (idx_lt aB) rfl) (tP rfl (fun w => yM rfl) (tP rfl (fun w => yM rfl) (gg fun aN aO aC => ?_)))
   obtain ⟨aa, ab, ac, he⟩ := idx_form h2 aC
   obtain ⟨rfl, _, rfl⟩ := sl3 he
   refine tP rfl (fun w => yI st_43 aO (idx_lt aC) rfl) (tQ rfl hS (fun w hm => yl isAgg3 ((flat_cells (cs := [nV aL]) (hm.now h1) aB rfl).cell (j := 0) rfl) rfl) (tO (tY rfl (yl isAgg3 ((flat_cells (cs := [nV aN]) (hm.now h2) aC rfl).cell (j := 0) rfl) rfl) (tAs hS (tP rfl (fun w => yB rfl) (tE (gsd 24 rfl (fun aP => ?_) fun aP => ?_)))))))
   ·exact gct rfl (gS (gR (gA rfl (gE (gRt (gLr aK aJ (gr1 results274 rfl ⟨rfl, hm.below⟩)))))))
   exact gcf rfl (gSk (gR (gP (by omega) (by omega) rfl (gM rfl (gE (gze hm [] rfl))))))
  repeat clear hm
  intro ae af w hm ag ah
  exact gS (gR (gB rfl (gE (gS (go _ 14 rfl (decide_eq_false (by omega)) (gcf rfl (gXt (gHh (gS (gR (gA rfl (gE (gRt (gr1 results274 rfl ⟨rfl, hm.below⟩))))))))))))))
theorem slices_EqualFunc_S_impl_Phi_S_impl_Phi_impl_Phi_impl_Phi_ok (w0 : World) (s1 : List Phi_) (v1 : Value) (h1 : GT.rep (hp w0) [v1] s1) (s2 : List Phi_) (v2 : Value) (h2 : GT.rep (hp w0) [v2] s2) (eq : Phi_ → Phi_ → Option Bool) (fv1 : Value) (hfn1 : ∀ (w : World) (y0 : Phi_) (z1 : Value) (_ : GT.rep (hp w) [z1] y0.args) (y1 : Phi_) (z2 : Value) (_ : GT.rep (hp w) [z2] y1.args) (r : Bool), Below w0.heap.size w0 w → eq y0 y1 = some r → FnOk Tryz.prog fv1 [(.agg #[nV y0.to, z1]), (.agg #[nV y1.to, z2])] w (fun v w' => v = (.bool (r)) ∧ Below w.heap.size w w')) :
    ConM Tryz.prog 275 [v1, v2, fv1] w0 (slices_EqualFunc_S_impl_Phi_S_impl_Phi_impl_Phi_impl_Phi s1 s2 eq) fun r v w' => v = (.bool (r)) ∧ Below w0.heap.size w0 w' := by
  unfold slices_EqualFunc_S_impl_Phi_S_impl_Phi_impl_Phi_impl_Phi
  refine gcon func275 rfl fun r => ?_
  have hm := Mem.start w0
  refine gS (gR (gA rfl (gE (gS (gS (gR (gM rfl ?_)))))))
  obtain ⟨aG, aH, rfl, aY⟩ := ro_slice h1
  refine gY (yV st_60 rfl) (gM rfl ?_)
  obtain ⟨aI, aJ, rfl, aZ⟩ := ro_slice h2
  refine gY (yV st_60 rfl) (gB rfl (gE (gsd 14 rfl (fun aK => ?_) fun aK => ?_)))
  ·exact gct rfl (gS (gR (gA rfl (gE (gRt (gr1 results275 rfl ⟨rfl, hm.below⟩))))))
  refine gcf rfl (gSk (gS (gS (gR (gM rfl (gY (yV st_60 rfl) (gM rfl (gE (gBk (gNf hm (fun aA aD => [(1, (.slice aI s2.length aJ)), (2, fv1), (15, (.slice aG s1.length aH)), (16, (nV ((s1.length : Int)))), (17, (nV aA))]) (fun aA aD => []) [] rfl ?_ ?_))))))))))
  ·repeat clear hm
   intro aa aL aA aD w hm ab ac ae aM
   refine gS (gR (gB rfl (gE (gS (go _ 18 rfl (decide_eq_true (by omega)) (gct rfl (gSk (gS (gBk (gS (gR (gM rfl (gg fun aN aO aB => ?_)))))))))))))
   obtain ⟨af, ag, ah, he⟩ := idx_form' h1 aB
   obtain ⟨rfl, _, rfl⟩ := sl3 he
   obtain ⟨aP, aQ, aE⟩ := rk_Phi_ h1 aB
   refine gI st_60 aO (idx_lt aB) rfl (gY (yn (aQ.mono hm.lez) isAgg127 sizeOf127 rfl) (gAl hm zeroValue127 rfl fun ai w hm => gA rfl (gSN hm 0 sizeOf127 (one_cons rfl (one_cons (rep_one aE) one_nil)) rfl fun w hm => gE (gS (gR (gM rfl (gM rfl (gg fun aR aS aC => ?_))))))))
   obtain ⟨aj, ak, am, he⟩ := idx_form' h2 aC
   obtain ⟨rfl, _, rfl⟩ := sl3 he
   obtain ⟨aT, aV, aF⟩ := rk_Phi_ h2 aC
   refine gI st_60 aS (idx_lt aC) rfl (gY (yn (aV.mono hm.lez) isAgg127 sizeOf127 rfl) (gAl hm zeroValue127 rfl fun an w hm => gSN hm 0 sizeOf127 (one_cons rfl (one_cons (rep_one aF) one_nil)) rfl fun w hm => gE (gS (gR (gM rfl (gY (yn (hm.blk_at 1 rfl) isAgg127 sizeOf127 rfl) (gY (yn (hm.blk_at 0 rfl) isAgg127 sizeOf127 rfl) (gb fun ao aW => gf rfl (fun a hf => e_callv hf rfl rfl rfl (hfn1 _ aN aP (hm.now aE) aR aT (hm.now aF) _ hm.below aW)) ?_))))))))
   rintro ap w ⟨rfl, hB⟩
   replace hm := hm.below' hB; clear hB
   refine gN rfl (gE (gsn 30 rfl (fun aX => ?_) fun aX => ?_))
   ·exact gct rfl (gS (gR (gA rfl (gE (gRt (gLr aM aL (gr1 results275 rfl ⟨rfl, hm.below⟩)))))))
   exact gcf rfl (gSk (gR (gP (by omega) (by omega) rfl (gM rfl (gE (gze hm [] rfl))))))
  repeat clear hm
  intro aq ar w hm au av
  exact gS (gR (gB rfl (gE (gS (go _ 18 rfl (decide_eq_false (by omega)) (gcf rfl (gXt (gHh (gS (gR (gA rfl (gE (gRt (gr1 results275 rfl ⟨rfl, hm.below⟩))))))))))))))
theorem impl_samePhi_ok (w0 : World) (a_ : Phi_) (v1 : Value) (h1 : GT.rep (hp w0) [v1] a_.args) (b_ : Phi_) (v2 : Value) (h2 : GT.rep (hp w0) [v2] b_.args) :
    ConM Tryz.prog 276 [(.agg #[nV a_.to, v1]), (.agg #[nV b_.to, v2])] w0 (impl_samePhi a_ b_) fun r v w' => v = (.bool (r)) ∧ Below w0.heap.size w0 w' := by
  unfold impl_samePhi
  refine gcon func276 rfl fun r => ?_
  have hm := Mem.start w0
  refine gS (gR (gBx hm rfl fun aC w hm => gBx hm rfl fun aD w hm => gA rfl (gE (gS (gJ hm (fun aA => [(4, (.bool (aA)))]) (fun aA => []) (fun aA => ?_) ?_)))))
  ·refine gR (gF fo_127_0 rfl (gL hm 1 isAgg3 rfl (gF fo_127_0 rfl (gL hm 0 isAgg3 rfl (gB rfl (gM rfl (gsd 10 rfl (fun aB => ?_) fun aB => ?_)))))))
   ·exact gF fo_127_1 rfl (gL hm 1 isAgg43 rfl (gF fo_127_1 rfl (gL hm 0 isAgg43 rfl (gC hm rfl call274 (slices_Equal_S_int_int_ok _ a_.args v1 (hm.now h1) b_.args v2 (hm.now h2)) fun aE aF w hm => gKt rfl (gA rfl (gE (gz hm [] rfl)))))))
   exact gO rfl (gO rfl (gO rfl (gO rfl (gO rfl (gKf rfl (gA rfl (gE (gz hm [] rfl))))))))
  repeat clear hm
  intro aA w hm
  exact gRt (gr1 results276 rfl ⟨rfl, hm.below⟩)
theorem slices_EqualFunc_S_impl_Ins_S_impl_Ins_impl_Ins_impl_Ins_ok (w0 : World) (s1 : List Ins_) (v1 : Value) (h1 : GT.rep (hp w0) [v1] s1) (s2 : List Ins_) (v2 : Value) (h2 : GT.rep (hp w0) [v2] s2) (eq : Ins_ → Ins_ → Option Bool) (fv1 : Value) (hfn1 : ∀ (w : World) (y0 : Ins_) (z1 : Value) (_ : GT.rep (hp w) [z1] y0.args) (y1 : Ins_) (z2 : Value) (_ : GT.rep (hp w) [z2] y1.args) (r : Bool), Below w0.heap.size w0 w → eq y0 y1 = some r → FnOk Tryz.prog fv1 [(.agg #[nV y0.op, nV y0.to, z1, nV y0.n_]), (.agg #[nV y1.op, nV y1.to, z2, nV y1.n_])] w (fun v w' => v = (.bool (r)) ∧ Below w.heap.size w w')) :
    ConM Tryz.prog 277 [v1, v2, fv1] w0 (slices_EqualFunc_S_impl_Ins_S_impl_Ins_impl_Ins_impl_Ins s1 s2 eq) fun r v w' => v = (.bool (r)) ∧ Below w0.heap.size w0 w' := by
  unfold slices_EqualFunc_S_impl_Ins_S_impl_Ins_impl_Ins_impl_Ins
  refine gcon func277 rfl fun r => ?_
  have hm := Mem.start w0
  refine gS (gR (gA rfl (gE (gS (gS (gR (gM rfl ?_)))))))
  obtain ⟨aG, aH, rfl, aY⟩ := ro_slice h1
  refine gY (yV st_61 rfl) (gM rfl ?_)
  obtain ⟨aI, aJ, rfl, aZ⟩ := ro_slice h2
  refine gY (yV st_61 rfl) (gB rfl (gE (gsd 14 rfl (fun aK => ?_) fun aK => ?_)))
  ·exact gct rfl (gS (gR (gA rfl (gE (gRt (gr1 results277 rfl ⟨rfl, hm.below⟩))))))
  refine gcf rfl (gSk (gS (gS (gR (gM rfl (gY (yV st_61 rfl) (gM rfl (gE (gBk (gNf hm (fun aA aD => [(1, (.slice aI s2.length aJ)), (2, fv1), (15, (.slice aG s1.length aH)), (16, (nV ((s1.length : Int)))), (17, (nV aA))]) (fun aA aD => []) [] rfl ?_ ?_))))))))))
  ·repeat clear hm
   intro aa aL aA aD w hm ab ac ae aM
   refine gS (gR (gB rfl (gE (gS (go _ 18 rfl (decide_eq_true (by omega)) (gct rfl (gSk (gS (gBk (gS (gR (gM rfl (gg fun aN aO aB => ?_)))))))))))))
   obtain ⟨af, ag, ah, he⟩ := idx_form' h1 aB
   obtain ⟨rfl, _, rfl⟩ := sl3 he
   obtain ⟨aP, aQ, aE⟩ := rk_Ins_ h1 aB
   refine gI st_61 aO (idx_lt aB) rfl (gY (yn (aQ.mono hm.lez) isAgg65 sizeOf65 rfl) (gAl hm zeroValue65 rfl fun ai w hm => gA rfl (gSN hm 0 sizeOf65 (one_cons rfl (one_cons rfl (one_cons (rep_one aE) (one_cons rfl one_nil)))) rfl fun w hm => gE (gS (gR (gM rfl (gM rfl (gg fun aR aS aC => ?_))))))))
   obtain ⟨aj, ak, am, he⟩ := idx_form' h2 aC
   obtain ⟨rfl, _, rfl⟩ := sl3 he
   obtain ⟨aT, aV, aF⟩ := rk_Ins_ h2 aC
   refine gI st_61 aS (idx_lt aC) rfl (gY (yn (aV.mono hm.lez) isAgg65 sizeOf65 rfl) (gAl hm zeroValue65 rfl fun an w hm => gSN hm 0 sizeOf65 (one_cons rfl (one_cons rfl (one_cons (rep_one aF) (one_cons rfl one_nil)))) rfl fun w hm => gE (gS (gR (gM rfl (gY (yn (hm.blk_at 1 rfl) isAgg65 sizeOf65 rfl) (gY (yn (hm.blk_at 0 rfl) isAgg65 sizeOf65 rfl) (gb fun ao aW => gf rfl (fun a hf => e_callv hf rfl rfl rfl (hfn1 _ aN aP (hm.now aE) aR aT (hm.now aF) _ hm.below aW)) ?_))))))))
   rintro ap w ⟨rfl, hB⟩
   replace hm := hm.below' hB; clear hB
   refine gN rfl (gE (gsn 30 rfl (fun aX => ?_) fun aX => ?_))
   ·exact gct rfl (gS (gR (gA rfl (gE (gRt (gLr aM aL (gr1 results277 rfl ⟨rfl, hm.below⟩)))))))
   exact gcf rfl (gSk (gR (gP (by omega) (by omega) rfl (gM rfl (gE (gze hm [] rfl))))))
  repeat clear hm
  intro aq ar w hm au av
  exact gS (gR (gB rfl (gE (gS (go _ 18 rfl (decide_eq_false (by omega)) (gcf rfl (gXt (gHh (gS (gR (gA rfl (gE (gRt (gr1 results277 rfl ⟨rfl, hm.below⟩))))))))))))))
theorem impl_sameIns_ok (w0 : World) (a_ : Ins_) (v1 : Value) (h1 : GT.rep (hp w0) [v1] a_.args) (b_ : Ins_) (v2 : Value) (h2 : GT.rep (hp w0) [v2] b_.args) :
    ConM Tryz.prog 278 [(.agg #[nV a_.op, nV a_.to, v1, nV a_.n_]), (.agg #[nV b_.op, nV b_.to, v2, nV b_.n_])] w0 (impl_sameIns a_ b_) fun r v w' => v = (.bool (r)) ∧ Below w0.heap.size w0 w' := by
  unfold impl_sameIns
  refine gcon func278 rfl fun r => ?_
  have hm := Mem.start w0
  refine gS (gR (gBx hm rfl fun aE w hm => gBx hm rfl fun aF w hm => gA rfl (gE (gS (gJ hm (fun aA => [(4, (.bool (aA)))]) (fun aA => []) (fun aA => ?_) ?_)))))
  ·refine gR (gF fo_65_0 rfl (gL hm 1 isAgg3 rfl (gF fo_65_0 rfl (gL hm 0 isAgg3 rfl (gB rfl (gM rfl (gsd 10 rfl (fun aB => ?_) fun aB => ?_)))))))
   ·refine gF fo_65_1 rfl (gL hm 1 isAgg3 rfl (gF fo_65_1 rfl (gL hm 0 isAgg3 rfl (gB rfl (gKt rfl (gM rfl (gsd 17 rfl (fun aC => ?_) fun aC => ?_)))))))
    ·refine gF fo_65_3 rfl (gL hm 1 isAgg3 rfl (gF fo_65_3 rfl (gL hm 0 isAgg3 rfl (gB rfl (gKt rfl (gM rfl (gsd 24 rfl (fun aD => ?_) fun aD => ?_)))))))
     ·exact gF fo_65_2 rfl (gL hm 1 isAgg43 rfl (gF fo_65_2 rfl (gL hm 0 isAgg43 rfl (gC hm rfl call274 (slices_Equal_S_int_int_ok _ a_.args v1 (hm.now h1) b_.args v2 (hm.now h2)) fun aG aH w hm => gKt rfl (gA rfl (gE (gz hm [] rfl)))))))
     exact gO rfl (gO rfl (gO rfl (gO rfl (gO rfl (gKf rfl (gA rfl (gE (gz hm [] rfl))))))))
    exact gO rfl (gO rfl (gO rfl (gO rfl (gO rfl (gKf rfl (gM rfl (gO rfl (gO rfl (gO rfl (gO rfl (gO rfl (gKf rfl (gA rfl (gE (gz hm [] rfl)))))))))))))))
   exact gO rfl (gO rfl (gO rfl (gO rfl (gO rfl (gKf rfl (gM rfl (gO rfl (gO rfl (gO rfl (gO rfl (gO rfl (gKf rfl (gM rfl (gO rfl (gO rfl (gO rfl (gO rfl (gO rfl (gKf rfl (gA rfl (gE (gz hm [] rfl))))))))))))))))))))))
  repeat clear hm
  intro aA w hm
  exact gRt (gr1 results278 rfl ⟨rfl, hm.below⟩)
theorem impl_sameBlock_ok (w0 : World) (a_ : Block_) (v1 : Value) (h1 : GT.rep (hp w0) [v1] a_.phis) (v2 : Value) (h2 : GT.rep (hp w0) [v2] a_.ins) (v3 : Value) (h3 : GT.rep (hp w0) [v3] a_.next_) (b_ : Block_) (v4 : Value) (h4 : GT.rep (hp w0) [v4] b_.phis) (v5 : Value) (h5 : GT.rep (hp w0) [v5] b_.ins) (v6 : Value) (h6 : GT.rep (hp w0) [v6] b_.next_) :
    ConM Tryz.prog 208 [(.agg #[v1, v2, nV a_.jump, nV a_.on, v3]), (.agg #[v4, v5, nV b_.jump, nV b_.on, v6])] w0 (impl_sameBlock a_ b_) fun r v w' => v = (.bool (r)) ∧ Below w0.heap.size w0 w' := by
  unfold impl_sameBlock
  refine gcon func208 rfl fun r => ?_
  have hm := Mem.start w0
  refine gS (gR (gBx hm rfl fun aJ w hm => gBx hm rfl fun aK w hm => gA rfl (gE (gS (gJ hm (fun aA => [(4, (.bool (aA)))]) (fun aA => []) (fun aA => ?_) ?_)))))
  ·refine gR (gF fo_63_2 rfl (gL hm 1 isAgg3 rfl (gF fo_63_2 rfl (gL hm 0 isAgg3 rfl (gB rfl (gM rfl (gsd 10 rfl (fun aF => ?_) fun aF => ?_)))))))
   ·refine gF fo_63_3 rfl (gL hm 1 isAgg3 rfl (gF fo_63_3 rfl (gL hm 0 isAgg3 rfl (gB rfl (gKt rfl (gM rfl (gsd 17 rfl (fun aG => ?_) fun aG => ?_)))))))
    ·refine gF fo_63_4 rfl (gL hm 1 isAgg43 rfl (gF fo_63_4 rfl (gL hm 0 isAgg43 rfl (gC hm rfl call274 (slices_Equal_S_int_int_ok _ a_.next_ v3 (hm.now h3) b_.next_ v6 (hm.now h6)) fun aL aM w hm => gKt rfl (gM rfl (gs 24 rfl (fun aH => ?_) fun aH => ?_))))))
     ·refine gF fo_63_0 rfl (gL hm 1 isAgg60 rfl (gF fo_63_0 rfl (gL hm 0 isAgg60 rfl (gC hm rfl call275 (slices_EqualFunc_S_impl_Phi_S_impl_Phi_impl_Phi_impl_Phi_ok _ a_.phis v1 (hm.now h1) b_.phis v4 (hm.now h4) (fun y0 y1 => impl_samePhi y0 y1) (.func (.func 276) #[] #[]) (fun w y0 aB aC y1 aD aE r hB hq => ⟨276, [], rfl, call276, impl_samePhi_ok w y0 aB aC y1 aD aE  r hq⟩)) fun aN aO w hm => gKt rfl (gM rfl (gs 31 rfl (fun aI => ?_) fun aI => ?_))))))
      ·exact gF fo_63_1 rfl (gL hm 1 isAgg61 rfl (gF fo_63_1 rfl (gL hm 0 isAgg61 rfl (gC hm rfl call277 (slices_EqualFunc_S_impl_Ins_S_impl_Ins_impl_Ins_impl_Ins_ok _ a_.ins v2 (hm.now h2) b_.ins v5 (hm.now h5) (fun y0 y1 => impl_sameIns y0 y1) (.func (.func 278) #[] #[]) (fun w y0 aB aC y1 aD aE r hB hq => ⟨278, [], rfl, call278, impl_sameIns_ok w y0 aB aC y1 aD aE  r hq⟩)) fun aP aQ w hm => gKt rfl (gA rfl (gE (gz hm [] rfl)))))))
      exact gO rfl (gO rfl (gO rfl (gO rfl (gO rfl (gKf rfl (gA rfl (gE (gz hm [] rfl))))))))
     exact gO rfl (gO rfl (gO rfl (gO rfl (gO rfl (gKf rfl (gM rfl (gO rfl (gO rfl (gO rfl (gO rfl (gO rfl (gKf rfl (gA rfl (gE (gz hm [] rfl)))))))))))))))
    exact gO rfl (gO rfl (gO rfl (gO rfl (gO rfl (gKf rfl (gM rfl (gO rfl (gO rfl (gO rfl (gO rfl (gO rfl (gKf rfl (gM rfl (gO rfl (gO rfl (gO rfl (gO rfl (gO rfl (gKf rfl (gA rfl (gE (gz hm [] rfl))))))))))))))))))))))
   exact gO rfl (gO rfl (gO rfl (gO rfl (gO rfl (gKf rfl (gM rfl (gO rfl (gO rfl (gO rfl (gO rfl (gO rfl (gKf rfl (gM rfl (gO rfl (gO rfl (gO rfl (gO rfl (gO rfl (gKf rfl (gM rfl (gO rfl (gO rfl (gO rfl (gO rfl (gO rfl (gKf rfl (gA rfl (gE (gz hm [] rfl)))))))))))))))))))))))))))))
  repeat clear hm
  intro aA w hm
  exact gRt (gr1 results208 rfl ⟨rfl, hm.below⟩)
theorem impl_sameCode_ok (w0 : World) (a_ : Code_) (v1 : Value) (h1 : GT.rep (hp w0) [v1] a_.blocks) (b_ : Code_) (v2 : Value) (h2 : GT.rep (hp w0) [v2] b_.blocks) :
    ConM Tryz.prog 127 [(.agg #[nV a_.params, nV a_.regs, v1]), (.agg #[nV b_.params, nV b_.regs, v2])] w0 (impl_sameCode a_ b_) fun r v w' => v = (.bool (r)) ∧ Below w0.heap.size w0 w' := by
  unfold impl_sameCode
  refine gcon func127 rfl fun r => ?_
  have hm := Mem.start w0
  refine gS (gR (gBx hm rfl fun aP w hm => gBx hm rfl fun aQ w hm => gA rfl (gE (gS (gJ hm (fun aA => [(4, (.bool (aA)))]) (fun aA => []) (fun aA => ?_) ?_)))))
  ·refine gR (gF fo_49_0 rfl (gL hm 1 isAgg3 rfl (gF fo_49_0 rfl (gL hm 0 isAgg3 rfl (gB rfl (gM rfl (gsd 10 rfl (fun aB => ?_) fun aB => ?_)))))))
   ·refine gF fo_49_1 rfl (gL hm 1 isAgg3 rfl (gF fo_49_1 rfl (gL hm 0 isAgg3 rfl (gB rfl (gKt rfl (gM rfl (gsd 17 rfl (fun aC => ?_) fun aC => ?_)))))))
    ·exact gF fo_49_2 rfl (gL hm 1 isAgg47 rfl (gF fo_49_2 rfl (gL hm 0 isAgg47 rfl (gC hm rfl call207 (slices_EqualFunc_S_impl_Block_S_impl_Block_impl_Block_impl_Block_ok _ a_.blocks v1 (hm.now h1) b_.blocks v2 (hm.now h2) (fun y0 y1 => impl_sameBlock y0 y1) (.func (.func 208) #[] #[]) (fun w y0 aD aE aF aG aH aI y1 aJ aK aL aM aN aO r hB hq => ⟨208, [], rfl, call208, impl_sameBlock_ok w y0 aD aE aF aG aH aI y1 aJ aK aL aM aN aO  r hq⟩)) fun aR aS w hm => gKt rfl (gA rfl (gE (gz hm [] rfl)))))))
    exact gO rfl (gO rfl (gO rfl (gO rfl (gO rfl (gKf rfl (gA rfl (gE (gz hm [] rfl))))))))
   exact gO rfl (gO rfl (gO rfl (gO rfl (gO rfl (gKf rfl (gM rfl (gO rfl (gO rfl (gO rfl (gO rfl (gO rfl (gKf rfl (gA rfl (gE (gz hm [] rfl)))))))))))))))
  repeat clear hm
  intro aA w hm
  exact gRt (gr1 results127 rfl ⟨rfl, hm.below⟩)
theorem impl_clean_ok (w0 : World) (c_ : Code_) (v1 : Value) (h1 : GT.rep (hp w0) [v1] c_.blocks) :
    ConM Tryz.prog 72 [(.agg #[nV c_.params, nV c_.regs, v1])] w0 (impl_clean c_) fun r v w' => ∃ (x1 : Value), v = (.agg #[nV r.params, nV r.regs, x1]) ∧ Mem w0 (hp w0) w' [ow [x1] r.blocks] := by
  unfold impl_clean
  refine gcon func72 rfl fun r => ?_
  have hm := Mem.start w0
  refine gS (gR (gBx hm rfl fun aF w hm => gAl hm zeroValue49 rfl fun aG w hm => gE (gBk (gMg (fun aA a w => ∃ (aE : Heap) (aD : Value), Heap.le (hp w0) aE ∧ GT.rep aE [aD] (aA.2.2) ∧ St 14 [(1, (pV aF)), (2, (pV aG))] w0 aE [blk aF [nV aA.1, nV aA.2.1, aD] 49, blk aG [nV 0, nV 0, .slice none 0 0] 49] a w) (fun a hf => ⟨(hp w0), v1, (Heap.le_refl _), h1, hf.sb rfl, hm.pk [1, 0] rfl rfl⟩) ?_))))
  repeat clear hm
  rintro aW aQ aA a w ⟨aE, aD, aH, aI, hf, hm⟩ aX aR
  refine gv hf (gBk (gS (gR (gY (yn (hm.blk_at 0 rfl) isAgg49 sizeOf49 rfl) (gCg rfl call118 (impl_reachedOnly_ok _ (⟨aA.1, aA.2.1, aA.2.2⟩ : Code_) aD (hm.now aI)) ?_)))))
  rintro aJ aY aZ w ⟨aK, rfl, hB⟩
  replace hm := hm.give hB; clear hB
  refine gCg rfl call126 (impl_even_ok _ aJ aK (hm.ow_rep 0 rfl)) ?_
  rintro aL aa ab w ⟨aM, rfl, hB⟩
  replace hm := hm.give hB; clear hB
  refine gCg rfl call125 (impl_skipEmpty_ok _ aL aM (hm.ow_rep 0 rfl)) ?_
  rintro aN ac ae w ⟨aO, rfl, hB⟩
  replace hm := hm.give hB; clear hB
  refine gCg rfl call70 (impl_joined_ok _ aN aO (hm.ow_rep 0 rfl)) ?_
  rintro aB af ag w ⟨aC, rfl, hB⟩
  replace hm := hm.give hB; clear hB
  refine gAl hm zeroValue49 rfl fun aS w hm => gSN hm 0 sizeOf49 (one_cons rfl (one_cons rfl (one_cons (rep_one (hm.ow_rep 1 rfl)) one_nil))) rfl fun w hm => gE (gS (gS (gR (gY (yn (hm.blk_at 0 rfl) isAgg49 sizeOf49 rfl) (gY (yn (hm.blk_at 5 rfl) isAgg49 sizeOf49 rfl) (gC hm rfl call127 (impl_sameCode_ok _ aB aC (hm.ow_rep 1 rfl) (⟨aA.1, aA.2.1, aA.2.2⟩ : Code_) aD (hm.now aI)) fun ah ai w hm => gE (gs 11 rfl (fun aT => ?_) fun aT => ?_)))))))
  ·refine gct rfl (gS (gR (gY (yn (hm.blk_at 0 rfl) isAgg49 sizeOf49 rfl) (gSN hm 6 sizeOf49 (one_cons rfl (one_cons rfl (one_cons (rep_one (hm.ow_rep 1 rfl)) one_nil))) rfl fun w hm => gE (gRt (gLp aR aQ ?_))))))
   replace hm := hm.thaw aH
   exact grc 6 results72 hm rfl isAgg49 sizeOf49 ⟨aC, rfl, hm.pk [1] rfl rfl⟩
  refine gcf rfl (gSk (gR (gY (yn (hm.blk_at 0 rfl) isAgg49 sizeOf49 rfl) (gSN hm 5 sizeOf49 (one_cons rfl (one_cons rfl (one_cons (rep_one (hm.ow_rep 1 rfl)) one_nil))) rfl fun w hm => gE ?_))))
  obtain ⟨aP, aV, hz_r1_1, hmf⟩ := hm.freeze 1 rfl
  replace hm := hmf.pk (L' := [blk aS [nV aB.params, nV aB.regs, aC] 49, ow [aO] aN.blocks, ow [aM] aL.blocks, ow [aK] aJ.blocks, blk aF [nV aB.params, nV aB.regs, aC] 49, blk aG [nV 0, nV 0, .slice none 0 0] 49]) [0, 2, 3, 4, 5, 6] rfl rfl
  clear hmf
  replace hz_r1_1 : GT.rep aP [aC] aB.blocks := fz_ow hz_r1_1
  exact gZe fun a hf => ⟨aP, aC, (Heap.le_trans aH aV), hz_r1_1, hf.sb rfl, hm.pk [4, 5] rfl rfl⟩
theorem impl_CleanUnit_ok (w0 : World) (u : Unit_) (v1 : Value) (h1 : GT.rep (hp w0) [v1] u.codes) :
    ConM Tryz.prog 29 [(.agg #[v1])] w0 (impl_CleanUnit u) fun r v w' => ∃ (x1 : Value), v = (.tuple #[(.agg #[x1]), (.bool (r.2))]) ∧ Mem w0 (hp w0) w' [ow [x1] r.1.codes] := by
  unfold impl_CleanUnit
  refine gcon func29 rfl fun r => ?_
  have hm := Mem.start w0
  refine gS (gR (gBx hm rfl fun aD w hm => gAl hm zeroValue28 rfl fun aE w hm => gA rfl (gE (gS (gR (gY (yn (hm.blk_at 1 rfl) isAgg28 sizeOf28 rfl) (gCg rfl call69 (impl_perCode_ok _ u v1 (hm.now h1) (fun y0 => impl_clean y0) (.func (.func 72) #[] #[]) (fun w y0 aA aB r hB hq => ⟨72, [], rfl, call72, impl_clean_ok w y0 aA aB  r hq⟩)) ?_)))))))
  rintro aF aG aH w ⟨aC, rfl, hB⟩
  replace hm := hm.give hB; clear hB
  exact gX rfl (gX rfl (gSN hm 1 sizeOf28 (one_cons (rep_one (hm.ow_rep 0 rfl)) one_nil) rfl fun w hm => gA rfl (gE (gRt (grct 1 results29 hm rfl isAgg28 sizeOf28 ⟨aC, rfl, hm.pk [0] rfl rfl⟩)))))
theorem laws_FnExactCleanUnit_ok (w0 : World) (aU : Unit_) (v1 : Value) (h1 : GT.rep (hp w0) [v1] aU.codes) :
    ConM Tryz.prog 8 [(.agg #[v1])] w0 (laws_FnExactCleanUnit aU) fun r v w' => v = (.bool (r)) ∧ Below w0.heap.size w0 w' := by
  unfold laws_FnExactCleanUnit
  refine gcon func8 rfl fun r => ?_
  have hm := Mem.start w0
  refine gS (gR (gBx hm rfl fun aG w hm => gA rfl (gE (gS (gR (gA rfl (gE (gS (gR (gY (yn (hm.blk_at 0 rfl) isAgg24 sizeOf24 rfl) (gM rfl (gC hm rfl call13 (laws_szUnit_ok _ aU v1 (hm.now h1) 1048576) fun au av w hm => gA rfl (gE (gS (gS (gR (gM rfl (gB rfl (gE (gsd 18 rfl (fun aQ => ?_) fun aQ => ?_))))))))))))))))))))
  ·exact gct rfl (gS (gR (gA rfl (gE (gRt (gr1 results8 rfl ⟨rfl, hm.below⟩))))))
  refine gcf rfl (gSk (gS (gR (gY (yn (hm.blk_at 0 rfl) isAgg24 sizeOf24 rfl) (gCg rfl call15 (laws_toUnit_ok _ aU v1 (hm.now h1)) ?_)))))
  rintro aR aw ax w ⟨aS, rfl, hB⟩
  replace hm := hm.give hB; clear hB
  refine gCg rfl call28 (spec_CleanUnit_ok _ aR aS (hm.ow_rep 0 rfl)) ?_
  rintro aC ay az w ⟨aB, rfl, hB⟩
  replace hm := hm.give hB; clear hB
  refine gM rfl (gX rfl (gX rfl (gAl hm zeroValue28 rfl fun aH w hm => gSN hm 0 sizeOf28 (one_cons (rep_one (hm.ow_rep 1 rfl)) one_nil) rfl fun w hm => gA rfl (gE (gS (gR (gY (yn (hm.blk_at 3 rfl) isAgg24 sizeOf24 rfl) (gCg rfl call15 (laws_toUnit_ok _ aU v1 (hm.now h1)) ?_))))))))
  rintro aI bA bB w ⟨aD, rfl, hB⟩
  replace hm := hm.give hB; clear hB
  refine gAl hm zeroValue28 rfl fun aJ w hm => gSN hm 0 sizeOf28 (one_cons (rep_one (hm.ow_rep 1 rfl)) one_nil) rfl fun w hm => gE (gS (gR (gY (yn (hm.blk_at 0 rfl) isAgg28 sizeOf28 rfl) (gCg rfl call29 (impl_CleanUnit_ok _ aI aD (hm.ow_rep 1 rfl)) ?_))))
  rintro aE bC bD w ⟨aA, rfl, hB⟩
  replace hm := hm.give hB; clear hB
  refine gM rfl (gX rfl (gX rfl (gAl hm zeroValue28 rfl fun aF w hm => gSN hm 0 sizeOf28 (one_cons (rep_one (hm.ow_rep 1 rfl)) one_nil) rfl fun w hm => gA rfl (gE (gS (gS (gJ hm (fun aK => [(1, (pV aG)), (4, (pV aH)), (5, (.bool (aC.2))), (6, (pV aJ)), (7, (pV aF)), (8, (.bool (aE.2))), (40, (.bool (aK)))]) (fun aK => [blk aG [v1] 24, blk aH [aB] 28, ow [aB] aC.1.codes, blk aJ [aD] 28, ow [aD] aI.codes, blk aF [aA] 28, ow [aA] aE.1.codes]) (fun aK => ?_) ?_)))))))
  ·refine gR (gY (yn (hm.blk_at 0 rfl) isAgg28 sizeOf28 rfl) (gY (yn (hm.blk_at 4 rfl) isAgg28 sizeOf28 rfl) (gC hm rfl call17 (laws_eqUnit_ok _ aE.1 aA (hm.ow_rep 1 rfl) aC.1 aB (hm.ow_rep 5 rfl)) fun bE bF w hm => gN rfl (gM rfl (gsn 36 rfl (fun aT => ?_) fun aT => ?_)))))
   ·exact gO rfl (gO rfl (gO rfl (gKt rfl (gE (gz hm [7, 4, 5, 2, 3, 0, 1] rfl)))))
   exact gM rfl (gM rfl (gY (yG rfl (y_neqb underlying4 rfl rfl rfl)) (gKf rfl (gE (gz hm [7, 4, 5, 2, 3, 0, 1] rfl)))))
  repeat clear hm
  intro aK w hm
  refine gs 40 rfl (fun aV => ?_) fun aV => ?_
  ·exact gct rfl (gS (gR (gA rfl (gE (gRt (gr1 results8 rfl ⟨rfl, hm.below⟩))))))
  refine gcf rfl (gSk (gS (gS (gW (.q 0 (.e 1 (.e 2 (.e 3 (.p 4 .fin) .nil) .nil) .nil)) [1, 2] [4] hm [0, 1, 2, 3, 4, 5, 6] [blk aG [v1] 24, blk aH [aB] 28, ow [aB] aC.1.codes, blk aJ [aD] 28, ow [aD] aI.codes, blk aF [aA] 28, ow [aA] aE.1.codes] rfl mxo (by kernel_rfl) (fun _ _ _ h => h.2) fun w hm hS => tQ rfl hS (fun w hm => yn (hm.blk_at 3 rfl) isAgg28 sizeOf28 rfl) (tO (tY rfl (yn (hm.blk_at 0 rfl) isAgg24 sizeOf24 rfl) (tAs hS (tO (gb fun aO aW => tf rfl rfl (fun a hf => e_call hf rfl call15 rfl (laws_toUnit_ok _ aU v1 (hm.now h1) _ aW)) ?_)))))))))
  rintro bG w ⟨aP, rfl, hB⟩
  replace hm := hm.give hB; clear hB
  refine tAk hm [1, 2, 3, 4, 5, 6, 7] rfl fun hS => tO (gb fun bH aX => tf rfl rfl (fun a hf => e_call hf rfl call17 rfl (laws_eqUnit_ok _ aI aD (hm.ow_rep 5 rfl) aO aP (hm.ow_rep 0 rfl) _ aX)) ?_)
  rintro bJ w ⟨rfl, hB⟩
  replace hm := hm.below' hB; clear hB
  refine tAn rfl (tP rfl (fun w => yN rfl) (tE (gsn 45 rfl (fun aY => ?_) fun aY => ?_)))
  ·exact gct rfl (gS (gR (gA rfl (gE (gRt (gr1 results8 rfl ⟨rfl, hm.below⟩))))))
  refine gcf rfl (gSk (gS (gR (gA rfl (gE (gS (gR (gY (yn (hm.blk_at 4 rfl) isAgg28 sizeOf28 rfl) (gM rfl ?_)))))))))
  obtain ⟨aZ, hle, hm1, hsub, aa⟩ := hm.take2 (L1 := [ow [aD] aI.codes]) (L2 := [ow [aP] aO.codes, blk aG [v1] 24, blk aH [aB] 28, ow [aB] aC.1.codes, blk aJ [aD] 28, blk aF [aA] 28, ow [aA] aE.1.codes]) [5] [0, 1, 2, 3, 4, 6, 7] (by decide) rfl rfl
  refine gCg rfl call18 (laws_markUnit_ok _ aZ aI aD 1 hm1 ) ?_
  rintro bK bL bM w ⟨rfl, hB⟩
  replace hm := aa _ _ hB; clear hB
  refine gA rfl (gE (gS (gS (gJ hm (fun aL => [(1, (pV aG)), (4, (pV aH)), (5, (.bool (aC.2))), (7, (pV aF)), (61, (.bool (aL)))]) (fun aL => [blk aG [v1] 24, blk aH [aB] 28, ow [aB] aC.1.codes, blk aF [aA] 28, ow [aA] aE.1.codes]) (fun aL => ?_) ?_))))
  ·refine gR (gM rfl (gB rfl (gM rfl (gsd 51 rfl (fun ab => ?_) fun ab => ?_))))
   ·exact gO rfl (gO rfl (gO rfl (gO rfl (gKt rfl (gM rfl (gO rfl (gO rfl (gO rfl (gKt rfl (gE (gz hm [2, 3, 4, 6, 7] rfl)))))))))))
   refine gY (yn (hm.blk_at 6 rfl) isAgg28 sizeOf28 rfl) (gY (yn (hm.blk_at 3 rfl) isAgg28 sizeOf28 rfl) (gC hm rfl call17 (laws_eqUnit_ok _ aE.1 aA (hm.ow_rep 7 rfl) aC.1 aB (hm.ow_rep 4 rfl)) fun bN bO w hm => gN rfl (gKf rfl (gM rfl (gsn 57 rfl (fun ac => ?_) fun ac => ?_)))))
   ·exact gO rfl (gO rfl (gO rfl (gKt rfl (gE (gz hm [2, 3, 4, 6, 7] rfl)))))
   exact gM rfl (gM rfl (gY (yG rfl (y_neqb underlying4 rfl rfl rfl)) (gKf rfl (gE (gz hm [2, 3, 4, 6, 7] rfl)))))
  repeat clear hm
  intro aL w hm
  refine gs 61 rfl (fun ae => ?_) fun ae => ?_
  ·exact gct rfl (gS (gR (gA rfl (gE (gRt (gr1 results8 rfl ⟨rfl, hm.below⟩))))))
  refine gcf rfl (gSk (gS (gR (gA rfl (gE (gS (gR (gY (yn (hm.blk_at 3 rfl) isAgg28 sizeOf28 rfl) (gM rfl ?_)))))))))
  obtain ⟨af, hle, hm1, hsub, ag⟩ := hm.take2 (L1 := [ow [aA] aE.1.codes]) (L2 := [blk aG [v1] 24, blk aH [aB] 28, ow [aB] aC.1.codes, blk aF [aA] 28]) [4] [0, 1, 2, 3] (by decide) rfl rfl
  refine gCg rfl call18 (laws_markUnit_ok _ af aE.1 aA 1 hm1 ) ?_
  rintro aM bP bQ w ⟨rfl, hB⟩
  replace hm := ag _ _ hB; clear hB
  refine gA rfl (gE (gS (gR (gA rfl (gE (gS (gR (gY (yn (hm.blk_at 4 rfl) isAgg28 sizeOf28 rfl) (gM rfl (gC hm rfl call19 (laws_heldUnit_ok _ (⟨aM.2⟩ : Unit_) aA (hm.ow_rep 0 rfl) 1) fun bR bS w hm => gA rfl (gE (gS (gS (gR (gM rfl (gB rfl (gE (gsd 69 rfl (fun ah => ?_) fun ah => ?_))))))))))))))))))
  ·exact gct rfl (gS (gR (gA rfl (gE (gRt (gr1 results8 rfl ⟨rfl, hm.below⟩))))))
  refine gcf rfl (gSk (gS (gS (gR (gM rfl (gM rfl (gB rfl (gE (gsd 72 rfl (fun ai => ?_) fun ai => ?_)))))))))
  ·exact gct rfl (gS (gR (gA rfl (gE (gRt (gr1 results8 rfl ⟨rfl, hm.below⟩))))))
  refine gcf rfl (gSk (gS (gR (gY (yn (hm.blk_at 1 rfl) isAgg24 sizeOf24 rfl) (gCg rfl call15 (laws_toUnit_ok _ aU v1 (hm.now h1)) ?_)))))
  rintro aj bT bU w ⟨ak, rfl, hB⟩
  replace hm := hm.give hB; clear hB
  refine gCg rfl call29 (impl_CleanUnit_ok _ aj ak (hm.ow_rep 0 rfl)) ?_
  rintro am bV bW w ⟨an, rfl, hB⟩
  replace hm := hm.give hB; clear hB
  refine gM rfl (gX rfl (gX rfl (gAl hm zeroValue28 rfl fun bX w hm => gSN hm 0 sizeOf28 (one_cons (rep_one (hm.ow_rep 1 rfl)) one_nil) rfl fun w hm => gA rfl (gE (gS (gS (gJ hm (fun aN => [(7, (pV aF)), (10, (nV aM.1)), (87, (.bool (aN)))]) (fun aN => [blk aF [aA] 28, ow [aA] aM.2]) (fun aN => ?_) ?_)))))))
  ·refine gR (gY (yn (hm.blk_at 0 rfl) isAgg28 sizeOf28 rfl) (gY (yn (hm.blk_at 5 rfl) isAgg28 sizeOf28 rfl) (gC hm rfl call17 (laws_eqUnit_ok _ am.1 an (hm.ow_rep 1 rfl) aC.1 aB (hm.ow_rep 6 rfl)) fun bY bZ w hm => gN rfl (gM rfl (gsn 83 rfl (fun ao => ?_) fun ao => ?_)))))
   ·exact gO rfl (gO rfl (gO rfl (gKt rfl (gE (gz hm [7, 3] rfl)))))
   exact gM rfl (gM rfl (gY (yG rfl (y_neqb underlying4 rfl rfl rfl)) (gKf rfl (gE (gz hm [7, 3] rfl)))))
  repeat clear hm
  intro aN w hm
  refine gs 87 rfl (fun ap => ?_) fun ap => ?_
  ·exact gct rfl (gS (gR (gA rfl (gE (gRt (gr1 results8 rfl ⟨rfl, hm.below⟩))))))
  refine gcf rfl (gSk (gS (gR (gA rfl (gE (gS (gR (gY (yn (hm.blk_at 0 rfl) isAgg28 sizeOf28 rfl) (gM rfl (gC hm rfl call19 (laws_heldUnit_ok _ (⟨aM.2⟩ : Unit_) aA (hm.ow_rep 1 rfl) 1) fun b8 b9 w hm => gA rfl (gE (gS (gS (gR (gM rfl (gB rfl (gE (gsd 92 rfl (fun aq => ?_) fun aq => ?_))))))))))))))))))
  ·exact gct rfl (gS (gR (gA rfl (gE (gRt (gr1 results8 rfl ⟨rfl, hm.below⟩))))))
  refine gcf rfl (gSk (gS (gS (gR (gM rfl (gM rfl (gB rfl (gE (gsd 95 rfl (fun ar => ?_) fun ar => ?_)))))))))
  ·exact gct rfl (gS (gR (gA rfl (gE (gRt (gr1 results8 rfl ⟨rfl, hm.below⟩))))))
  exact gcf rfl (gSk (gS (gR (gA rfl (gE (gRt (gr1 results8 rfl ⟨rfl, hm.below⟩)))))))
end Go.Proofs.YtabgclojkbijbaaGreat
