/- A part of the proof of FnExactSplitEdgesSaid. -/
import Derived.Test.YtpllkdbmgcmklaaGreatSeWalksA
namespace Go.Proofs.YtpllkdbmgcmklaaGreat
open Go Go.Wk Go.RowKit
set_option maxRecDepth 4000
set_option maxHeartbeats 4000000

open Tryz
theorem impl_sets_ok (w0 : World) (op : Int) :
    ConM Tryz.prog 142 [(nV op)] w0 (impl_sets op) fun r v w' => v = (.bool (r)) ∧ Below w0.heap.size w0 w' := by
  unfold impl_sets
  refine gcon func142 rfl fun r => ?_
  have hm := Mem.start w0
  refine gS (gR (gA rfl (gE (gS (gJ hm (fun s0_1 => [(2, (.bool (s0_1)))]) (fun s0_1 => []) (fun s0_1 => ?_) ?_)))))
  ·
   refine gR (gM rfl (gC hm rfl call208 (impl_isIns_ok _ op) fun r1_1 hx1_1 w hm => gM rfl (gs 5 rfl (fun h1_1 => ?_) fun h1_1 => ?_)))
   ·
    refine gM rfl (gB rfl (gKt rfl (gM rfl (gsd 9 rfl (fun h1_2 => ?_) fun h1_2 => ?_))))
    ·
     exact gM rfl (gB rfl (gKt rfl (gA rfl (gE (gz hm [] rfl)))))
    exact gO rfl (gO rfl (gKf rfl (gA rfl (gE (gz hm [] rfl)))))
   exact gO rfl (gO rfl (gKf rfl (gM rfl (gO rfl (gO rfl (gKf rfl (gA rfl (gE (gz hm [] rfl)))))))))
  repeat clear hm
  intro s0_1 w hm
  exact gRt (gr1 results142 rfl ⟨rfl, hm.below⟩)

theorem impl_isByte_ok (w0 : World) (n_ : Int) :
    ConM Tryz.prog 282 [(nV n_)] w0 (impl_isByte n_) fun r v w' => v = (.bool (r)) ∧ Below w0.heap.size w0 w' := by
  unfold impl_isByte
  refine gcon func282 rfl fun r => ?_
  have hm := Mem.start w0
  exact gS (gR (gA rfl (gE (gS (gR (gM rfl (gC hm rfl call63 (impl_within_ok _ n_ 0 255) fun r0_1 hx0_1 w hm => gA rfl (gE (gRt (gr1 results282 rfl ⟨rfl, hm.below⟩))))))))))

theorem impl_insArgs_ok (w0 : World) (op : Int) :
    ConM Tryz.prog 283 [(nV op)] w0 (impl_insArgs op) fun r v w' => v = (nV r) ∧ Below w0.heap.size w0 w' := by
  unfold impl_insArgs
  refine gcon func283 rfl fun r => ?_
  have hm := Mem.start w0
  refine gS (gR (gA rfl (gE (gS (gS (gR (gM rfl (gE (gBk (gS (gR (gB rfl (gA rfl (gE (gsd 4 rfl (fun h0_1 => ?_) fun h0_1 => ?_)))))))))))))))
  ·
   exact gct rfl (gS (gR (gA rfl (gE (gRt (gr1 results283 rfl ⟨rfl, hm.below⟩))))))
  refine gcf rfl (gS (gS (gR (gB rfl (gA rfl (gE (gJ hm (fun s0_1 => [(6, (.bool (s0_1)))]) (fun s0_1 => []) (fun s0_1 => ?_) ?_)))))))
  ·
   refine gsd 6 rfl (fun h1_1 => ?_) fun h1_1 => ?_
   ·
    exact gct rfl (gSk (gz hm [] rfl))
   refine gcf rfl (gS (gR (gB rfl (gA rfl (gE (gJ hm (fun s1_1 => [(6, (.bool (s1_1)))]) (fun s1_1 => []) (fun s1_1 => ?_) ?_))))))
   ·
    refine gsd 6 rfl (fun h2_1 => ?_) fun h2_1 => ?_
    ·
     exact gct rfl (gSk (gz hm [] rfl))
    refine gcf rfl (gS (gR (gB rfl (gA rfl (gE (gJ hm (fun s2_1 => [(6, (.bool (s2_1)))]) (fun s2_1 => []) (fun s2_1 => ?_) ?_))))))
    ·
     refine gsd 6 rfl (fun h3_1 => ?_) fun h3_1 => ?_
     ·
      exact gct rfl (gSk (gz hm [] rfl))
     exact gcf rfl (gR (gB rfl (gA rfl (gE (gz hm [] rfl)))))
    repeat clear hm
    intro s2_1 w hm
    exact gz hm [] rfl
   repeat clear hm
   intro s1_1 w hm
   exact gz hm [] rfl
  repeat clear hm
  intro s0_1 w hm
  refine gs 6 rfl (fun h0_2 => ?_) fun h0_2 => ?_
  ·
   exact gct rfl (gS (gR (gA rfl (gE (gRt (gr1 results283 rfl ⟨rfl, hm.below⟩))))))
  exact gcf rfl (gSk (gS (gR (gA rfl (gE (gRt (gr1 results283 rfl ⟨rfl, hm.below⟩)))))))

theorem impl_insOk_ok (w0 : World) (u : Unit_) (v1 : Value) (h1 : GT.rep (hp w0) [v1] u.codes) (k_ : Int) (x_ : Ins_) (v2 : Value) (h2 : GT.rep (hp w0) [v2] x_.args) :
    ConM Tryz.prog 233 [(.agg #[v1]), (nV k_), (.agg #[(nV x_.op), (nV x_.to), v2, (nV x_.n_)])] w0 (impl_insOk u k_ x_) fun r v w' => v = (.bool (r)) ∧ Below w0.heap.size w0 w' := by
  unfold impl_insOk
  refine gcon func233 rfl fun r => ?_
  have hm := Mem.start w0
  refine gS (gR (gBx hm rfl fun b0_1 w hm => gBx hm rfl fun b0_2 w hm => gA rfl (gE (gS (gR (gF fo_30_0 rfl (gL hm 1 isAgg28 rfl (gM rfl (gg fun x0_1 h0_1 hx0_2 => ?_)))))))))
  obtain ⟨b0_3, o0_1, c0_1, he⟩ := idx_form' h1 hx0_2
  subst he
  obtain ⟨v0_1, hc0_1, h0_2⟩ := rk_Code_ h1 hx0_2
  refine gI st_28 h0_1 (idx_lt hx0_2) rfl (gY (yn (hc0_1.mono hm.lez) isAgg57 sizeOf57 rfl) (gAl hm zeroValue57 rfl fun b0_4 w hm => gSN hm 0 sizeOf57 (one_cons rfl (one_cons rfl (one_cons (rep_one h0_2) one_nil))) rfl fun w hm => gE (gS (gR (gY (yU rfl) (gAl hm zeroValue68 rfl fun b0_5 w hm => gS1 hm 0 sizeOf68 rfl rfl fun w hm => gE (gS (gS (gJ hm (fun s0_1 => [(1, (nV k_)), (3, (pV b0_1)), (5, (pV b0_2)), (8, (pV b0_5)), (24, (.bool (s0_1)))]) (fun s0_1 => [blk b0_1 [(sV b0_3 o0_1 u.codes.length c0_1)] 30, blk b0_2 [(nV x_.op), (nV x_.to), v2, (nV x_.n_)] 106, blk b0_5 [(.func (.func 280) #[] #[(pV b0_4)])] 68, blk b0_4 [(nV x0_1.params), (nV x0_1.regs), v0_1] 57]) (fun s0_1 => ?_) ?_)))))))))
  ·
   refine gR (gF fo_106_0 rfl (gL hm 2 isAgg3 rfl (gC hm rfl call208 (impl_isIns_ok _ x_.op) fun r1_1 hx1_1 w hm => gN rfl (gM rfl (gsn 19 rfl (fun h1_1 => ?_) fun h1_1 => ?_)))))
   ·
    exact gO rfl (gO rfl (gO rfl (gO rfl (gKt rfl (gE (gz hm [3, 2, 0, 1] rfl))))))
   exact gF fo_106_2 rfl (gL hm 2 isAgg37 rfl (gY (yU rfl) (gC hm rfl call57 (slices_ContainsFunc_S_int_int_ok _ x_.args v2 (hm.now h2) (fun y0 => impl_insOk_2 y0 x0_1) (.func (.func 281) #[] #[(pV b0_5)]) (fun w y0 r hB hq => ⟨281, [(pV b0_5)], rfl, call281, impl_insOk_2_ok w y0 x0_1 v0_1 (rep_later (hm.now h0_2) hB) b0_4 (hm.blk_later 1 rfl hB) b0_5 (hm.blk_later 0 rfl hB) r hq⟩)) fun r1_2 hx1_2 w hm => gKf rfl (gE (gz hm [3, 2, 0, 1] rfl)))))
  repeat clear hm
  intro s0_1 w hm
  refine gs 24 rfl (fun h0_3 => ?_) fun h0_3 => ?_
  ·
   exact gct rfl (gS (gR (gA rfl (gE (gRt (gr1 results233 rfl ⟨rfl, hm.below⟩))))))
  refine gcf rfl (gSk (gS (gS (gJ hm (fun s0_2 => [(1, (nV k_)), (3, (pV b0_1)), (5, (pV b0_2)), (45, (.bool (s0_2)))]) (fun s0_2 => [blk b0_1 [(sV b0_3 o0_1 u.codes.length c0_1)] 30, blk b0_2 [(nV x_.op), (nV x_.to), v2, (nV x_.n_)] 106]) (fun s0_2 => ?_) ?_))))
  ·
   refine gR (gF fo_106_0 rfl (gL hm 1 isAgg3 rfl (gC hm rfl call142 (impl_sets_ok _ x_.op) fun r1_3 hx1_3 w hm => gM rfl (gs 28 rfl (fun h1_2 => ?_) fun h1_2 => ?_))))
   ·
    refine gL hm 2 isAgg68 rfl (gF fo_106_1 rfl (gL hm 1 isAgg3 rfl (gb fun r1_4 hx1_4 => gf rfl (fun a hf => e_callv hf rfl rfl rfl ⟨280, [(pV b0_4)], rfl, call280, impl_insOk_1_ok _ x_.to x0_1 v0_1 (rep_later (hm.now h0_2) (Below.refl _ _)) b0_4 (hm.blk_later 3 rfl (Below.refl _ _)) _ hx1_4⟩) ?_)))
    rintro v1_4 w ⟨rfl, hB⟩
    replace hm := hm.below' hB; clear hB
    refine gN rfl (gKt rfl (gM rfl (gsn 35 rfl (fun h1_3 => ?_) fun h1_3 => ?_)))
    ·
     exact gO rfl (gO rfl (gO rfl (gO rfl (gO rfl (gO rfl (gO rfl (gO rfl (gO rfl (gKt rfl (gE (gz hm [0, 1] rfl)))))))))))
    refine gF fo_106_0 rfl (gL hm 1 isAgg3 rfl (gC hm rfl call142 (impl_sets_ok _ x_.op) fun r1_5 hx1_5 w hm => gN rfl (gM rfl (gsn 40 rfl (fun h1_4 => ?_) fun h1_4 => ?_))))
    ·
     exact gF fo_106_1 rfl (gL hm 1 isAgg3 rfl (gB rfl (gKt rfl (gKf rfl (gE (gz hm [0, 1] rfl))))))
    exact gO rfl (gO rfl (gO rfl (gKf rfl (gKf rfl (gE (gz hm [0, 1] rfl))))))
   refine gO rfl (gO rfl (gO rfl (gO rfl (gO rfl (gKf rfl (gM rfl (gF fo_106_0 rfl (gL hm 1 isAgg3 rfl (gC hm rfl call142 (impl_sets_ok _ x_.op) fun r1_6 hx1_6 w hm => gN rfl (gM rfl (gsn 40 rfl (fun h1_5 => ?_) fun h1_5 => ?_)))))))))))
   ·
    exact gF fo_106_1 rfl (gL hm 1 isAgg3 rfl (gB rfl (gKt rfl (gKf rfl (gE (gz hm [0, 1] rfl))))))
   exact gO rfl (gO rfl (gO rfl (gKf rfl (gKf rfl (gE (gz hm [0, 1] rfl))))))
  repeat clear hm
  intro s0_2 w hm
  refine gs 45 rfl (fun h0_4 => ?_) fun h0_4 => ?_
  ·
   exact gct rfl (gS (gR (gA rfl (gE (gRt (gr1 results233 rfl ⟨rfl, hm.below⟩))))))
  refine gcf rfl (gSk (gS (gS (gR (gF fo_106_0 rfl (gL hm 1 isAgg3 rfl (gE (gBk (gS (gR (gB rfl (gA rfl (gE (gsd 48 rfl (fun h0_5 => ?_) fun h0_5 => ?_))))))))))))))
  ·
   refine gct rfl (gS (gJ hm (fun s0_3 => [(6, (.bool (s0_3)))]) (fun s0_3 => []) (fun s0_3 => ?_) ?_))
   ·
    refine gR (gF fo_106_2 rfl (gL hm 1 isAgg37 rfl ?_))
    obtain ⟨p1_1, c1_1, rfl, hl1_1⟩ := ro_slice h2
    refine gY (yV st_37 rfl) (gB rfl (gM rfl (gsd 54 rfl (fun h1_6 => ?_) fun h1_6 => ?_)))
    ·
     exact gF fo_106_3 rfl (gL hm 1 isAgg3 rfl (gC hm rfl call282 (impl_isByte_ok _ x_.n_) fun r1_7 hx1_7 w hm => gKt rfl (gA rfl (gE (gz hm [] rfl)))))
    exact gO rfl (gO rfl (gO rfl (gKf rfl (gA rfl (gE (gz hm [] rfl))))))
   repeat clear hm
   intro s0_3 w hm
   exact gRt (gr1 results233 rfl ⟨rfl, hm.below⟩)
  refine gcf rfl (gS (gR (gB rfl (gA rfl (gE (gsd 59 rfl (fun h0_6 => ?_) fun h0_6 => ?_))))))
  ·
   refine gct rfl (gS (gJ hm (fun s0_4 => [(6, (.bool (s0_4)))]) (fun s0_4 => []) (fun s0_4 => ?_) ?_))
   ·
    refine gW (.p 0 (.p 2 (.p 3 (.e 1 (.e 4 (.p 5 (.p 6 (.p 9 (.p 11 (.q 7 (.p 8 (.q 10 (.e 12 (.p 13 (.p 14 (.e 15 (.p 16 (.p 17 (.p 18 .fin))) .nil))) .nil)))))))) .nil) .nil)))) [7, 10, 12, 15] [0, 2, 3, 5, 6, 8, 9, 11, 13, 14, 16, 17, 18] hm [0, 1] [blk b0_1 [(sV b0_3 o0_1 u.codes.length c0_1)] 30, blk b0_2 [(nV x_.op), (nV x_.to), v2, (nV x_.n_)] 106] rfl mxo (by kernel_rfl) (fun _ _ _ h => h.2) fun w hm hS => tP rfl (fun w => yF fo_106_3 rfl) (tP rfl (fun w => yM rfl) (tP rfl (fun w => yB rfl) (tO (tY rfl (yL hm 1 isAgg3 rfl) (tAn rfl (tO (gb fun r1_8 hx1_8 => tf rfl rfl (fun a hf => e_call hf rfl call63 rfl (impl_within_ok _ x_.n_ 0 (w64 (k_ - 1)) _ hx1_8)) ?_)))))))
    rintro v1_8 w ⟨rfl, hB⟩
    replace hm := hm.below' hB; clear hB
    refine tAk hm [0, 1] rfl fun hS => tP rfl (fun w => yM rfl) (gs 66 rfl (fun h1_7 => ?_) fun h1_7 => ?_)
    ·
     refine tP rfl (fun w => yF fo_106_2 rfl) (tP rfl (fun w => yF fo_30_0 rfl) (tP rfl (fun w => yF fo_106_3 rfl) (tQ rfl hS (fun w hm => yL hm 1 isAgg37 rfl) ?_)))
     obtain ⟨p1_2, c1_2, rfl, hl1_2⟩ := ro_slice h2
     refine tP rfl (fun w => yV st_37 rfl) (tQ rfl hS (fun w hm => yL hm 0 isAgg28 rfl) (tO (tY rfl (yL hm 1 isAgg3 rfl) (tAs hS (gg fun x1_1 h1_8 hx1_10 => ?_)))))
     obtain ⟨v1_9, hc1_1, h1_9⟩ := rk_Code_ h1 hx1_10
     exact tP rfl (fun w => yI st_28 h1_8 (idx_lt hx1_10) rfl) (tP rfl (fun w => yF fo_57_0 rfl) (tO (tY rfl (yl isAgg3 ((hc1_1.mono hm.lez).cell (j := 0) rfl) rfl) (tAs hS (tP rfl (fun w => yB rfl) (tP rfl (fun w => yKt rfl) (tP rfl (fun w => yA rfl) (tE (gz hm [] rfl)))))))))
    exact tPo rfl rfl (tPo rfl rfl (tPo rfl rfl (tQo rfl hS rfl (tPo rfl rfl (tQo rfl hS rfl (tO (tEo rfl rfl (tAs hS (tPo rfl rfl (tPo rfl rfl (tO (tEo rfl rfl (tAs hS (tPo rfl rfl (tP rfl (fun w => yKf rfl) (tP rfl (fun w => yA rfl) (tE (gz hm [] rfl))))))))))))))))))
   repeat clear hm
   intro s0_4 w hm
   exact gRt (gr1 results233 rfl ⟨rfl, hm.below⟩)
  refine gcf rfl (gSk (gS (gJ hm (fun s0_5 => [(6, (.bool (s0_5)))]) (fun s0_5 => []) (fun s0_5 => ?_) ?_)))
  ·
   refine gW (.p 0 (.e 1 (.p 2 (.p 3 (.p 4 (.p 7 (.q 5 (.p 6 (.e 8 (.e 9 (.p 10 (.p 11 (.p 12 .fin))) .nil) .nil))))))) .nil)) [8, 9] [0, 2, 3, 4, 6, 7, 10, 11, 12] hm [0, 1] [blk b0_1 [(sV b0_3 o0_1 u.codes.length c0_1)] 30, blk b0_2 [(nV x_.op), (nV x_.to), v2, (nV x_.n_)] 106] rfl mxo (by kernel_rfl) (fun _ _ _ h => h.2) fun w hm hS => tP rfl (fun w => yF fo_106_3 rfl) (tO (tY rfl (yL hm 1 isAgg3 rfl) (tAn rfl (tP rfl (fun w => yB rfl) (tP rfl (fun w => yM rfl) (gsd 82 rfl (fun h1_10 => ?_) fun h1_10 => ?_))))))
   ·
    refine tP rfl (fun w => yF fo_106_2 rfl) (tP rfl (fun w => yF fo_106_0 rfl) (tQ rfl hS (fun w hm => yL hm 1 isAgg37 rfl) ?_))
    obtain ⟨p1_3, c1_3, rfl, hl1_3⟩ := ro_slice h2
    refine tP rfl (fun w => yV st_37 rfl) (tO (tY rfl (yL hm 1 isAgg3 rfl) (tAs hS (tO (gb fun r1_9 hx1_11 => tf rfl rfl (fun a hf => e_call hf rfl call283 rfl (impl_insArgs_ok _ x_.op _ hx1_11)) ?_)))))
    rintro v1_10 w ⟨rfl, hB⟩
    replace hm := hm.below' hB; clear hB
    exact tAk hm [0, 1] rfl fun hS => tP rfl (fun w => yB rfl) (tP rfl (fun w => yKt rfl) (tP rfl (fun w => yA rfl) (tE (gz hm [] rfl))))
   exact tPo rfl rfl (tPo rfl rfl (tQo rfl hS rfl (tPo rfl rfl (tO (tEo rfl rfl (tAs hS (tO (tEo rfl rfl (tAs hS (tPo rfl rfl (tP rfl (fun w => yKf rfl) (tP rfl (fun w => yA rfl) (tE (gz hm [] rfl))))))))))))))
  repeat clear hm
  intro s0_5 w hm
  exact gRt (gr1 results233 rfl ⟨rfl, hm.below⟩)

theorem impl_codeOk_3_ok (w0 : World) (i_ : Ins_) (v1 : Value) (h1 : GT.rep (hp w0) [v1] i_.args) (c0_ : Unit_) (v2 : Value) (h2 : GT.rep (hp w0) [v2] c0_.codes) (bf0 : Nat) (hbf0 : w0.heap[bf0]? = some (.cells ([v2] : List Value).toArray 30 (0, 0))) (c1_ : Int) (bf1 : Nat) (hbf1 : w0.heap[bf1]? = some (.cells ([(nV c1_)] : List Value).toArray 3 (0, 0))) :
    ConM Tryz.prog 232 [(.agg #[(nV i_.op), (nV i_.to), v1, (nV i_.n_)]), (pV bf0), (pV bf1)] w0 (impl_codeOk_3 i_ c0_ c1_) fun r v w' => v = (.bool (r)) ∧ Below w0.heap.size w0 w' := by
  unfold impl_codeOk_3
  refine gcon func232 rfl fun r => ?_
  have hm := Mem.start w0
  exact gS (gR (gBx hm rfl fun b0_1 w hm => gA rfl (gE (gS (gR (gY (yn (hm.old_at hbf0) isAgg30 sizeOf30 rfl) (gY (yl isAgg3 (hm.old_cell hbf1 rfl) rfl) (gY (yn (hm.blk_at 0 rfl) isAgg106 sizeOf106 rfl) (gC hm rfl call233 (impl_insOk_ok _ c0_ v2 (hm.now h2) c1_ i_ v1 (hm.now h1)) fun r0_1 hx0_1 w hm => gN rfl (gA rfl (gE (gRt (gr1 results232 rfl ⟨rfl, hm.below⟩)))))))))))))

theorem slices_IndexFunc_S_impl_Ins_impl_Ins_ok (w0 : World) (s_ : List Ins_) (v1 : Value) (h1 : GT.rep (hp w0) [v1] s_) (f : Ins_ → Option Bool) (fv1 : Value) (hfn1 : ∀ (w : World) (y0 : Ins_) (z1 : Value) (_ : GT.rep (hp w) [z1] y0.args) (r : Bool), Below w0.heap.size w0 w → f y0 = some r → FnOk Tryz.prog fv1 [(.agg #[(nV y0.op), (nV y0.to), z1, (nV y0.n_)])] w (fun v w' => v = (.bool (r)) ∧ Below w.heap.size w w')) :
    ConM Tryz.prog 279 [v1, fv1] w0 (slices_IndexFunc_S_impl_Ins_impl_Ins s_ f) fun r v w' => v = (nV r) ∧ Below w0.heap.size w0 w' := by
  unfold slices_IndexFunc_S_impl_Ins_impl_Ins
  refine gcon func279 rfl fun r => ?_
  have hm := Mem.start w0
  refine gS (gR (gA rfl (gE (gS (gS (gR (gM rfl ?_)))))))
  obtain ⟨p0_1, c0_1, rfl, hl0_1⟩ := ro_slice h1
  refine gY (yV st_102 rfl) (gM rfl (gE (gBk (gNf hm (fun i1_1 xs1_1 => [(0, (.slice p0_1 s_.length c0_1)), (1, fv1), (7, (nV ((s_.length : Int)))), (8, (nV i1_1))]) (fun i1_1 xs1_1 => []) [] rfl ?_ ?_))))
  ·
   repeat clear hm
   intro r0_1 hq0_1 i1_1 xs1_1 w hm hi0_1 hi0_2 q0_1 ho0_1
   refine gS (gR (gB rfl (gE (gS (go _ 9 rfl (decide_eq_true (by omega)) (gct rfl (gSk (gS (gBk (gS (gR (gM rfl (gA rfl (gE (gS (gR (gM rfl (gM rfl (gM rfl (gg fun x1_1 h1_1 hx1_2 => ?_))))))))))))))))))))
   obtain ⟨b1_1, o1_1, c1_1, he⟩ := idx_form' h1 hx1_2
   simp only [Value.slice.injEq, Option.some.injEq] at he; obtain ⟨rfl, _, rfl⟩ := he
   obtain ⟨v1_1, hc1_1, h1_2⟩ := rk_Ins_ h1 hx1_2
   refine gI st_102 h1_1 (idx_lt hx1_2) rfl (gY (yn (hc1_1.mono hm.lez) isAgg106 sizeOf106 rfl) (gb fun r1_1 hx1_3 => gf rfl (fun a hf => e_callv hf rfl rfl rfl (hfn1 _ x1_1 v1_1 (hm.now h1_2) _ hm.below hx1_3)) ?_))
   rintro v1_2 w ⟨rfl, hB⟩
   replace hm := hm.below' hB; clear hB
   refine gE (gs 16 rfl (fun h1_3 => ?_) fun h1_3 => ?_)
   ·
    exact gct rfl (gS (gR (gM rfl (gA rfl (gE (gRt (gLr ho0_1 hq0_1 (gr1 results279 rfl ⟨rfl, hm.below⟩))))))))
   exact gcf rfl (gSk (gR (gP (by omega) (by omega) rfl (gM rfl (gE (gze hm [] rfl))))))
  repeat clear hm
  intro i0_1 xs0_1 w hm hi0_3 hi0_4
  exact gS (gR (gB rfl (gE (gS (go _ 9 rfl (decide_eq_false (by omega)) (gcf rfl (gXt (gHh (gS (gR (gA rfl (gE (gRt (gr1 results279 rfl ⟨rfl, hm.below⟩))))))))))))))

theorem slices_ContainsFunc_S_impl_Ins_impl_Ins_ok (w0 : World) (s_ : List Ins_) (v1 : Value) (h1 : GT.rep (hp w0) [v1] s_) (f : Ins_ → Option Bool) (fv1 : Value) (hfn1 : ∀ (w : World) (y0 : Ins_) (z1 : Value) (_ : GT.rep (hp w) [z1] y0.args) (r : Bool), Below w0.heap.size w0 w → f y0 = some r → FnOk Tryz.prog fv1 [(.agg #[(nV y0.op), (nV y0.to), z1, (nV y0.n_)])] w (fun v w' => v = (.bool (r)) ∧ Below w.heap.size w w')) :
    ConM Tryz.prog 231 [v1, fv1] w0 (slices_ContainsFunc_S_impl_Ins_impl_Ins s_ f) fun r v w' => v = (.bool (r)) ∧ Below w0.heap.size w0 w' := by
  unfold slices_ContainsFunc_S_impl_Ins_impl_Ins
  refine gcon func231 rfl fun r => ?_
  have hm := Mem.start w0
  exact gS (gR (gA rfl (gE (gS (gR (gM rfl (gM rfl (gC hm rfl call279 (slices_IndexFunc_S_impl_Ins_impl_Ins_ok _ s_ v1 (hm.now h1) f fv1 (fun w y0 z0_0 z0_1 r hB hq => hfn1 w y0 z0_0 z0_1 r (hm.below.trans (hB.mono hm.below.size)) hq)) fun r0_1 hx0_1 w hm => gB rfl (gA rfl (gE (gRt (gr1 results231 rfl ⟨rfl, hm.below⟩))))))))))))

theorem slices_Index_S_int_int_ok (w0 : World) (s_ : List Int) (v1 : Value) (h1 : GT.rep (hp w0) [v1] s_) (v_ : Int) :
    ConM Tryz.prog 157 [v1, (nV v_)] w0 (slices_Index_S_int_int s_ v_) fun r v w' => v = (nV r) ∧ Below w0.heap.size w0 w' := by
  unfold slices_Index_S_int_int
  refine gcon func157 rfl fun r => ?_
  have hm := Mem.start w0
  refine gS (gR (gA rfl (gE (gS (gS (gR (gM rfl ?_)))))))
  obtain ⟨p0_1, c0_1, rfl, hl0_1⟩ := ro_slice h1
  refine gY (yV st_37 rfl) (gM rfl (gE (gBk (gNf hm (fun i1_1 xs1_1 => [(0, (.slice p0_1 s_.length c0_1)), (1, (nV v_)), (7, (nV ((s_.length : Int)))), (8, (nV i1_1))]) (fun i1_1 xs1_1 => []) [] rfl ?_ ?_))))
  ·
   repeat clear hm
   intro r0_1 hq0_1 i1_1 xs1_1 w hm hi0_1 hi0_2 q0_1 ho0_1
   refine gS (gR (gB rfl (gE (gS (go _ 9 rfl (decide_eq_true (by omega)) (gct rfl (gSk (gS (gBk (gS (gR (gM rfl (gA rfl (gE (gS (gR (gM rfl (gM rfl (gM rfl (gg fun x1_1 h1_1 hx1_2 => ?_))))))))))))))))))))
   obtain ⟨b1_1, o1_1, c1_1, he⟩ := idx_form h1 hx1_2
   simp only [Value.slice.injEq, Option.some.injEq] at he; obtain ⟨rfl, _, rfl⟩ := he
   refine gI st_37 h1_1 (idx_lt hx1_2) rfl (gY (yl isAgg3 ((flat_cells (cs := [(nV x1_1)]) (hm.now h1) hx1_2 rfl).cell (j := 0) rfl) rfl) (gB rfl (gE (gsd 16 rfl (fun h1_2 => ?_) fun h1_2 => ?_))))
   ·
    exact gct rfl (gS (gR (gM rfl (gA rfl (gE (gRt (gLr ho0_1 hq0_1 (gr1 results157 rfl ⟨rfl, hm.below⟩))))))))
   exact gcf rfl (gSk (gR (gP (by omega) (by omega) rfl (gM rfl (gE (gze hm [] rfl))))))
  repeat clear hm
  intro i0_1 xs0_1 w hm hi0_3 hi0_4
  exact gS (gR (gB rfl (gE (gS (go _ 9 rfl (decide_eq_false (by omega)) (gcf rfl (gXt (gHh (gS (gR (gA rfl (gE (gRt (gr1 results157 rfl ⟨rfl, hm.below⟩))))))))))))))

theorem slices_Contains_S_int_int_ok (w0 : World) (s_ : List Int) (v1 : Value) (h1 : GT.rep (hp w0) [v1] s_) (v_ : Int) :
    ConM Tryz.prog 111 [v1, (nV v_)] w0 (slices_Contains_S_int_int s_ v_) fun r v w' => v = (.bool (r)) ∧ Below w0.heap.size w0 w' := by
  unfold slices_Contains_S_int_int
  refine gcon func111 rfl fun r => ?_
  have hm := Mem.start w0
  exact gS (gR (gA rfl (gE (gS (gR (gM rfl (gM rfl (gC hm rfl call157 (slices_Index_S_int_int_ok _ s_ v1 (hm.now h1) v_) fun r0_1 hx0_1 w hm => gB rfl (gA rfl (gE (gRt (gr1 results111 rfl ⟨rfl, hm.below⟩))))))))))))

theorem impl_PredsOf_ok (w0 : World) (c_ : Code_) (v1 : Value) (h1 : GT.rep (hp w0) [v1] c_.blocks) (b_ : Int) :
    ConM Tryz.prog 141 [(.agg #[(nV c_.params), (nV c_.regs), v1]), (nV b_)] w0 (impl_PredsOf c_ b_) fun r v w' => ∃ (x1 : Value), v = x1 ∧ Mem w0 (hp w0) w' [ow [x1] r] := by
  unfold impl_PredsOf
  refine gcon func141 rfl fun r => ?_
  have hm := Mem.start w0
  refine gS (gR (gBx hm rfl fun b0_1 w hm => gA rfl (gE (gS (gR (gA rfl (gE (gS (gS (gR (gM rfl (gF fo_57_2 rfl (gL hm 0 isAgg55 rfl ?_)))))))))))))
  obtain ⟨p0_1, c0_1, rfl, hl0_1⟩ := ro_slice h1
  refine gY (yV st_55 rfl) (gY (yS (by omega) (by omega) rfl) (gC hm rfl call63 (impl_within_ok _ b_ 0 (((c_.blocks.length : Int)) - 1)) fun r0_1 hx0_1 w hm => gN rfl (gE (gsn 14 rfl (fun h0_1 => ?_) fun h0_1 => ?_))))
  ·
   refine gct rfl (gS (gR (gA rfl (gE (gRt ?_)))))
   replace hm := hm.nilow (α := Int)
   exact gr1 results141 rfl ⟨(.slice none 0 0), rfl, hm.pk [0] rfl rfl⟩
  refine gcf rfl (gSk (gS (gS (gR (gF fo_57_2 rfl (gL hm 0 isAgg55 rfl (gY (yV st_55 rfl) (gM rfl (gE (gBk ?_))))))))))
  replace hm := hm.nilow (α := Int)
  refine gNg (fun i1_1 xs1_1 a w => ∃ (v1_1 : Value), St 33 [(1, (nV b_)), (5, v1_1), (16, (.slice p0_1 c_.blocks.length c0_1)), (17, (nV ((c_.blocks.length : Int)))), (18, (nV i1_1))] w0 (hp w0) [ow [v1_1] xs1_1] a w) (fun a hf => ⟨(.slice none 0 0), hf.sb rfl, hm.pk [0] rfl rfl⟩) ?_ ?_
  ·
   repeat clear hm
   rintro _ _ i1_1 xs1_1 a w ⟨v1_1, hf, hm⟩ hi0_1 hi0_2 q0_1 _
   refine gv hf (gS (gR (gB rfl (gE (gS (go _ 19 rfl (decide_eq_true (by omega)) (gct rfl (gSk (gS (gJg (fun s1_1 a w => ∃ (v1_2 : Value), St 33 [(1, (nV b_)), (5, v1_2), (16, (.slice p0_1 c_.blocks.length c0_1)), (17, (nV ((c_.blocks.length : Int)))), (18, (nV i1_1))] w0 (hp w0) [ow [v1_2] s1_1] a w) (fun s1_1 => ?_) ?_))))))))))
   ·
    refine gBk (gS (gR (gM rfl (gg fun x2_1 h2_1 hx2_2 => ?_))))
    obtain ⟨b2_1, o2_1, c2_1, he⟩ := idx_form' h1 hx2_2
    simp only [Value.slice.injEq, Option.some.injEq] at he; obtain ⟨rfl, _, rfl⟩ := he
    obtain ⟨v2_1, v2_2, v2_3, hc2_1, h2_2, h2_3, h2_4⟩ := rk_Block_ h1 hx2_2
    refine gI st_55 h2_1 (idx_lt hx2_2) rfl (gY (yn (hc2_1.mono hm.lez) isAgg104 sizeOf104 rfl) (gAl hm zeroValue104 rfl fun b2_2 w hm => gA rfl (gSN hm 0 sizeOf104 (one_cons (rep_one h2_2) (one_cons (rep_one h2_3) (one_cons rfl (one_cons rfl (one_cons (rep_one h2_4) one_nil))))) rfl fun w hm => gE (gS (gR (gF fo_104_4 rfl (gL hm 0 isAgg37 rfl (gM rfl (gC hm rfl call111 (slices_Contains_S_int_int_ok _ x2_1.next_ v2_3 (hm.now h2_4) b_) fun r2_1 hx2_3 w hm => gE (gJg (fun s2_1 a w => ∃ (v2_5 : Value), St 33 [(1, (nV b_)), (5, v2_5), (16, (sV b2_1 o2_1 c_.blocks.length c0_1)), (17, (nV ((c_.blocks.length : Int)))), (18, (nV i1_1))] w0 (hp w0) [ow [v2_5] s2_1] a w) (fun s2_1 => ?_) ?_))))))))))
    ·
     refine gs 26 rfl (fun h3_1 => ?_) fun h3_1 => ?_
     ·
      refine gct rfl (gR (gM rfl (gM rfl (gf rfl (fun a hf => e_build (vs := #[(0, (nV i1_1))]) (cs := [(nV i1_1)]) et_37 hf hm rfl rfl (by kernel_rfl) rfl rfl) ?_))))
      rintro _ w ⟨b3_1, rfl, hm⟩
      replace hm := hm.lit (xs := ([i1_1] : List Int)) 0 rfl rfl rfl rfl
      refine gb fun ys3_1 hx3_1 => ?_
      obtain ⟨h3_2, h3_2e⟩ := appM_some.1 hx3_1
      refine gf rfl (fun a hf => e_append 2 et_37 hf hm rfl (hm.ow_rep 0 rfl) rfl rfl rfl h3_2) ?_
      rintro v3_1 w hm
      rw [h3_2e] at hm
      exact gA rfl (gE (gZ fun a hf => ⟨v3_1, hf.sb rfl, hm.pk [2] rfl rfl⟩))
     exact gcf rfl (gSk (gZ fun a hf => ⟨v1_1, hf.sb rfl, hm.pk [1] rfl rfl⟩))
    repeat clear hm
    rintro s2_1 a w ⟨v2_5, hf, hm⟩
    exact gv hf (gZ fun a hf => ⟨v2_5, hf.sb rfl, hm.pk [0] rfl rfl⟩)
   repeat clear hm
   rintro s1_1 a w ⟨v1_2, hf, hm⟩
   exact gv hf (gR (gP (by omega) (by omega) rfl (gM rfl (gE (gZe fun a hf => ⟨v1_2, hf.sb rfl, hm.pk [0] rfl rfl⟩)))))
  repeat clear hm
  rintro i0_1 xs0_1 a w ⟨v0_2, hf, hm⟩ hi0_3 hi0_4
  exact gv hf (gS (gR (gB rfl (gE (gS (go _ 19 rfl (decide_eq_false (by omega)) (gcf rfl (gXt (gHh (gS (gR (gM rfl (gA rfl (gE (gRt (gr1 results141 rfl ⟨v0_2, rfl, hm.pk [0] rfl rfl⟩))))))))))))))))

theorem impl_codeOk_4_ok (w0 : World) (r_ : Int) (c0_0_ : Code_) (v1 : Value) (h1 : GT.rep (hp w0) [v1] c0_0_.blocks) (bf0_0 : Nat) (hbf0_0 : w0.heap[bf0_0]? = some (.cells ([(nV c0_0_.params), (nV c0_0_.regs), v1] : List Value).toArray 57 (0, 0))) (bf0 : Nat) (hbf0 : w0.heap[bf0]? = some (.cells ([(.func (.func 228) #[] #[(pV bf0_0)])] : List Value).toArray 68 (0, 0))) :
    ConM Tryz.prog 234 [(nV r_), (pV bf0)] w0 (impl_codeOk_4 r_ c0_0_) fun r v w' => v = (.bool (r)) ∧ Below w0.heap.size w0 w' := by
  unfold impl_codeOk_4
  refine gcon func234 rfl fun r => ?_
  have hm := Mem.start w0
  refine gS (gR (gA rfl (gE (gS (gR (gY (yl isAgg68 (hm.old_cell hbf0 rfl) rfl) (gM rfl (gb fun r0_1 hx0_1 => gf rfl (fun a hf => e_callv hf rfl rfl rfl ⟨228, [(pV bf0_0)], rfl, call228, impl_codeOk_1_ok _ r_ c0_0_ v1 (rep_later (hm.now h1) (Below.refl _ _)) bf0_0 (hm.old_later hbf0_0 (Below.refl _ _)) _ hx0_1⟩) ?_))))))))
  rintro v0_1 w ⟨rfl, hB⟩
  replace hm := hm.below' hB; clear hB
  exact gN rfl (gA rfl (gE (gRt (gr1 results234 rfl ⟨rfl, hm.below⟩))))

theorem impl_codeOk_ok (w0 : World) (u : Unit_) (v1 : Value) (h1 : GT.rep (hp w0) [v1] u.codes) (k_ : Int) :
    ConM Tryz.prog 162 [(.agg #[v1]), (nV k_)] w0 (impl_codeOk u k_) fun r v w' => v = (.bool (r)) ∧ Below w0.heap.size w0 w' := by
  unfold impl_codeOk
  refine gcon func162 rfl fun r => ?_
  have hm := Mem.start w0
  refine gS (gR (gBx hm rfl fun b0_1 w hm => gBx hm rfl fun b0_2 w hm => gA rfl (gE (gS (gR (gF fo_30_0 rfl (gL hm 1 isAgg28 rfl (gL hm 0 isAgg3 rfl (gg fun x0_1 h0_1 hx0_2 => ?_)))))))))
  obtain ⟨b0_3, o0_1, c0_1, he⟩ := idx_form' h1 hx0_2
  subst he
  obtain ⟨v0_1, hc0_1, h0_2⟩ := rk_Code_ h1 hx0_2
  refine gI st_28 h0_1 (idx_lt hx0_2) rfl (gY (yn (hc0_1.mono hm.lez) isAgg57 sizeOf57 rfl) (gAl hm zeroValue57 rfl fun b0_4 w hm => gSN hm 0 sizeOf57 (one_cons rfl (one_cons rfl (one_cons (rep_one h0_2) one_nil))) rfl fun w hm => gE (gS (gS (gJ hm (fun s0_1 => [(2, (pV b0_1)), (3, (pV b0_2)), (5, (pV b0_4)), (36, (.bool (s0_1)))]) (fun s0_1 => [blk b0_1 [(sV b0_3 o0_1 u.codes.length c0_1)] 30, blk b0_2 [(nV k_)] 3, blk b0_4 [(nV x0_1.params), (nV x0_1.regs), v0_1] 57]) (fun s0_1 => ?_) ?_)))))
  ·
   refine gR (gF fo_57_1 rfl (gL hm 0 isAgg3 rfl (gC hm rfl call63 (impl_within_ok _ x0_1.regs 0 300) fun r1_1 hx1_1 w hm => gN rfl (gM rfl (gsn 21 rfl (fun h1_1 => ?_) fun h1_1 => ?_)))))
   ·
    exact gO rfl (gO rfl (gO rfl (gO rfl (gO rfl (gO rfl (gO rfl (gKt rfl (gM rfl (gO rfl (gO rfl (gO rfl (gO rfl (gO rfl (gKt rfl (gE (gz hm [2, 1, 0] rfl))))))))))))))))
   refine gF fo_57_0 rfl (gL hm 0 isAgg3 rfl (gF fo_57_1 rfl (gL hm 0 isAgg3 rfl (gY (yG rfl (y_min rfl rfl rfl)) ?_))))
   have h1_2 : minI 3 x0_1.regs = min 3 x0_1.regs := minI_eq _ _
   refine gC hm rfl call63 (impl_within_ok _ x0_1.params 0 (minI 3 x0_1.regs)) fun r1_2 hx1_2 w hm => gN rfl (gKf rfl (gM rfl (gsn 30 rfl (fun h1_3 => ?_) fun h1_3 => ?_)))
   ·
    exact gO rfl (gO rfl (gO rfl (gO rfl (gO rfl (gKt rfl (gE (gz hm [2, 1, 0] rfl)))))))
   refine gF fo_57_2 rfl (gL hm 0 isAgg55 rfl ?_)
   obtain ⟨p1_1, c1_1, rfl, hl1_1⟩ := ro_slice h0_2
   exact gY (yV st_55 rfl) (gC hm rfl call63 (impl_within_ok _ (x0_1.blocks.length : Int) 1 160) fun r1_3 hx1_3 w hm => gN rfl (gKf rfl (gE (gz hm [2, 1, 0] rfl))))
  repeat clear hm
  intro s0_1 w hm
  refine gs 36 rfl (fun h0_3 => ?_) fun h0_3 => ?_
  ·
   exact gct rfl (gS (gR (gA rfl (gE (gRt (gr1 results162 rfl ⟨rfl, hm.below⟩))))))
  refine gcf rfl (gSk (gS (gR (gY (yU rfl) (gAl hm zeroValue68 rfl fun b0_5 w hm => gS1 hm 0 sizeOf68 rfl rfl fun w hm => gE (gS (gS (gR (gF fo_57_2 rfl (gL hm 3 isAgg55 rfl ?_))))))))))
  obtain ⟨p0_1, c0_2, rfl, hl0_1⟩ := ro_slice h0_2
  refine gY (yV st_55 rfl) (gM rfl (gE (gBk (gNf hm (fun i1_1 xs1_1 => [(2, (pV b0_1)), (3, (pV b0_2)), (5, (pV b0_4)), (6, (pV b0_5)), (39, (.slice p0_1 x0_1.blocks.length c0_2)), (40, (nV ((x0_1.blocks.length : Int)))), (41, (nV i1_1))]) (fun i1_1 xs1_1 => [blk b0_1 [(sV b0_3 o0_1 u.codes.length c0_1)] 30, blk b0_2 [(nV k_)] 3, blk b0_4 [(nV x0_1.params), (nV x0_1.regs), (.slice p0_1 x0_1.blocks.length c0_2)] 57, blk b0_5 [(.func (.func 228) #[] #[(pV b0_4)])] 68]) [1, 2, 3, 0] rfl ?_ ?_))))
  ·
   repeat clear hm
   intro r0_1 hq0_2 i1_1 xs1_1 w hm hi0_1 hi0_2 q0_1 ho0_1
   refine gS (gR (gB rfl (gE (gS (go _ 42 rfl (decide_eq_true (by omega)) (gct rfl (gSk (gS (gBk (gS (gR (gM rfl (gg fun x1_1 h1_4 hx1_5 => ?_)))))))))))))
   obtain ⟨b1_1, o1_1, c1_2, he⟩ := idx_form' h0_2 hx1_5
   simp only [Value.slice.injEq, Option.some.injEq] at he; obtain ⟨rfl, _, rfl⟩ := he
   obtain ⟨v1_4, v1_5, v1_6, hc1_1, h1_5, h1_6, h1_7⟩ := rk_Block_ h0_2 hx1_5
   refine gI st_55 h1_4 (idx_lt hx1_5) rfl (gY (yn (hc1_1.mono hm.lez) isAgg104 sizeOf104 rfl) (gAl hm zeroValue104 rfl fun b1_2 w hm => gA rfl (gSN hm 0 sizeOf104 (one_cons (rep_one h1_5) (one_cons (rep_one h1_6) (one_cons rfl (one_cons rfl (one_cons (rep_one h1_7) one_nil))))) rfl fun w hm => gE (gS (gS (gJ hm (fun s1_1 => [(2, (pV b0_1)), (3, (pV b0_2)), (5, (pV b0_4)), (6, (pV b0_5)), (7, (nV i1_1)), (8, (pV b1_2)), (39, (sV b1_1 o1_1 x0_1.blocks.length c0_2)), (40, (nV ((x0_1.blocks.length : Int)))), (41, (nV i1_1)), (75, (.bool (s1_1)))]) (fun s1_1 => [blk b0_1 [(sV b0_3 o0_1 u.codes.length c0_1)] 30, blk b0_2 [(nV k_)] 3, blk b0_4 [(nV x0_1.params), (nV x0_1.regs), (sV b1_1 o1_1 x0_1.blocks.length c0_2)] 57, blk b0_5 [(.func (.func 228) #[] #[(pV b0_4)])] 68, blk b1_2 [v1_4, v1_5, (nV x1_1.jump), (nV x1_1.on), v1_6] 104]) (fun s1_1 => ?_) ?_))))))
   ·
    refine gW (.p 0 (.p 3 (.q 1 (.p 2 (.e 4 (.e 5 (.p 6 (.p 7 (.p 8 (.e 9 (.e 10 (.p 11 (.p 13 (.q 12 (.e 14 (.e 15 (.p 16 (.p 17 (.p 18 (.p 19 (.p 20 (.e 21 (.e 22 (.p 23 (.p 24 (.p 25 (.e 26 (.p 27 (.p 28 (.p 29 .fin))) .nil)))) .nil) .nil)))))) .nil) .nil)))) .nil) .nil)))) .nil) .nil))))) [4, 5, 14] [0, 2, 3, 6, 7, 8, 11, 13, 16, 17, 18, 19, 20, 23, 24, 25, 27, 28, 29] hm [0, 1, 2, 3, 4] [blk b1_2 [v1_4, v1_5, (nV x1_1.jump), (nV x1_1.on), v1_6] 104, blk b0_1 [(sV b0_3 o0_1 u.codes.length c0_1)] 30, blk b0_2 [(nV k_)] 3, blk b0_4 [(nV x0_1.params), (nV x0_1.regs), (sV b1_1 o1_1 x0_1.blocks.length c0_2)] 57, blk b0_5 [(.func (.func 228) #[] #[(pV b0_4)])] 68] rfl mxo (by kernel_rfl) (fun _ _ _ h => h.2) fun w hm hS => tP rfl (fun w => yF fo_104_4 rfl) (tP rfl (fun w => yF fo_104_2 rfl) (tQ rfl hS (fun w hm => yL hm 0 isAgg37 rfl) ?_))
    obtain ⟨p2_1, c2_1, rfl, hl2_1⟩ := ro_slice h1_7
    refine tP rfl (fun w => yV st_37 rfl) (tO (tY rfl (yL hm 0 isAgg3 rfl) (tAs hS (tO (gb fun r2_1 hx2_1 => tf rfl rfl (fun a hf => e_call hf rfl call229 rfl (impl_nextCount_ok _ x1_1.jump _ hx2_1)) ?_)))))
    rintro v2_1 w ⟨rfl, hB⟩
    replace hm := hm.below' hB; clear hB
    refine tAk hm [0, 1, 2, 3, 4] rfl fun hS => tP rfl (fun w => yB rfl) (tP rfl (fun w => yM rfl) (gsd 53 rfl (fun h2_1 => ?_) fun h2_1 => ?_))
    ·
     refine tPo rfl rfl (tO (tEo rfl rfl (tAn rfl (tO (tEo rfl rfl (tAn rfl (tPo rfl rfl (tPo rfl rfl (tQo rfl hS rfl (tO (tEo rfl rfl (tAs hS (tO (tEo rfl rfl (tAn rfl (tPo rfl rfl (tPo rfl rfl (tP rfl (fun w => yKt rfl) (tP rfl (fun w => yM rfl) (tPo rfl rfl (tO (tEo rfl rfl (tAn rfl (tO (tEo rfl rfl (tAn rfl (tPo rfl rfl (tPo rfl rfl (tPo rfl rfl (tO ?_))))))))))))))))))))))))))))))
     exact tEo rfl rfl (tAn rfl (tPo rfl rfl (tPo rfl rfl (tP rfl (fun w => yKt rfl) (tE (gz hm [1, 2, 3, 4, 0] rfl))))))
    refine tP rfl (fun w => yF fo_104_2 rfl) (tO (tY rfl (yL hm 0 isAgg3 rfl) (tAn rfl (tO (gb fun r2_2 hx2_2 => tf rfl rfl (fun a hf => e_call hf rfl call144 rfl (impl_usesOn_ok _ x1_1.jump _ hx2_2)) ?_)))))
    rintro v2_2 w ⟨rfl, hB⟩
    replace hm := hm.below' hB; clear hB
    refine tAk hm [0, 1, 2, 3, 4] rfl fun hS => tP rfl (fun w => yM rfl) (gs 57 rfl (fun h2_2 => ?_) fun h2_2 => ?_)
    ·
     refine tP rfl (fun w => yF fo_104_3 rfl) (tQ rfl hS (fun w hm => yL hm 4 isAgg68 rfl) (tO (tY rfl (yL hm 0 isAgg3 rfl) (tAs hS (tO (gb fun r2_3 hx2_3 => tf rfl rfl (fun a hf => e_callv hf rfl rfl rfl ⟨228, [(pV b0_4)], rfl, call228, impl_codeOk_1_ok _ x1_1.on x0_1 (sV b1_1 o1_1 x0_1.blocks.length c0_2) (rep_later (hm.now h0_2) (Below.refl _ _)) b0_4 (hm.blk_later 3 rfl (Below.refl _ _)) _ hx2_3⟩) ?_))))))
     rintro v2_3 w ⟨rfl, hB⟩
     replace hm := hm.below' hB; clear hB
     refine tAn rfl (tP rfl (fun w => yN rfl) (tP rfl (fun w => yKt rfl) (tP rfl (fun w => yKf rfl) (tP rfl (fun w => yM rfl) (gsn 65 rfl (fun h2_3 => ?_) fun h2_3 => ?_)))))
     ·
      exact tPo rfl rfl (tO (tEo rfl rfl (tAn rfl (tO (tEo rfl rfl (tAn rfl (tPo rfl rfl (tPo rfl rfl (tPo rfl rfl (tO (tEo rfl rfl (tAn rfl (tPo rfl rfl (tPo rfl rfl (tP rfl (fun w => yKt rfl) (tE (gz hm [1, 2, 3, 4, 0] rfl)))))))))))))))))
     refine tP rfl (fun w => yF fo_104_2 rfl) (tO (tY rfl (yL hm 0 isAgg3 rfl) (tAn rfl (tO (gb fun r2_4 hx2_4 => tf rfl rfl (fun a hf => e_call hf rfl call144 rfl (impl_usesOn_ok _ x1_1.jump _ hx2_4)) ?_)))))
     rintro v2_4 w ⟨rfl, hB⟩
     replace hm := hm.below' hB; clear hB
     refine tAn rfl (tP rfl (fun w => yN rfl) (tP rfl (fun w => yM rfl) (gsn 70 rfl (fun h2_4 => ?_) fun h2_4 => ?_)))
     ·
      exact tP rfl (fun w => yF fo_104_3 rfl) (tO (tY rfl (yL hm 0 isAgg3 rfl) (tAn rfl (tP rfl (fun w => yB rfl) (tP rfl (fun w => yKt rfl) (tP rfl (fun w => yKf rfl) (tE (gz hm [1, 2, 3, 4, 0] rfl))))))))
     exact tPo rfl rfl (tO (tEo rfl rfl (tAn rfl (tPo rfl rfl (tP rfl (fun w => yKf rfl) (tP rfl (fun w => yKf rfl) (tE (gz hm [1, 2, 3, 4, 0] rfl))))))))
    refine tPo rfl rfl (tQo rfl hS rfl (tO (tEo rfl rfl (tAs hS (tO (tEo rfl rfl (tAn rfl (tPo rfl rfl (tP rfl (fun w => yKf rfl) (tP rfl (fun w => yKf rfl) (tP rfl (fun w => yM rfl) (tP rfl (fun w => yF fo_104_2 rfl) (tO (tY rfl (yL hm 0 isAgg3 rfl) (tAn rfl (tO (gb fun r2_5 hx2_5 => tf rfl rfl (fun a hf => e_call hf rfl call144 rfl (impl_usesOn_ok _ x1_1.jump _ hx2_5)) ?_)))))))))))))))))
    rintro v2_5 w ⟨rfl, hB⟩
    replace hm := hm.below' hB; clear hB
    refine tAn rfl (tP rfl (fun w => yN rfl) (tP rfl (fun w => yM rfl) (gsn 70 rfl (fun h2_5 => ?_) fun h2_5 => ?_)))
    ·
     exact tP rfl (fun w => yF fo_104_3 rfl) (tO (tY rfl (yL hm 0 isAgg3 rfl) (tAn rfl (tP rfl (fun w => yB rfl) (tP rfl (fun w => yKt rfl) (tP rfl (fun w => yKf rfl) (tE (gz hm [1, 2, 3, 4, 0] rfl))))))))
    exact tPo rfl rfl (tO (tEo rfl rfl (tAn rfl (tPo rfl rfl (tP rfl (fun w => yKf rfl) (tP rfl (fun w => yKf rfl) (tE (gz hm [1, 2, 3, 4, 0] rfl))))))))
   repeat clear hm
   intro s1_1 w hm
   refine gs 75 rfl (fun h1_8 => ?_) fun h1_8 => ?_
   ·
    exact gct rfl (gS (gR (gA rfl (gE (gRt (gLr ho0_1 hq0_2 (gr1 results162 rfl ⟨rfl, hm.below⟩)))))))
   refine gcf rfl (gSk (gS (gS (gJ hm (fun s1_2 => [(2, (pV b0_1)), (3, (pV b0_2)), (5, (pV b0_4)), (6, (pV b0_5)), (7, (nV i1_1)), (8, (pV b1_2)), (39, (sV b1_1 o1_1 x0_1.blocks.length c0_2)), (40, (nV ((x0_1.blocks.length : Int)))), (41, (nV i1_1)), (85, (.bool (s1_2)))]) (fun s1_2 => [blk b0_1 [(sV b0_3 o0_1 u.codes.length c0_1)] 30, blk b0_2 [(nV k_)] 3, blk b0_4 [(nV x0_1.params), (nV x0_1.regs), (sV b1_1 o1_1 x0_1.blocks.length c0_2)] 57, blk b0_5 [(.func (.func 228) #[] #[(pV b0_4)])] 68, blk b1_2 [v1_4, v1_5, (nV x1_1.jump), (nV x1_1.on), v1_6] 104]) (fun s1_2 => ?_) ?_))))
   ·
    refine gR (gF fo_104_4 rfl (gL hm 4 isAgg37 rfl (gY (yU rfl) (gC hm rfl call57 (slices_ContainsFunc_S_int_int_ok _ x1_1.next_ v1_6 (hm.now h1_7) (fun y0 => impl_codeOk_2 y0 x0_1) (.func (.func 230) #[] #[(pV b0_4)]) (fun w y0 r hB hq => ⟨230, [(pV b0_4)], rfl, call230, impl_codeOk_2_ok w y0 x0_1 (sV b1_1 o1_1 x0_1.blocks.length c0_2) (rep_later (hm.now h0_2) hB) b0_4 (hm.blk_later 2 rfl hB) r hq⟩)) fun r2_6 hx2_6 w hm => gM rfl (gs 80 rfl (fun h2_6 => ?_) fun h2_6 => ?_)))))
    ·
     exact gO rfl (gO rfl (gO rfl (gO rfl (gKt rfl (gE (gz hm [0, 1, 2, 3, 4] rfl))))))
    exact gF fo_104_1 rfl (gL hm 4 isAgg102 rfl (gY (yU rfl) (gC hm rfl call231 (slices_ContainsFunc_S_impl_Ins_impl_Ins_ok _ x1_1.ins v1_5 (hm.now h1_6) (fun y0 => impl_codeOk_3 y0 u k_) (.func (.func 232) #[] #[(pV b0_1), (pV b0_2)]) (fun w y0 z0_0 z0_1 r hB hq => ⟨232, [(pV b0_1), (pV b0_2)], rfl, call232, impl_codeOk_3_ok w y0 z0_0 z0_1 u (sV b0_3 o0_1 u.codes.length c0_1) (rep_later (hm.now h1) hB) b0_1 (hm.blk_later 0 rfl hB) k_ b0_2 (hm.blk_later 1 rfl hB) r hq⟩)) fun r2_7 hx2_7 w hm => gKf rfl (gE (gz hm [0, 1, 2, 3, 4] rfl)))))
   repeat clear hm
   intro s1_2 w hm
   refine gs 85 rfl (fun h1_9 => ?_) fun h1_9 => ?_
   ·
    exact gct rfl (gS (gR (gA rfl (gE (gRt (gLr ho0_1 hq0_2 (gr1 results162 rfl ⟨rfl, hm.below⟩)))))))
   refine gcf rfl (gSk (gS (gR (gY (yn (hm.blk_at 2 rfl) isAgg57 sizeOf57 rfl) (gM rfl (gCg rfl call141 (impl_PredsOf_ok _ x0_1 (sV b1_1 o1_1 x0_1.blocks.length c0_2) (hm.now h0_2) i1_1) ?_))))))
   rintro r1_4 hx1_6 v1_7 w ⟨_, rfl, hB⟩
   replace hm := hm.give hB; clear hB
   obtain ⟨p1_2, c1_3, rfl, hl1_2⟩ := ro_slice (hm.ow_rep 0 rfl)
   refine gY (yV st_37 rfl) (gA rfl (gE (gS (gR (gF fo_104_0 rfl (gL hm 5 isAgg101 rfl ?_))))))
   obtain ⟨p1_3, c1_4, rfl, hl1_3⟩ := ro_slice h1_5
   refine gY (yV st_101 rfl) (gM rfl (gE (gBk (gNf hm (fun i2_1 xs2_1 => [(2, (pV b0_1)), (3, (pV b0_2)), (5, (pV b0_4)), (6, (pV b0_5)), (7, (nV i1_1)), (9, (nV ((r1_4.length : Int)))), (39, (sV b1_1 o1_1 x0_1.blocks.length c0_2)), (40, (nV ((x0_1.blocks.length : Int)))), (41, (nV i1_1)), (91, (.slice p1_3 x1_1.phis.length c1_4)), (92, (nV ((x1_1.phis.length : Int)))), (93, (nV i2_1))]) (fun i2_1 xs2_1 => [blk b0_1 [(sV b0_3 o0_1 u.codes.length c0_1)] 30, blk b0_2 [(nV k_)] 3, blk b0_4 [(nV x0_1.params), (nV x0_1.regs), (sV b1_1 o1_1 x0_1.blocks.length c0_2)] 57, blk b0_5 [(.func (.func 228) #[] #[(pV b0_4)])] 68]) [1, 2, 3, 4] rfl ?_ ?_))))
   ·
    repeat clear hm
    intro r1_5 hq1_3 i2_1 xs2_1 w hm hi1_1 hi1_2 q1_1 ho1_5
    refine gS (gR (gB rfl (gE (gS (go _ 94 rfl (decide_eq_true (by omega)) (gct rfl (gSk (gS (gBk (gS (gR (gg fun x2_1 h2_7 hx2_9 => ?_))))))))))))
    obtain ⟨b2_1, o2_1, c2_2, he⟩ := idx_form' h1_5 hx2_9
    simp only [Value.slice.injEq, Option.some.injEq] at he; obtain ⟨rfl, _, rfl⟩ := he
    obtain ⟨v2_8, hc2_1, h2_8⟩ := rk_Phi_ h1_5 hx2_9
    refine gI st_101 h2_7 (idx_lt hx2_9) rfl (gY (yn (hc2_1.mono hm.lez) isAgg143 sizeOf143 rfl) (gAl hm zeroValue143 rfl fun b2_2 w hm => gSN hm 0 sizeOf143 (one_cons rfl (one_cons (rep_one h2_8) one_nil)) rfl fun w hm => gE (gS (gJ hm (fun s2_1 => [(2, (pV b0_1)), (3, (pV b0_2)), (5, (pV b0_4)), (6, (pV b0_5)), (7, (nV i1_1)), (9, (nV ((r1_4.length : Int)))), (39, (sV b1_1 o1_1 x0_1.blocks.length c0_2)), (40, (nV ((x0_1.blocks.length : Int)))), (41, (nV i1_1)), (91, (sV b2_1 o2_1 x1_1.phis.length c1_4)), (92, (nV ((x1_1.phis.length : Int)))), (93, (nV i2_1)), (118, (.bool (s2_1)))]) (fun s2_1 => [blk b0_1 [(sV b0_3 o0_1 u.codes.length c0_1)] 30, blk b0_2 [(nV k_)] 3, blk b0_4 [(nV x0_1.params), (nV x0_1.regs), (sV b1_1 o1_1 x0_1.blocks.length c0_2)] 57, blk b0_5 [(.func (.func 228) #[] #[(pV b0_4)])] 68]) (fun s2_1 => ?_) ?_))))
    ·
     refine gR (gM rfl (gB rfl (gM rfl (gsd 99 rfl (fun h3_1 => ?_) fun h3_1 => ?_))))
     ·
      exact gO rfl (gO rfl (gO rfl (gO rfl (gO rfl (gKt rfl (gM rfl (gO rfl (gO rfl (gO rfl (gO rfl (gO rfl (gKt rfl (gM rfl (gO rfl (gO rfl (gO rfl (gO rfl (gKt rfl (gE (gz hm [1, 2, 3, 4] rfl))))))))))))))))))))
     refine gL hm 4 isAgg68 rfl (gF fo_143_0 rfl (gL hm 0 isAgg3 rfl (gb fun r3_1 hx3_1 => gf rfl (fun a hf => e_callv hf rfl rfl rfl ⟨228, [(pV b0_4)], rfl, call228, impl_codeOk_1_ok _ x2_1.to x0_1 (sV b1_1 o1_1 x0_1.blocks.length c0_2) (rep_later (hm.now h0_2) (Below.refl _ _)) b0_4 (hm.blk_later 3 rfl (Below.refl _ _)) _ hx3_1⟩) ?_)))
     rintro v3_1 w ⟨rfl, hB⟩
     replace hm := hm.below' hB; clear hB
     refine gN rfl (gKf rfl (gM rfl (gsn 106 rfl (fun h3_2 => ?_) fun h3_2 => ?_)))
     ·
      exact gO rfl (gO rfl (gO rfl (gO rfl (gO rfl (gKt rfl (gM rfl (gO rfl (gO rfl (gO rfl (gO rfl (gKt rfl (gE (gz hm [1, 2, 3, 4] rfl)))))))))))))
     refine gF fo_143_1 rfl (gL hm 0 isAgg37 rfl ?_)
     obtain ⟨p3_1, c3_1, rfl, hl3_1⟩ := ro_slice h2_8
     refine gY (yV st_37 rfl) (gM rfl (gB rfl (gKf rfl (gM rfl (gsd 113 rfl (fun h3_3 => ?_) fun h3_3 => ?_)))))
     ·
      exact gO rfl (gO rfl (gO rfl (gO rfl (gKt rfl (gE (gz hm [1, 2, 3, 4] rfl))))))
     exact gF fo_143_1 rfl (gL hm 0 isAgg37 rfl (gY (yU rfl) (gC hm rfl call57 (slices_ContainsFunc_S_int_int_ok _ x2_1.args (.slice p3_1 x2_1.args.length c3_1) (hm.now h2_8) (fun y0 => impl_codeOk_4 y0 x0_1) (.func (.func 234) #[] #[(pV b0_5)]) (fun w y0 r hB hq => ⟨234, [(pV b0_5)], rfl, call234, impl_codeOk_4_ok w y0 x0_1 (sV b1_1 o1_1 x0_1.blocks.length c0_2) (rep_later (hm.now h0_2) hB) b0_4 (hm.blk_later 3 rfl hB) b0_5 (hm.blk_later 4 rfl hB) r hq⟩)) fun r3_2 hx3_2 w hm => gKf rfl (gE (gz hm [1, 2, 3, 4] rfl)))))
    repeat clear hm
    intro s2_1 w hm
    refine gs 118 rfl (fun h2_9 => ?_) fun h2_9 => ?_
    ·
     exact gct rfl (gS (gR (gA rfl (gE (gRt (gLr ho1_5 hq1_3 (gLr ho0_1 hq0_2 (gr1 results162 rfl ⟨rfl, hm.below⟩))))))))
    exact gcf rfl (gSk (gR (gP (by omega) (by omega) rfl (gM rfl (gE (gze hm [0, 1, 2, 3] rfl))))))
   repeat clear hm
   intro i1_2 xs1_2 w hm hi1_3 hi1_4
   exact gS (gR (gB rfl (gE (gS (go _ 94 rfl (decide_eq_false (by omega)) (gcf rfl (gXt (gHh (gR (gP (by omega) (by omega) rfl (gM rfl (gE (gze hm [0, 1, 2, 3] rfl)))))))))))))
  repeat clear hm
  intro i0_1 xs0_1 w hm hi0_3 hi0_4
  exact gS (gR (gB rfl (gE (gS (go _ 42 rfl (decide_eq_false (by omega)) (gcf rfl (gXt (gHh (gS (gR (gA rfl (gE (gRt (gr1 results162 rfl ⟨rfl, hm.below⟩))))))))))))))

theorem impl_codeCount_ok (w0 : World) (c_ : Code_) (v1 : Value) (h1 : GT.rep (hp w0) [v1] c_.blocks) :
    ConM Tryz.prog 128 [(.agg #[(nV c_.params), (nV c_.regs), v1])] w0 (impl_codeCount c_) fun r v w' => v = (nV r) ∧ Below w0.heap.size w0 w' := by
  unfold impl_codeCount
  refine gcon func128 rfl fun r => ?_
  have hm := Mem.start w0
  refine gS (gR (gBx hm rfl fun b0_1 w hm => gA rfl (gE (gS (gR (gA rfl (gE (gS (gS (gR (gF fo_57_2 rfl (gL hm 0 isAgg55 rfl ?_))))))))))))
  obtain ⟨p0_1, c0_1, rfl, hl0_1⟩ := ro_slice h1
  refine gY (yV st_55 rfl) (gM rfl (gE (gBk (gNf hm (fun i1_1 xs1_1 => [(3, (nV xs1_1)), (7, (.slice p0_1 c_.blocks.length c0_1)), (8, (nV ((c_.blocks.length : Int)))), (9, (nV i1_1))]) (fun i1_1 xs1_1 => []) [] rfl ?_ ?_))))
  ·
   repeat clear hm
   intro _ _ i1_1 xs1_1 w hm hi0_1 hi0_2 q0_1 _
   refine gS (gR (gB rfl (gE (gS (go _ 10 rfl (decide_eq_true (by omega)) (gct rfl (gSk (gS (gBk (gS (gR (gg fun x1_1 h1_1 hx1_2 => ?_))))))))))))
   obtain ⟨b1_1, o1_1, c1_1, he⟩ := idx_form' h1 hx1_2
   simp only [Value.slice.injEq, Option.some.injEq] at he; obtain ⟨rfl, _, rfl⟩ := he
   obtain ⟨v1_1, v1_2, v1_3, hc1_1, h1_2, h1_3, h1_4⟩ := rk_Block_ h1 hx1_2
   refine gI st_55 h1_1 (idx_lt hx1_2) rfl (gY (yn (hc1_1.mono hm.lez) isAgg104 sizeOf104 rfl) (gAl hm zeroValue104 rfl fun b1_2 w hm => gSN hm 0 sizeOf104 (one_cons (rep_one h1_2) (one_cons (rep_one h1_3) (one_cons rfl (one_cons rfl (one_cons (rep_one h1_4) one_nil))))) rfl fun w hm => gE (gR (gM rfl (gF fo_104_0 rfl (gL hm 0 isAgg101 rfl ?_))))))
   obtain ⟨p1_1, c1_2, rfl, hl1_1⟩ := ro_slice h1_2
   refine gY (yV st_101 rfl) (gF fo_104_1 rfl (gL hm 0 isAgg102 rfl ?_))
   obtain ⟨p1_2, c1_3, rfl, hl1_2⟩ := ro_slice h1_3
   exact gY (yV st_102 rfl) (gP (by omega) (by omega) rfl (gB rfl (gA rfl (gE (gR (gP (by omega) (by omega) rfl (gM rfl (gE (gze hm [] rfl)))))))))
  repeat clear hm
  intro i0_1 xs0_1 w hm hi0_3 hi0_4
  exact gS (gR (gB rfl (gE (gS (go _ 10 rfl (decide_eq_false (by omega)) (gcf rfl (gXt (gHh (gS (gR (gM rfl (gA rfl (gE (gRt (gr1 results128 rfl ⟨rfl, hm.below⟩)))))))))))))))

theorem impl_UnitValid_ok (w0 : World) (u : Unit_) (v1 : Value) (h1 : GT.rep (hp w0) [v1] u.codes) :
    ConM Tryz.prog 116 [(.agg #[v1])] w0 (impl_UnitValid u) fun r v w' => v = (.bool (r)) ∧ Below w0.heap.size w0 w' := by
  unfold impl_UnitValid
  refine gcon func116 rfl fun r => ?_
  have hm := Mem.start w0
  refine gS (gR (gBx hm rfl fun b0_1 w hm => gA rfl (gE (gS (gS (gR (gF fo_30_0 rfl (gL hm 0 isAgg28 rfl ?_))))))))
  obtain ⟨p0_1, c0_1, rfl, hl0_1⟩ := ro_slice h1
  refine gY (yV st_28 rfl) (gC hm rfl call63 (impl_within_ok _ (u.codes.length : Int) 1 4) fun r0_1 hx0_1 w hm => gN rfl (gE (gsn 10 rfl (fun h0_1 => ?_) fun h0_1 => ?_)))
  ·
   exact gct rfl (gS (gR (gA rfl (gE (gRt (gr1 results116 rfl ⟨rfl, hm.below⟩))))))
  refine gcf rfl (gSk (gS (gR (gA rfl (gE (gS (gS (gR (gF fo_30_0 rfl (gL hm 0 isAgg28 rfl (gY (yV st_28 rfl) (gM rfl (gE (gBk (gNf hm (fun i1_1 xs1_1 => [(1, (pV b0_1)), (3, (nV xs1_1)), (12, (.slice p0_1 u.codes.length c0_1)), (13, (nV ((u.codes.length : Int)))), (14, (nV i1_1))]) (fun i1_1 xs1_1 => [blk b0_1 [(.slice p0_1 u.codes.length c0_1)] 30]) [0] rfl ?_ ?_)))))))))))))))
  ·
   repeat clear hm
   intro r0_2 hq0_1 i1_1 xs1_1 w hm hi0_1 hi0_2 q0_1 ho0_2
   refine gS (gR (gB rfl (gE (gS (go _ 15 rfl (decide_eq_true (by omega)) (gct rfl (gSk (gS (gBk (gS (gR (gM rfl (gg fun x1_1 h1_1 hx1_2 => ?_)))))))))))))
   obtain ⟨b1_1, o1_1, c1_1, he⟩ := idx_form' h1 hx1_2
   simp only [Value.slice.injEq, Option.some.injEq] at he; obtain ⟨rfl, _, rfl⟩ := he
   obtain ⟨v1_1, hc1_1, h1_2⟩ := rk_Code_ h1 hx1_2
   refine gI st_28 h1_1 (idx_lt hx1_2) rfl (gY (yn (hc1_1.mono hm.lez) isAgg57 sizeOf57 rfl) (gAl hm zeroValue57 rfl fun b1_2 w hm => gA rfl (gSN hm 0 sizeOf57 (one_cons rfl (one_cons rfl (one_cons (rep_one h1_2) one_nil))) rfl fun w hm => gE (gS (gS (gR (gY (yn (hm.blk_at 1 rfl) isAgg30 sizeOf30 rfl) (gM rfl (gC hm rfl call162 (impl_codeOk_ok _ u (sV b1_1 o1_1 u.codes.length c0_1) (hm.now h1) i1_1) fun r1_1 hx1_3 w hm => gN rfl (gE (gsn 22 rfl (fun h1_3 => ?_) fun h1_3 => ?_)))))))))))
   ·
    exact gct rfl (gS (gR (gA rfl (gE (gRt (gLr ho0_2 hq0_1 (gr1 results116 rfl ⟨rfl, hm.below⟩)))))))
   exact gcf rfl (gSk (gR (gM rfl (gY (yn (hm.blk_at 0 rfl) isAgg57 sizeOf57 rfl) (gC hm rfl call128 (impl_codeCount_ok _ x1_1 v1_1 (hm.now h1_2)) fun r1_2 hx1_4 w hm => gB rfl (gA rfl (gE (gR (gP (by omega) (by omega) rfl (gM rfl (gE (gze hm [1] rfl))))))))))))
  repeat clear hm
  intro i0_1 xs0_1 w hm hi0_3 hi0_4
  exact gS (gR (gB rfl (gE (gS (go _ 15 rfl (decide_eq_false (by omega)) (gcf rfl (gXt (gHh (gS (gR (gM rfl (gB rfl (gA rfl (gE (gRt (gr1 results116 rfl ⟨rfl, hm.below⟩))))))))))))))))

theorem impl_mapped_impl_Code_impl_Code_ok (w0 : World) (list : List Code_) (v1 : Value) (h1 : GT.rep (hp w0) [v1] list) (f : Code_ → Option Code_) (fv1 : Value) (hfn1 : ∀ (w : World) (y0 : Code_) (z1 : Value) (_ : GT.rep (hp w) [z1] y0.blocks) (r : Code_), Below w0.heap.size w0 w → f y0 = some r → FnOk Tryz.prog fv1 [(.agg #[(nV y0.params), (nV y0.regs), z1])] w (fun v w' => ∃ (x1 : Value), v = (.agg #[(nV r.params), (nV r.regs), x1]) ∧ Mem w (hp w) w' [ow [x1] r.blocks])) :
    ConM Tryz.prog 70 [v1, fv1] w0 (impl_mapped_impl_Code_impl_Code list f) fun r v w' => ∃ (x1 : Value), v = x1 ∧ Mem w0 (hp w0) w' [ow [x1] r] := by
  unfold impl_mapped_impl_Code_impl_Code
  refine gcon func70 rfl fun r => ?_
  have hm := Mem.start w0
  refine gS (gR (gA rfl (gE (gS (gR (gA rfl (gE (gS (gS (gR (gM rfl ?_)))))))))))
  obtain ⟨p0_1, c0_1, rfl, hl0_1⟩ := ro_slice h1
  refine gY (yV st_28 rfl) (gM rfl (gE (gBk ?_)))
  replace hm := hm.nilow (α := Code_)
  refine gNg (fun i1_1 xs1_1 a w => ∃ (v1_1 : Value), St 22 [(1, fv1), (5, v1_1), (8, (.slice p0_1 list.length c0_1)), (9, (nV ((list.length : Int)))), (10, (nV i1_1))] w0 (hp w0) [ow [v1_1] xs1_1] a w) (fun a hf => ⟨(.slice none 0 0), hf.sb rfl, hm.pk [0] rfl rfl⟩) ?_ ?_
  ·
   repeat clear hm
   rintro _ _ i1_1 xs1_1 a w ⟨v1_1, hf, hm⟩ hi0_1 hi0_2 q0_1 _
   refine gv hf (gS (gR (gB rfl (gE (gS (go _ 11 rfl (decide_eq_true (by omega)) (gct rfl (gSk (gS (gBk (gS (gR (gg fun x1_1 h1_1 hx1_2 => ?_)))))))))))))
   obtain ⟨b1_1, o1_1, c1_1, he⟩ := idx_form' h1 hx1_2
   simp only [Value.slice.injEq, Option.some.injEq] at he; obtain ⟨rfl, _, rfl⟩ := he
   obtain ⟨v1_2, hc1_1, h1_2⟩ := rk_Code_ h1 hx1_2
   refine gI st_28 h1_1 (idx_lt hx1_2) rfl (gY (yn (hc1_1.mono hm.lez) isAgg57 sizeOf57 rfl) (gAl hm zeroValue57 rfl fun b1_2 w hm => gSN hm 0 sizeOf57 (one_cons rfl (one_cons rfl (one_cons (rep_one h1_2) one_nil))) rfl fun w hm => gE (gR (gM rfl (gM rfl (gY (yn (hm.blk_at 0 rfl) isAgg57 sizeOf57 rfl) (gb fun r1_1 hx1_3 => gf rfl (fun a hf => e_callv hf rfl rfl rfl (hfn1 _ x1_1 v1_2 (hm.now h1_2) _ hm.below hx1_3)) ?_)))))))
   rintro v1_3 w ⟨v1_4, rfl, hB⟩
   replace hm := hm.give hB; clear hB
   refine gf rfl (fun a hf => e_build (vs := #[(0, (.agg #[(nV r1_1.params), (nV r1_1.regs), v1_4]))]) (cs := [(nV r1_1.params), (nV r1_1.regs), v1_4]) et_28 hf hm rfl rfl (by kernel_rfl) rfl rfl) ?_
   rintro _ w ⟨b1_3, rfl, hm⟩
   replace hm := hm.els_nil (α := Code_)
   replace hm : Mem w0 (hp w0) _ [els [] ([] : List Code_), blk b1_3 [(nV r1_1.params), (nV r1_1.regs), v1_4] 57, ow [(nV r1_1.params), (nV r1_1.regs), v1_4] (r1_1 : Code_), blk b1_2 [(nV x1_1.params), (nV x1_1.regs), v1_2] 57, ow [v1_1] xs1_1] := mk_Code_ r1_1.params r1_1.regs hm 2 rfl
   replace hm := (hm.els_cons 0 2 (by decide) rfl rfl).pk (L' := [els [(nV r1_1.params), (nV r1_1.regs), v1_4] ([r1_1] : List Code_), blk b1_3 [(nV r1_1.params), (nV r1_1.regs), v1_4] 57, blk b1_2 [(nV x1_1.params), (nV x1_1.regs), v1_2] 57, ow [v1_1] xs1_1]) [0, 1, 3, 4] rfl rfl
   replace hm := (hm.lit_els 1 0 (by decide) rfl rfl rfl rfl).pk (L' := [ow [(sV b1_3 0 1 1)] ([r1_1] : List Code_), blk b1_2 [(nV x1_1.params), (nV x1_1.regs), v1_2] 57, ow [v1_1] xs1_1]) [1, 2, 3] rfl rfl
   refine gb fun ys1_1 hx1_4 => ?_
   obtain ⟨h1_3, h1_3e⟩ := appM_some.1 hx1_4
   replace hm := (hm.both 2 0 (by decide) rfl rfl).pk (L' := [blk b1_2 [(nV x1_1.params), (nV x1_1.regs), v1_2] 57, both (ow [v1_1] xs1_1) (ow [(sV b1_3 0 1 1)] ([r1_1] : List Code_))]) [1, 2] rfl rfl
   refine gf rfl (fun a hf => e_appendD (xs := xs1_1) (ys := ([r1_1] : List Code_)) 1 et_28 hf hm rfl rfl rfl rfl h1_3) ?_
   rintro v1_5 w hm
   rw [h1_3e] at hm
   exact gA rfl (gE (gR (gP (by omega) (by omega) rfl (gM rfl (gE (gZe fun a hf => ⟨v1_5, hf.sb rfl, hm.pk [1] rfl rfl⟩))))))
  repeat clear hm
  rintro i0_1 xs0_1 a w ⟨v0_1, hf, hm⟩ hi0_3 hi0_4
  exact gv hf (gS (gR (gB rfl (gE (gS (go _ 11 rfl (decide_eq_false (by omega)) (gcf rfl (gXt (gHh (gS (gR (gM rfl (gA rfl (gE (gRt (gr1 results70 rfl ⟨v0_1, rfl, hm.pk [0] rfl rfl⟩))))))))))))))))

theorem impl_perCode_ok (w0 : World) (u : Unit_) (v1 : Value) (h1 : GT.rep (hp w0) [v1] u.codes) (f : Code_ → Option Code_) (fv1 : Value) (hfn1 : ∀ (w : World) (y0 : Code_) (z1 : Value) (_ : GT.rep (hp w) [z1] y0.blocks) (r : Code_), Below w0.heap.size w0 w → f y0 = some r → FnOk Tryz.prog fv1 [(.agg #[(nV y0.params), (nV y0.regs), z1])] w (fun v w' => ∃ (x1 : Value), v = (.agg #[(nV r.params), (nV r.regs), x1]) ∧ Mem w (hp w) w' [ow [x1] r.blocks])) :
    ConM Tryz.prog 76 [(.agg #[v1]), fv1] w0 (impl_perCode u f) fun r v w' => ∃ (x1 : Value), v = (.tuple #[(.agg #[x1]), (.bool (r.2))]) ∧ Mem w0 (hp w0) w' [ow [x1] r.1.codes] := by
  unfold impl_perCode
  refine gcon func76 rfl fun r => ?_
  have hm := Mem.start w0
  refine gS (gR (gBx hm rfl fun b0_1 w hm => gAl hm zeroValue30 rfl fun b0_2 w hm => gA rfl (gE (gS (gS (gR (gY (yn (hm.blk_at 1 rfl) isAgg30 sizeOf30 rfl) (gC hm rfl call116 (impl_UnitValid_ok _ u v1 (hm.now h1)) fun r0_1 hx0_1 w hm => gN rfl (gE (gsn 8 rfl (fun h0_1 => ?_) fun h0_1 => ?_))))))))))
  ·
   refine gct rfl (gS (gR (gY (yG rfl (y_build (vs := []) (cs := #[(.slice none 0 0)]) rfl rfl (by kernel_rfl))) (gSN hm 0 sizeOf30 (one_cons rfl one_nil) rfl fun w hm => gA rfl (gE (gRt ?_))))))
   replace hm := hm.nilow (α := Code_)
   exact grct 1 results76 hm rfl isAgg30 sizeOf30 ⟨(.slice none 0 0), rfl, hm.pk [0] rfl rfl⟩
  refine gcf rfl (gSk (gS (gR (gF fo_30_0 rfl (gL hm 1 isAgg28 rfl (gM rfl (gCg rfl call70 (impl_mapped_impl_Code_impl_Code_ok _ u.codes v1 (hm.now h1) f fv1 (fun w y0 z0_0 z0_1 r hB hq => hfn1 w y0 z0_0 z0_1 r (hm.below.trans (hB.mono hm.below.size)) hq)) ?_)))))))
  rintro r0_2 hx0_2 v0_2 w ⟨_, rfl, hB⟩
  replace hm := hm.give hB; clear hB
  obtain ⟨p0_1, c0_1, rfl, hl0_1⟩ := ro_slice (hm.ow_rep 0 rfl)
  exact gY (yG rfl (y_build (vs := [(0, (.slice p0_1 r0_2.length c0_1))]) (cs := #[(.slice p0_1 r0_2.length c0_1)]) rfl rfl (by kernel_rfl))) (gSN hm 1 sizeOf30 (one_cons rfl one_nil) rfl fun w hm => gA rfl (gE (gRt (grct 1 results76 hm rfl isAgg30 sizeOf30 ⟨(.slice p0_1 r0_2.length c0_1), rfl, hm.pk [0] rfl rfl⟩))))

theorem impl_mapped_impl_Block_impl_Block_ok (w0 : World) (list : List Block_) (v1 : Value) (h1 : GT.rep (hp w0) [v1] list) (f : Block_ → Option Block_) (fv1 : Value) (hfn1 : ∀ (w : World) (y0 : Block_) (z1 : Value) (_ : GT.rep (hp w) [z1] y0.phis) (z2 : Value) (_ : GT.rep (hp w) [z2] y0.ins) (z3 : Value) (_ : GT.rep (hp w) [z3] y0.next_) (r : Block_), Below w0.heap.size w0 w → f y0 = some r → FnOk Tryz.prog fv1 [(.agg #[z1, z2, (nV y0.jump), (nV y0.on), z3])] w (fun v w' => ∃ (x1 : Value) (x2 : Value) (x3 : Value), v = (.agg #[x1, x2, (nV r.jump), (nV r.on), x3]) ∧ Mem w (hp w) w' [ow [x1] r.phis, ow [x2] r.ins, ow [x3] r.next_])) :
    ConM Tryz.prog 158 [v1, fv1] w0 (impl_mapped_impl_Block_impl_Block list f) fun r v w' => ∃ (x1 : Value), v = x1 ∧ Mem w0 (hp w0) w' [ow [x1] r] := by
  unfold impl_mapped_impl_Block_impl_Block
  refine gcon func158 rfl fun r => ?_
  have hm := Mem.start w0
  refine gS (gR (gA rfl (gE (gS (gR (gA rfl (gE (gS (gS (gR (gM rfl ?_)))))))))))
  obtain ⟨p0_1, c0_1, rfl, hl0_1⟩ := ro_slice h1
  refine gY (yV st_55 rfl) (gM rfl (gE (gBk ?_)))
  replace hm := hm.nilow (α := Block_)
  refine gNg (fun i1_1 xs1_1 a w => ∃ (v1_1 : Value), St 22 [(1, fv1), (5, v1_1), (8, (.slice p0_1 list.length c0_1)), (9, (nV ((list.length : Int)))), (10, (nV i1_1))] w0 (hp w0) [ow [v1_1] xs1_1] a w) (fun a hf => ⟨(.slice none 0 0), hf.sb rfl, hm.pk [0] rfl rfl⟩) ?_ ?_
  ·
   repeat clear hm
   rintro _ _ i1_1 xs1_1 a w ⟨v1_1, hf, hm⟩ hi0_1 hi0_2 q0_1 _
   refine gv hf (gS (gR (gB rfl (gE (gS (go _ 11 rfl (decide_eq_true (by omega)) (gct rfl (gSk (gS (gBk (gS (gR (gg fun x1_1 h1_1 hx1_2 => ?_)))))))))))))
   obtain ⟨b1_1, o1_1, c1_1, he⟩ := idx_form' h1 hx1_2
   simp only [Value.slice.injEq, Option.some.injEq] at he; obtain ⟨rfl, _, rfl⟩ := he
   obtain ⟨v1_2, v1_3, v1_4, hc1_1, h1_2, h1_3, h1_4⟩ := rk_Block_ h1 hx1_2
   refine gI st_55 h1_1 (idx_lt hx1_2) rfl (gY (yn (hc1_1.mono hm.lez) isAgg104 sizeOf104 rfl) (gAl hm zeroValue104 rfl fun b1_2 w hm => gSN hm 0 sizeOf104 (one_cons (rep_one h1_2) (one_cons (rep_one h1_3) (one_cons rfl (one_cons rfl (one_cons (rep_one h1_4) one_nil))))) rfl fun w hm => gE (gR (gM rfl (gM rfl (gY (yn (hm.blk_at 0 rfl) isAgg104 sizeOf104 rfl) (gb fun r1_1 hx1_3 => gf rfl (fun a hf => e_callv hf rfl rfl rfl (hfn1 _ x1_1 v1_2 (hm.now h1_2) v1_3 (hm.now h1_3) v1_4 (hm.now h1_4) _ hm.below hx1_3)) ?_)))))))
   rintro v1_5 w ⟨v1_6, v1_7, v1_8, rfl, hB⟩
   replace hm := hm.give hB; clear hB
   refine gf rfl (fun a hf => e_build (vs := #[(0, (.agg #[v1_6, v1_7, (nV r1_1.jump), (nV r1_1.on), v1_8]))]) (cs := [v1_6, v1_7, (nV r1_1.jump), (nV r1_1.on), v1_8]) et_55 hf hm rfl rfl (by kernel_rfl) rfl rfl) ?_
   rintro _ w ⟨b1_3, rfl, hm⟩
   replace hm := hm.els_nil (α := Block_)
   replace hm := (mk_Block_ r1_1.jump r1_1.on hm 2 3 4 rfl).pk (L' := [els [] ([] : List Block_), blk b1_3 [v1_6, v1_7, (nV r1_1.jump), (nV r1_1.on), v1_8] 104, ow [v1_6, v1_7, (nV r1_1.jump), (nV r1_1.on), v1_8] (r1_1 : Block_), blk b1_2 [v1_2, v1_3, (nV x1_1.jump), (nV x1_1.on), v1_4] 104, ow [v1_1] xs1_1]) [0, 1, 2, 5, 6] rfl rfl
   replace hm := (hm.els_cons 0 2 (by decide) rfl rfl).pk (L' := [els [v1_6, v1_7, (nV r1_1.jump), (nV r1_1.on), v1_8] ([r1_1] : List Block_), blk b1_3 [v1_6, v1_7, (nV r1_1.jump), (nV r1_1.on), v1_8] 104, blk b1_2 [v1_2, v1_3, (nV x1_1.jump), (nV x1_1.on), v1_4] 104, ow [v1_1] xs1_1]) [0, 1, 3, 4] rfl rfl
   replace hm := (hm.lit_els 1 0 (by decide) rfl rfl rfl rfl).pk (L' := [ow [(sV b1_3 0 1 1)] ([r1_1] : List Block_), blk b1_2 [v1_2, v1_3, (nV x1_1.jump), (nV x1_1.on), v1_4] 104, ow [v1_1] xs1_1]) [1, 2, 3] rfl rfl
   refine gb fun ys1_1 hx1_4 => ?_
   obtain ⟨h1_5, h1_5e⟩ := appM_some.1 hx1_4
   replace hm := (hm.both 2 0 (by decide) rfl rfl).pk (L' := [blk b1_2 [v1_2, v1_3, (nV x1_1.jump), (nV x1_1.on), v1_4] 104, both (ow [v1_1] xs1_1) (ow [(sV b1_3 0 1 1)] ([r1_1] : List Block_))]) [1, 2] rfl rfl
   refine gf rfl (fun a hf => e_appendD (xs := xs1_1) (ys := ([r1_1] : List Block_)) 1 et_55 hf hm rfl rfl rfl rfl h1_5) ?_
   rintro v1_9 w hm
   rw [h1_5e] at hm
   exact gA rfl (gE (gR (gP (by omega) (by omega) rfl (gM rfl (gE (gZe fun a hf => ⟨v1_9, hf.sb rfl, hm.pk [1] rfl rfl⟩))))))
  repeat clear hm
  rintro i0_1 xs0_1 a w ⟨v0_1, hf, hm⟩ hi0_3 hi0_4
  exact gv hf (gS (gR (gB rfl (gE (gS (go _ 11 rfl (decide_eq_false (by omega)) (gcf rfl (gXt (gHh (gS (gR (gM rfl (gA rfl (gE (gRt (gr1 results158 rfl ⟨v0_1, rfl, hm.pk [0] rfl rfl⟩))))))))))))))))

theorem impl_mapped_impl_Phi_impl_Phi_ok (w0 : World) (list : List Phi_) (v1 : Value) (h1 : GT.rep (hp w0) [v1] list) (f : Phi_ → Option Phi_) (fv1 : Value) (hfn1 : ∀ (w : World) (y0 : Phi_) (z1 : Value) (_ : GT.rep (hp w) [z1] y0.args) (r : Phi_), Below w0.heap.size w0 w → f y0 = some r → FnOk Tryz.prog fv1 [(.agg #[(nV y0.to), z1])] w (fun v w' => ∃ (x1 : Value), v = (.agg #[(nV r.to), x1]) ∧ Mem w (hp w) w' [ow [x1] r.args])) :
    ConM Tryz.prog 224 [v1, fv1] w0 (impl_mapped_impl_Phi_impl_Phi list f) fun r v w' => ∃ (x1 : Value), v = x1 ∧ Mem w0 (hp w0) w' [ow [x1] r] := by
  unfold impl_mapped_impl_Phi_impl_Phi
  refine gcon func224 rfl fun r => ?_
  have hm := Mem.start w0
  refine gS (gR (gA rfl (gE (gS (gR (gA rfl (gE (gS (gS (gR (gM rfl ?_)))))))))))
  obtain ⟨p0_1, c0_1, rfl, hl0_1⟩ := ro_slice h1
  refine gY (yV st_101 rfl) (gM rfl (gE (gBk ?_)))
  replace hm := hm.nilow (α := Phi_)
  refine gNg (fun i1_1 xs1_1 a w => ∃ (v1_1 : Value), St 22 [(1, fv1), (5, v1_1), (8, (.slice p0_1 list.length c0_1)), (9, (nV ((list.length : Int)))), (10, (nV i1_1))] w0 (hp w0) [ow [v1_1] xs1_1] a w) (fun a hf => ⟨(.slice none 0 0), hf.sb rfl, hm.pk [0] rfl rfl⟩) ?_ ?_
  ·
   repeat clear hm
   rintro _ _ i1_1 xs1_1 a w ⟨v1_1, hf, hm⟩ hi0_1 hi0_2 q0_1 _
   refine gv hf (gS (gR (gB rfl (gE (gS (go _ 11 rfl (decide_eq_true (by omega)) (gct rfl (gSk (gS (gBk (gS (gR (gg fun x1_1 h1_1 hx1_2 => ?_)))))))))))))
   obtain ⟨b1_1, o1_1, c1_1, he⟩ := idx_form' h1 hx1_2
   simp only [Value.slice.injEq, Option.some.injEq] at he; obtain ⟨rfl, _, rfl⟩ := he
   obtain ⟨v1_2, hc1_1, h1_2⟩ := rk_Phi_ h1 hx1_2
   refine gI st_101 h1_1 (idx_lt hx1_2) rfl (gY (yn (hc1_1.mono hm.lez) isAgg143 sizeOf143 rfl) (gAl hm zeroValue143 rfl fun b1_2 w hm => gSN hm 0 sizeOf143 (one_cons rfl (one_cons (rep_one h1_2) one_nil)) rfl fun w hm => gE (gR (gM rfl (gM rfl (gY (yn (hm.blk_at 0 rfl) isAgg143 sizeOf143 rfl) (gb fun r1_1 hx1_3 => gf rfl (fun a hf => e_callv hf rfl rfl rfl (hfn1 _ x1_1 v1_2 (hm.now h1_2) _ hm.below hx1_3)) ?_)))))))
   rintro v1_3 w ⟨v1_4, rfl, hB⟩
   replace hm := hm.give hB; clear hB
   refine gf rfl (fun a hf => e_build (vs := #[(0, (.agg #[(nV r1_1.to), v1_4]))]) (cs := [(nV r1_1.to), v1_4]) et_101 hf hm rfl rfl (by kernel_rfl) rfl rfl) ?_
   rintro _ w ⟨b1_3, rfl, hm⟩
   replace hm := hm.els_nil (α := Phi_)
   replace hm : Mem w0 (hp w0) _ [els [] ([] : List Phi_), blk b1_3 [(nV r1_1.to), v1_4] 143, ow [(nV r1_1.to), v1_4] (r1_1 : Phi_), blk b1_2 [(nV x1_1.to), v1_2] 143, ow [v1_1] xs1_1] := mk_Phi_ r1_1.to hm 2 rfl
   replace hm := (hm.els_cons 0 2 (by decide) rfl rfl).pk (L' := [els [(nV r1_1.to), v1_4] ([r1_1] : List Phi_), blk b1_3 [(nV r1_1.to), v1_4] 143, blk b1_2 [(nV x1_1.to), v1_2] 143, ow [v1_1] xs1_1]) [0, 1, 3, 4] rfl rfl
   replace hm := (hm.lit_els 1 0 (by decide) rfl rfl rfl rfl).pk (L' := [ow [(sV b1_3 0 1 1)] ([r1_1] : List Phi_), blk b1_2 [(nV x1_1.to), v1_2] 143, ow [v1_1] xs1_1]) [1, 2, 3] rfl rfl
   refine gb fun ys1_1 hx1_4 => ?_
   obtain ⟨h1_3, h1_3e⟩ := appM_some.1 hx1_4
   replace hm := (hm.both 2 0 (by decide) rfl rfl).pk (L' := [blk b1_2 [(nV x1_1.to), v1_2] 143, both (ow [v1_1] xs1_1) (ow [(sV b1_3 0 1 1)] ([r1_1] : List Phi_))]) [1, 2] rfl rfl
   refine gf rfl (fun a hf => e_appendD (xs := xs1_1) (ys := ([r1_1] : List Phi_)) 1 et_101 hf hm rfl rfl rfl rfl h1_3) ?_
   rintro v1_5 w hm
   rw [h1_3e] at hm
   exact gA rfl (gE (gR (gP (by omega) (by omega) rfl (gM rfl (gE (gZe fun a hf => ⟨v1_5, hf.sb rfl, hm.pk [1] rfl rfl⟩))))))
  repeat clear hm
  rintro i0_1 xs0_1 a w ⟨v0_1, hf, hm⟩ hi0_3 hi0_4
  exact gv hf (gS (gR (gB rfl (gE (gS (go _ 11 rfl (decide_eq_false (by omega)) (gcf rfl (gXt (gHh (gS (gR (gM rfl (gA rfl (gE (gRt (gr1 results224 rfl ⟨v0_1, rfl, hm.pk [0] rfl rfl⟩))))))))))))))))

theorem slices_Clone_S_int_int_ok (w0 : World) (s_ : List Int) (v1 : Value) (h1 : GT.rep (hp w0) [v1] s_) :
    ConM Tryz.prog 107 [v1] w0 (slices_Clone_S_int_int s_) fun r v w' => ∃ (x1 : Value), v = x1 ∧ Mem w0 (hp w0) w' [ow [x1] r] := by
  unfold slices_Clone_S_int_int
  refine gcon func107 rfl fun r => ?_
  have hm := Mem.start w0
  refine gS (gR (gA rfl (gE (gS (gS (gR (gM rfl ?_)))))))
  rcases nil_or h1 with ⟨he, h0_1⟩ | ⟨p0_1, c0_1, he⟩
  ·
   subst he; subst h0_1
   refine gcg (m' := some ([] : List Int)) (by simp [appM]) (gY (yG rfl (y_eqnil_t st_37.und rfl rfl rfl)) (gE (gct rfl (gS (gR (gA rfl (gE (gRt ?_))))))))
   replace hm := hm.nilow (α := Int)
   exact gr1 results107 rfl ⟨(.slice none 0 0), rfl, hm.pk [0] rfl rfl⟩
  subst he
  refine gY (yG rfl (y_eqnil_f st_37.und rfl rfl rfl)) (gE (gcf rfl (gSk (gS (gR (gf rfl (fun a hf => e_build0 (α := Int) et_37 hm rfl) ?_))))))
  rintro v0_1 w hm
  refine gM rfl (gb fun ys0_1 hx0_1 => ?_)
  obtain ⟨h0_2, h0_2e⟩ := appM_some.1 hx0_1
  refine gf rfl (fun a hf => e_append 0 et_37 hf hm rfl (hm.now h1) rfl rfl rfl h0_2) ?_
  rintro v0_2 w hm
  rw [h0_2e] at hm
  exact gA rfl (gE (gRt (gr1 results107 rfl ⟨v0_2, rfl, hm.pk [0] rfl rfl⟩)))

theorem impl_clonePhi_ok (w0 : World) (f : Phi_) (v1 : Value) (h1 : GT.rep (hp w0) [v1] f.args) :
    ConM Tryz.prog 225 [(.agg #[(nV f.to), v1])] w0 (impl_clonePhi f) fun r v w' => ∃ (x1 : Value), v = (.agg #[(nV r.to), x1]) ∧ Mem w0 (hp w0) w' [ow [x1] r.args] := by
  unfold impl_clonePhi
  refine gcon func225 rfl fun r => ?_
  have hm := Mem.start w0
  refine gS (gR (gBx hm rfl fun b0_1 w hm => gAl hm zeroValue143 rfl fun b0_2 w hm => gE (gS (gW (.p 0 (.p 2 (.q 1 (.e 3 (.e 4 (.p 5 (.e 6 .fin .nil)) .nil) .nil)))) [3, 4] [0, 2, 5] hm [0, 1] [blk b0_2 [(nV 0), (.slice none 0 0)] 143, blk b0_1 [(nV f.to), v1] 143] rfl mxo (by kernel_rfl) (fun _ _ _ h => h.2) fun w hm hS => tP rfl (fun w => yF fo_143_0 rfl) (tP rfl (fun w => yF fo_143_1 rfl) (tQ rfl hS (fun w hm => yL hm 1 isAgg3 rfl) (tO (tY rfl (yL hm 1 isAgg37 rfl) (tAs hS (tO (gb fun r0_1 hx0_1 => tf rfl rfl (fun a hf => e_call hf rfl call107 rfl (slices_Clone_S_int_int_ok _ f.args v1 (hm.now h1) _ hx0_1)) ?_)))))))))))
  rintro v0_1 w ⟨_, rfl, hB⟩
  replace hm := hm.give hB; clear hB
  refine tAk hm [1, 2] rfl fun hS => ?_
  obtain ⟨p0_1, c0_1, rfl, hl0_1⟩ := ro_slice (hm.ow_rep 0 rfl)
  refine tP rfl (fun w => yG rfl (y_build (vs := [(0, (nV f.to)), (1, (.slice p0_1 r0_1.length c0_1))]) (cs := #[(nV f.to), (.slice p0_1 r0_1.length c0_1)]) rfl rfl (by kernel_rfl))) (tO (tf0 rfl rfl (fun a hf => e_storeN 1 hf hm rfl sizeOf143 rfl rfl rfl (one_cons rfl (one_cons rfl one_nil)) rfl rfl) ?_))
  rintro _ w hm
  exact tAn rfl (tE (gRt (grc 1 results225 hm rfl isAgg143 sizeOf143 ⟨(.slice p0_1 r0_1.length c0_1), rfl, hm.pk [0] rfl rfl⟩)))

theorem impl_mapped_impl_Ins_impl_Ins_ok (w0 : World) (list : List Ins_) (v1 : Value) (h1 : GT.rep (hp w0) [v1] list) (f : Ins_ → Option Ins_) (fv1 : Value) (hfn1 : ∀ (w : World) (y0 : Ins_) (z1 : Value) (_ : GT.rep (hp w) [z1] y0.args) (r : Ins_), Below w0.heap.size w0 w → f y0 = some r → FnOk Tryz.prog fv1 [(.agg #[(nV y0.op), (nV y0.to), z1, (nV y0.n_)])] w (fun v w' => ∃ (x1 : Value), v = (.agg #[(nV r.op), (nV r.to), x1, (nV r.n_)]) ∧ Mem w (hp w) w' [ow [x1] r.args])) :
    ConM Tryz.prog 226 [v1, fv1] w0 (impl_mapped_impl_Ins_impl_Ins list f) fun r v w' => ∃ (x1 : Value), v = x1 ∧ Mem w0 (hp w0) w' [ow [x1] r] := by
  unfold impl_mapped_impl_Ins_impl_Ins
  refine gcon func226 rfl fun r => ?_
  have hm := Mem.start w0
  refine gS (gR (gA rfl (gE (gS (gR (gA rfl (gE (gS (gS (gR (gM rfl ?_)))))))))))
  obtain ⟨p0_1, c0_1, rfl, hl0_1⟩ := ro_slice h1
  refine gY (yV st_102 rfl) (gM rfl (gE (gBk ?_)))
  replace hm := hm.nilow (α := Ins_)
  refine gNg (fun i1_1 xs1_1 a w => ∃ (v1_1 : Value), St 22 [(1, fv1), (5, v1_1), (8, (.slice p0_1 list.length c0_1)), (9, (nV ((list.length : Int)))), (10, (nV i1_1))] w0 (hp w0) [ow [v1_1] xs1_1] a w) (fun a hf => ⟨(.slice none 0 0), hf.sb rfl, hm.pk [0] rfl rfl⟩) ?_ ?_
  ·
   repeat clear hm
   rintro _ _ i1_1 xs1_1 a w ⟨v1_1, hf, hm⟩ hi0_1 hi0_2 q0_1 _
   refine gv hf (gS (gR (gB rfl (gE (gS (go _ 11 rfl (decide_eq_true (by omega)) (gct rfl (gSk (gS (gBk (gS (gR (gg fun x1_1 h1_1 hx1_2 => ?_)))))))))))))
   obtain ⟨b1_1, o1_1, c1_1, he⟩ := idx_form' h1 hx1_2
   simp only [Value.slice.injEq, Option.some.injEq] at he; obtain ⟨rfl, _, rfl⟩ := he
   obtain ⟨v1_2, hc1_1, h1_2⟩ := rk_Ins_ h1 hx1_2
   refine gI st_102 h1_1 (idx_lt hx1_2) rfl (gY (yn (hc1_1.mono hm.lez) isAgg106 sizeOf106 rfl) (gAl hm zeroValue106 rfl fun b1_2 w hm => gSN hm 0 sizeOf106 (one_cons rfl (one_cons rfl (one_cons (rep_one h1_2) (one_cons rfl one_nil)))) rfl fun w hm => gE (gR (gM rfl (gM rfl (gY (yn (hm.blk_at 0 rfl) isAgg106 sizeOf106 rfl) (gb fun r1_1 hx1_3 => gf rfl (fun a hf => e_callv hf rfl rfl rfl (hfn1 _ x1_1 v1_2 (hm.now h1_2) _ hm.below hx1_3)) ?_)))))))
   rintro v1_3 w ⟨v1_4, rfl, hB⟩
   replace hm := hm.give hB; clear hB
   refine gf rfl (fun a hf => e_build (vs := #[(0, (.agg #[(nV r1_1.op), (nV r1_1.to), v1_4, (nV r1_1.n_)]))]) (cs := [(nV r1_1.op), (nV r1_1.to), v1_4, (nV r1_1.n_)]) et_102 hf hm rfl rfl (by kernel_rfl) rfl rfl) ?_
   rintro _ w ⟨b1_3, rfl, hm⟩
   replace hm := hm.els_nil (α := Ins_)
   replace hm : Mem w0 (hp w0) _ [els [] ([] : List Ins_), blk b1_3 [(nV r1_1.op), (nV r1_1.to), v1_4, (nV r1_1.n_)] 106, ow [(nV r1_1.op), (nV r1_1.to), v1_4, (nV r1_1.n_)] (r1_1 : Ins_), blk b1_2 [(nV x1_1.op), (nV x1_1.to), v1_2, (nV x1_1.n_)] 106, ow [v1_1] xs1_1] := mk_Ins_ r1_1.op r1_1.to r1_1.n_ hm 2 rfl
   replace hm := (hm.els_cons 0 2 (by decide) rfl rfl).pk (L' := [els [(nV r1_1.op), (nV r1_1.to), v1_4, (nV r1_1.n_)] ([r1_1] : List Ins_), blk b1_3 [(nV r1_1.op), (nV r1_1.to), v1_4, (nV r1_1.n_)] 106, blk b1_2 [(nV x1_1.op), (nV x1_1.to), v1_2, (nV x1_1.n_)] 106, ow [v1_1] xs1_1]) [0, 1, 3, 4] rfl rfl
   replace hm := (hm.lit_els 1 0 (by decide) rfl rfl rfl rfl).pk (L' := [ow [(sV b1_3 0 1 1)] ([r1_1] : List Ins_), blk b1_2 [(nV x1_1.op), (nV x1_1.to), v1_2, (nV x1_1.n_)] 106, ow [v1_1] xs1_1]) [1, 2, 3] rfl rfl
   refine gb fun ys1_1 hx1_4 => ?_
   obtain ⟨h1_3, h1_3e⟩ := appM_some.1 hx1_4
   replace hm := (hm.both 2 0 (by decide) rfl rfl).pk (L' := [blk b1_2 [(nV x1_1.op), (nV x1_1.to), v1_2, (nV x1_1.n_)] 106, both (ow [v1_1] xs1_1) (ow [(sV b1_3 0 1 1)] ([r1_1] : List Ins_))]) [1, 2] rfl rfl
   refine gf rfl (fun a hf => e_appendD (xs := xs1_1) (ys := ([r1_1] : List Ins_)) 1 et_102 hf hm rfl rfl rfl rfl h1_3) ?_
   rintro v1_5 w hm
   rw [h1_3e] at hm
   exact gA rfl (gE (gR (gP (by omega) (by omega) rfl (gM rfl (gE (gZe fun a hf => ⟨v1_5, hf.sb rfl, hm.pk [1] rfl rfl⟩))))))
  repeat clear hm
  rintro i0_1 xs0_1 a w ⟨v0_1, hf, hm⟩ hi0_3 hi0_4
  exact gv hf (gS (gR (gB rfl (gE (gS (go _ 11 rfl (decide_eq_false (by omega)) (gcf rfl (gXt (gHh (gS (gR (gM rfl (gA rfl (gE (gRt (gr1 results226 rfl ⟨v0_1, rfl, hm.pk [0] rfl rfl⟩))))))))))))))))

theorem impl_cloneIns_ok (w0 : World) (x_ : Ins_) (v1 : Value) (h1 : GT.rep (hp w0) [v1] x_.args) :
    ConM Tryz.prog 227 [(.agg #[(nV x_.op), (nV x_.to), v1, (nV x_.n_)])] w0 (impl_cloneIns x_) fun r v w' => ∃ (x1 : Value), v = (.agg #[(nV r.op), (nV r.to), x1, (nV r.n_)]) ∧ Mem w0 (hp w0) w' [ow [x1] r.args] := by
  unfold impl_cloneIns
  refine gcon func227 rfl fun r => ?_
  have hm := Mem.start w0
  refine gS (gR (gBx hm rfl fun b0_1 w hm => gAl hm zeroValue106 rfl fun b0_2 w hm => gE (gS (gR (gF fo_106_2 rfl (gL hm 1 isAgg37 rfl (gCg rfl call107 (slices_Clone_S_int_int_ok _ x_.args v1 (hm.now h1)) ?_)))))))
  rintro r0_1 hx0_1 v0_1 w ⟨_, rfl, hB⟩
  replace hm := hm.give hB; clear hB
  exact gF fo_106_2 rfl (gS1 hm 2 sizeOf37 (rep_one (hm.ow_rep 0 rfl)) rfl fun w hm => gE (gS (gR (gY (yn (hm.blk_at 2 rfl) isAgg106 sizeOf106 rfl) (gSN hm 1 sizeOf106 (one_cons rfl (one_cons rfl (one_cons (rep_one (hm.ow_rep 0 rfl)) (one_cons rfl one_nil)))) rfl fun w hm => gE (gRt (grc 1 results227 hm rfl isAgg106 sizeOf106 ⟨v0_1, rfl, hm.pk [0] rfl rfl⟩)))))))

theorem impl_cloneBlock_ok (w0 : World) (b_ : Block_) (v1 : Value) (h1 : GT.rep (hp w0) [v1] b_.phis) (v2 : Value) (h2 : GT.rep (hp w0) [v2] b_.ins) (v3 : Value) (h3 : GT.rep (hp w0) [v3] b_.next_) :
    ConM Tryz.prog 159 [(.agg #[v1, v2, (nV b_.jump), (nV b_.on), v3])] w0 (impl_cloneBlock b_) fun r v w' => ∃ (x1 : Value) (x2 : Value) (x3 : Value), v = (.agg #[x1, x2, (nV r.jump), (nV r.on), x3]) ∧ Mem w0 (hp w0) w' [ow [x1] r.phis, ow [x2] r.ins, ow [x3] r.next_] := by
  unfold impl_cloneBlock
  refine gcon func159 rfl fun r => ?_
  have hm := Mem.start w0
  refine gS (gR (gBx hm rfl fun b0_1 w hm => gAl hm zeroValue104 rfl fun b0_2 w hm => gE (gS (gR (gF fo_104_0 rfl (gL hm 1 isAgg101 rfl (gCg rfl call224 (impl_mapped_impl_Phi_impl_Phi_ok _ b_.phis v1 (hm.now h1) (fun y0 => impl_clonePhi y0) (.func (.func 225) #[] #[]) (fun w y0 z0_0 z0_1 r hB hq => ⟨225, [], rfl, call225, impl_clonePhi_ok w y0 z0_0 z0_1  r hq⟩)) ?_)))))))
  rintro r0_1 hx0_1 v0_1 w ⟨_, rfl, hB⟩
  replace hm := hm.give hB; clear hB
  refine gF fo_104_0 rfl (gS1 hm 2 sizeOf101 (rep_one (hm.ow_rep 0 rfl)) rfl fun w hm => gE (gS (gR (gF fo_104_1 rfl (gL hm 2 isAgg102 rfl (gCg rfl call226 (impl_mapped_impl_Ins_impl_Ins_ok _ b_.ins v2 (hm.now h2) (fun y0 => impl_cloneIns y0) (.func (.func 227) #[] #[]) (fun w y0 z0_0 z0_1 r hB hq => ⟨227, [], rfl, call227, impl_cloneIns_ok w y0 z0_0 z0_1  r hq⟩)) ?_))))))
  rintro r0_2 hx0_2 v0_3 w ⟨_, rfl, hB⟩
  replace hm := hm.give hB; clear hB
  refine gF fo_104_1 rfl (gS1 hm 3 sizeOf102 (rep_one (hm.ow_rep 0 rfl)) rfl fun w hm => gE (gS (gR (gF fo_104_4 rfl (gL hm 3 isAgg37 rfl (gCg rfl call107 (slices_Clone_S_int_int_ok _ b_.next_ v3 (hm.now h3)) ?_))))))
  rintro r0_3 hx0_3 v0_5 w ⟨_, rfl, hB⟩
  replace hm := hm.give hB; clear hB
  exact gF fo_104_4 rfl (gS1 hm 4 sizeOf37 (rep_one (hm.ow_rep 0 rfl)) rfl fun w hm => gE (gS (gR (gY (yn (hm.blk_at 4 rfl) isAgg104 sizeOf104 rfl) (gSN hm 3 sizeOf104 (one_cons (rep_one (hm.ow_rep 2 rfl)) (one_cons (rep_one (hm.ow_rep 1 rfl)) (one_cons rfl (one_cons rfl (one_cons (rep_one (hm.ow_rep 0 rfl)) one_nil))))) rfl fun w hm => gE (gRt (grc 3 results159 hm rfl isAgg104 sizeOf104 ⟨v0_1, v0_3, v0_5, rfl, hm.pk [2, 1, 0] rfl rfl⟩)))))))

theorem impl_cloneCode_ok (w0 : World) (c_ : Code_) (v1 : Value) (h1 : GT.rep (hp w0) [v1] c_.blocks) :
    ConM Tryz.prog 112 [(.agg #[(nV c_.params), (nV c_.regs), v1])] w0 (impl_cloneCode c_) fun r v w' => ∃ (x1 : Value), v = (.agg #[(nV r.params), (nV r.regs), x1]) ∧ Mem w0 (hp w0) w' [ow [x1] r.blocks] := by
  unfold impl_cloneCode
  refine gcon func112 rfl fun r => ?_
  have hm := Mem.start w0
  refine gS (gR (gBx hm rfl fun b0_1 w hm => gAl hm zeroValue57 rfl fun b0_2 w hm => gE (gS (gR (gF fo_57_2 rfl (gL hm 1 isAgg55 rfl (gCg rfl call158 (impl_mapped_impl_Block_impl_Block_ok _ c_.blocks v1 (hm.now h1) (fun y0 => impl_cloneBlock y0) (.func (.func 159) #[] #[]) (fun w y0 z0_0 z0_1 z0_2 z0_3 z0_4 z0_5 r hB hq => ⟨159, [], rfl, call159, impl_cloneBlock_ok w y0 z0_0 z0_1 z0_2 z0_3 z0_4 z0_5  r hq⟩)) ?_)))))))
  rintro r0_1 hx0_1 v0_1 w ⟨_, rfl, hB⟩
  replace hm := hm.give hB; clear hB
  exact gF fo_57_2 rfl (gS1 hm 2 sizeOf55 (rep_one (hm.ow_rep 0 rfl)) rfl fun w hm => gE (gS (gR (gY (yn (hm.blk_at 2 rfl) isAgg57 sizeOf57 rfl) (gSN hm 1 sizeOf57 (one_cons rfl (one_cons rfl (one_cons (rep_one (hm.ow_rep 0 rfl)) one_nil))) rfl fun w hm => gE (gRt (grc 1 results112 hm rfl isAgg57 sizeOf57 ⟨v0_1, rfl, hm.pk [0] rfl rfl⟩)))))))

theorem impl_phisOf_ok (w0 : World) (c_ : Code_) (v1 : Value) (h1 : GT.rep (hp w0) [v1] c_.blocks) :
    ConM Tryz.prog 119 [(.agg #[(nV c_.params), (nV c_.regs), v1])] w0 (impl_phisOf c_) fun r v w' => ∃ (x1 : Value), v = x1 ∧ Mem w0 (hp w0) w' [ow [x1] r] := by
  unfold impl_phisOf
  refine gcon func119 rfl fun r => ?_
  have hm := Mem.start w0
  refine gS (gR (gBx hm rfl fun b0_1 w hm => gA rfl (gE (gS (gR (gF fo_57_2 rfl (gL hm 0 isAgg55 rfl ?_)))))))
  obtain ⟨p0_1, c0_1, rfl, hl0_1⟩ := ro_slice h1
  refine gY (yV st_55 rfl) (gb fun ys0_1 hx0_1 => ?_)
  obtain ⟨⟨h0_11, h0_12⟩, h0_1e⟩ := makeM_some.1 hx0_1
  refine gf rfl (fun a hf => e_make (x0 := ([] : List (MapS Int))) et_132 (fun _ => (own_list.2 (.inl ⟨rfl, rfl⟩))) hf hm rfl rfl rfl h0_11 (Int.le_refl _) h0_12) ?_
  rintro v0_1 w hm
  rw [h0_1e] at hm
  have h0_1l : (ys0_1.length : Int) = (c_.blocks.length : Int) := by rw [← h0_1e]; simp only [List.length_replicate]; omega
  refine gA rfl (gE (gS (gS (gR (gF fo_57_2 rfl (gL hm 1 isAgg55 rfl (gY (yV st_55 rfl) (gM rfl (gE ?_)))))))))
  obtain ⟨p0_2, c0_2, rfl, hl0_2⟩ := ro_slice (hm.ow_rep 0 rfl)
  refine gBk (gNf hm (fun i1_1 xs1_1 => [(1, (pV b0_1)), (3, (.slice p0_2 ys0_1.length c0_2)), (17, (.slice p0_1 c_.blocks.length c0_1)), (18, (nV ((c_.blocks.length : Int)))), (19, (nV i1_1))]) (fun i1_1 xs1_1 => [blk b0_1 [(nV c_.params), (nV c_.regs), (.slice p0_1 c_.blocks.length c0_1)] 57, ow [(.slice p0_2 ys0_1.length c0_2)] xs1_1]) [1, 0] rfl ?_ ?_)
  ·
   repeat clear hm
   intro _ _ i1_1 xs1_1 w hm hi0_1 hi0_2 q0_1 _
   refine gS (gR (gB rfl (gE (gS (go _ 20 rfl (decide_eq_true (by omega)) (gct rfl (gSk (gS (gBk (gS (gR (gM rfl (gg fun x1_1 h1_1 hx1_2 => ?_)))))))))))))
   obtain ⟨b1_1, o1_1, c1_1, he⟩ := idx_form' h1 hx1_2
   simp only [Value.slice.injEq, Option.some.injEq] at he; obtain ⟨rfl, _, rfl⟩ := he
   obtain ⟨v1_1, v1_2, v1_3, hc1_1, h1_2, h1_3, h1_4⟩ := rk_Block_ h1 hx1_2
   refine gI st_55 h1_1 (idx_lt hx1_2) rfl (gY (yn (hc1_1.mono hm.lez) isAgg104 sizeOf104 rfl) (gAl hm zeroValue104 rfl fun b1_2 w hm => gA rfl (gSN hm 0 sizeOf104 (one_cons (rep_one h1_2) (one_cons (rep_one h1_3) (one_cons rfl (one_cons rfl (one_cons (rep_one h1_4) one_nil))))) rfl fun w hm => gE (gS (gR (gY (yn (hm.blk_at 1 rfl) isAgg57 sizeOf57 rfl) (gM rfl (gCg rfl call141 (impl_PredsOf_ok _ c_ (sV b1_1 o1_1 c_.blocks.length c0_1) (hm.now h1) i1_1) ?_))))))))
   rintro r1_1 hx1_3 v1_4 w ⟨_, rfl, hB⟩
   replace hm := hm.give hB; clear hB
   refine gA rfl (gE (gS (gR (gF fo_104_0 rfl (gL hm 1 isAgg101 rfl ?_)))))
   obtain ⟨p1_1, c1_2, rfl, hl1_1⟩ := ro_slice h1_2
   refine gY (yV st_101 rfl) (gM rfl (gE ?_))
   obtain ⟨p1_2, c1_3, rfl, hl1_2⟩ := ro_slice (hm.ow_rep 0 rfl)
   refine gBk (gNf hm (fun i2_1 xs2_1 => [(1, (pV b0_1)), (3, (.slice p0_2 ys0_1.length c0_2)), (4, (nV i1_1)), (6, (.slice p1_2 r1_1.length c1_3)), (17, (sV b1_1 o1_1 c_.blocks.length c0_1)), (18, (nV ((c_.blocks.length : Int)))), (19, (nV i1_1)), (28, (.slice p1_1 x1_1.phis.length c1_2)), (29, (nV ((x1_1.phis.length : Int)))), (30, (nV i2_1))]) (fun i2_1 xs2_1 => [blk b0_1 [(nV c_.params), (nV c_.regs), (sV b1_1 o1_1 c_.blocks.length c0_1)] 57, ow [(.slice p0_2 ys0_1.length c0_2)] xs2_1, ow [(.slice p1_2 r1_1.length c1_3)] r1_1]) [2, 3, 0] rfl ?_ ?_)
   ·
    repeat clear hm
    intro _ _ i2_1 xs2_1 w hm hi1_1 hi1_2 q1_1 _
    refine gS (gR (gB rfl (gE (gS (go _ 31 rfl (decide_eq_true (by omega)) (gct rfl (gSk (gS (gBk (gS (gR (gg fun x2_1 h2_1 hx2_2 => ?_))))))))))))
    obtain ⟨b2_1, o2_1, c2_1, he⟩ := idx_form' h1_2 hx2_2
    simp only [Value.slice.injEq, Option.some.injEq] at he; obtain ⟨rfl, _, rfl⟩ := he
    obtain ⟨v2_1, hc2_1, h2_2⟩ := rk_Phi_ h1_2 hx2_2
    refine gI st_101 h2_1 (idx_lt hx2_2) rfl (gY (yn (hc2_1.mono hm.lez) isAgg143 sizeOf143 rfl) (gAl hm zeroValue143 rfl fun b2_2 w hm => gSN hm 0 sizeOf143 (one_cons rfl (one_cons (rep_one h2_2) one_nil)) rfl fun w hm => gE (gS (gR (gf rfl (fun a hf => e_mkM (β := Int) hm rfl) ?_)))))
    rintro v2_2 w hm
    refine gA rfl (gE (gS (gS (gR (gM rfl (gY (yV st_37 rfl) (gM rfl (gE (gBk (gNf hm (fun i3_1 xs3_1 => [(1, (pV b0_1)), (3, (.slice p0_2 ys0_1.length c0_2)), (4, (nV i1_1)), (6, (.slice p1_2 r1_1.length c1_3)), (8, (pV b2_2)), (9, v2_2), (17, (sV b1_1 o1_1 c_.blocks.length c0_1)), (18, (nV ((c_.blocks.length : Int)))), (19, (nV i1_1)), (28, (sV b2_1 o2_1 x1_1.phis.length c1_2)), (29, (nV ((x1_1.phis.length : Int)))), (30, (nV i2_1)), (35, (.slice p1_2 r1_1.length c1_3)), (36, (nV ((r1_1.length : Int)))), (37, (nV i3_1))]) (fun i3_1 xs3_1 => [blk b0_1 [(nV c_.params), (nV c_.regs), (sV b1_1 o1_1 c_.blocks.length c0_1)] 57, ow [(.slice p0_2 ys0_1.length c0_2)] xs2_1, ow [(.slice p1_2 r1_1.length c1_3)] r1_1, blk b2_2 [(nV x2_1.to), v2_1] 143, owm v2_2 xs3_1]) [2, 3, 4, 1, 0] rfl ?_ ?_))))))))))
    ·
     repeat clear hm
     intro _ _ i3_1 xs3_1 w hm hi2_1 hi2_2 q2_1 _
     refine gS (gR (gB rfl (gE (gS (go _ 38 rfl (decide_eq_true (by omega)) (gct rfl (gSk (gS (gBk (gS (gR (gM rfl (gg fun x3_1 h3_1 hx3_2 => ?_)))))))))))))
     obtain ⟨b3_1, o3_1, c3_1, he⟩ := idx_form (hm.ow_rep 2 rfl) hx3_2
     simp only [Value.slice.injEq, Option.some.injEq] at he; obtain ⟨rfl, _, rfl⟩ := he
     refine gI st_37 h3_1 (idx_lt hx3_2) rfl (gY (yl isAgg3 ((flat_cells (cs := [(nV x3_1)]) (hm.ow_rep 2 rfl) hx3_2 rfl).cell (j := 0) rfl) rfl) (gA rfl (gA rfl (gE (gR (gM rfl (gM rfl (gF fo_143_1 rfl (gL hm 3 isAgg37 rfl (gM rfl (gg fun x3_2 h3_2 hx3_4 => ?_)))))))))))
     obtain ⟨b3_2, o3_2, c3_2, he⟩ := idx_form h2_2 hx3_4
     subst he
     refine gI st_37 h3_2 (idx_lt hx3_4) rfl (gY (yl isAgg3 ((flat_cells (cs := [(nV x3_2)]) (hm.now h2_2) hx3_4 rfl).cell (j := 0) rfl) rfl) (gf0 rfl (fun a hf => e_insM (β := Int) (key := x3_1) (u := x3_2) (b := false) 4 underlying3 underlying136 hf hm rfl rfl rfl rfl rfl) ?_))
     rintro _ w hm
     exact gE (gR (gP (by omega) (by omega) rfl (gM rfl (gE (gze hm [0, 1, 2, 3, 4] rfl)))))
    repeat clear hm
    intro i2_2 xs2_2 w hm hi2_3 hi2_4
    refine gS (gR (gB rfl (gE (gS (go _ 38 rfl (decide_eq_false (by omega)) (gcf rfl (gXt (gHh (gR (gM rfl (gM rfl (gM rfl (gM rfl (gg fun x2_2 h2_3 hx2_4 => ?_))))))))))))))
    obtain ⟨b2_3, o2_2, c2_2, he⟩ := idx_form' (hm.ow_rep 1 rfl) hx2_4
    simp only [Value.slice.injEq, Option.some.injEq] at he; obtain ⟨rfl, _, rfl⟩ := he
    obtain ⟨_, _, hc2_2, hr2_1⟩ := ro_get' (hm.ow_rep 1 rfl) hx2_4
    have h2_4 := hr2_1
    obtain ⟨v2_3, rfl, -⟩ := id h2_4
    replace h2_4 : GT.rep (hp _) [v2_3] x2_2 := h2_4
    replace hc2_2 : CellsAt (hp _) b2_3 (o2_2 + (i1_1).toNat * 1) [v2_3] := hc2_2
    have hL2_1 := rep_slice_len (hm.ow_rep 1 rfl)
    refine gI st_132 h2_3 (idx_lt2 hx2_4 hL2_1) rfl ?_
    obtain ⟨_, hc2_3, hm⟩ := hm.openE 1 rfl hx2_4
    have hr2_2 := hm.ow_rep 0 rfl
    have h2_5 := hr2_2
    obtain ⟨v2_4, rfl, -⟩ := id h2_5
    replace h2_5 : GT.rep (hp _) [v2_4] x2_2 := h2_5
    clear hc2_3 h2_5
    replace hm : Mem w0 (hp w0) _ [ow [v2_4] (x2_2 : List (MapS Int)), blk b0_1 [(nV c_.params), (nV c_.regs), (sV b1_1 o1_1 c_.blocks.length c0_1)] 57, holeE b2_3 o2_2 ys0_1.length c0_2 (xs2_1 : List (List (MapS Int))) (i1_1).toNat [v2_4], ow [(.slice p1_2 r1_1.length c1_3)] r1_1, blk b2_2 [(nV x2_1.to), v2_1] 143, owm v2_2 xs2_2] := hm
    replace hm := hm.pk (L' := [ow [v2_4] x2_2, blk b0_1 [(nV c_.params), (nV c_.regs), (sV b1_1 o1_1 c_.blocks.length c0_1)] 57, holeE b2_3 o2_2 ys0_1.length c0_2 (xs2_1 : List (List (MapS Int))) (i1_1).toNat [v2_4], ow [(.slice p1_2 r1_1.length c1_3)] r1_1, blk b2_2 [(nV x2_1.to), v2_1] 143, owm v2_2 xs2_2]) [0, 1, 2, 3, 4, 5] rfl rfl
    refine gY (yl isAgg135 ((hm.holeE_at 2 rfl).cell (j := 0) rfl) rfl) (gM rfl ?_)
    obtain ⟨m2_1, he⟩ := owm_form hm 5 rfl
    subst he
    refine gf rfl (fun a hf => e_build (vs := #[(0, (.map (some m2_1)))]) (cs := [(.map (some m2_1))]) et_135 hf hm rfl rfl (by kernel_rfl) rfl rfl) ?_
    rintro _ w ⟨b2_4, rfl, hm⟩
    replace hm := hm.els_nil (α := MapS Int)
    have hcl2_1 := owm_cells hm 7 rfl
    replace hm := hm.imp (c' := ow [(.map (some m2_1))] (xs2_2 : MapS Int)) 7 rfl (fun F h0 => own_owm h0)
    replace hm := hm.imp (c' := ow [(.map (some m2_1))] (xs2_2 : MapS Int)) 7 rfl (fun F h0 => h0)
    replace hm := (hm.els_cons 0 7 (by decide) rfl rfl).pk (L' := [els [(.map (some m2_1))] ([xs2_2] : List (MapS Int)), blk b2_4 [(.map (some m2_1))] 136, ow [v2_4] x2_2, blk b0_1 [(nV c_.params), (nV c_.regs), (sV b1_1 o1_1 c_.blocks.length c0_1)] 57, holeE b2_3 o2_2 ys0_1.length c0_2 (xs2_1 : List (List (MapS Int))) (i1_1).toNat [v2_4], ow [(.slice p1_2 r1_1.length c1_3)] r1_1, blk b2_2 [(nV x2_1.to), v2_1] 143]) [0, 1, 2, 3, 4, 5, 6] rfl rfl
    replace hm := (hm.lit_els 1 0 (by decide) rfl rfl rfl rfl).pk (L' := [ow [(sV b2_4 0 1 1)] ([xs2_2] : List (MapS Int)), ow [v2_4] x2_2, blk b0_1 [(nV c_.params), (nV c_.regs), (sV b1_1 o1_1 c_.blocks.length c0_1)] 57, holeE b2_3 o2_2 ys0_1.length c0_2 (xs2_1 : List (List (MapS Int))) (i1_1).toNat [v2_4], ow [(.slice p1_2 r1_1.length c1_3)] r1_1, blk b2_2 [(nV x2_1.to), v2_1] 143]) [1, 2, 3, 4, 5, 6] rfl rfl
    refine gb fun ys2_1 hx2_5 => ?_
    obtain ⟨h2_6, h2_6e⟩ := appM_some.1 hx2_5
    replace hm := (hm.both 1 0 (by decide) rfl rfl).pk (L' := [both (ow [v2_4] x2_2) (ow [(sV b2_4 0 1 1)] ([xs2_2] : List (MapS Int))), blk b0_1 [(nV c_.params), (nV c_.regs), (sV b1_1 o1_1 c_.blocks.length c0_1)] 57, holeE b2_3 o2_2 ys0_1.length c0_2 (xs2_1 : List (List (MapS Int))) (i1_1).toNat [v2_4], ow [(.slice p1_2 r1_1.length c1_3)] r1_1, blk b2_2 [(nV x2_1.to), v2_1] 143]) [1, 2, 3, 4, 5] rfl rfl
    refine gf rfl (fun a hf => e_appendD (xs := x2_2) (ys := ([xs2_2] : List (MapS Int))) 0 et_135 hf hm rfl rfl rfl rfl h2_6) ?_
    rintro v2_5 w hm
    rw [h2_6e] at hm
    have hL2_2 := hm.holeE_len 2 rfl
    refine gI st_132 h2_3 (idx_lt2 hx2_4 hL2_2) rfl ?_
    have h12_1 : ∀ u ∈ ([v2_5] : List Value), u.oneCell' = true := (one_cons (rep_one (hm.ow_rep 0 rfl)) one_nil)
    refine gf0 rfl (fun a hf => e_storeH (j := 0) (vs := [v2_5]) 2 hf hm rfl rfl rfl sizeOf135 rfl rfl (cells_one (h12_1 _ (List.mem_singleton.2 rfl))) h12_1 rfl) ?_
    rintro _ w hm
    replace hm : Mem w0 (hp w0) _ [ow [v2_5] ys2_1, blk b0_1 [(nV c_.params), (nV c_.regs), (sV b1_1 o1_1 c_.blocks.length c0_1)] 57, holeE b2_3 o2_2 ys0_1.length c0_2 (xs2_1 : List (List (MapS Int))) (i1_1).toNat [v2_5], ow [(.slice p1_2 r1_1.length c1_3)] r1_1, blk b2_2 [(nV x2_1.to), v2_1] 143] := hm
    refine gE ?_
    replace hm := hm.imp (c' := ow [v2_5] (ys2_1 : List (MapS Int))) 0 rfl (fun F h0 => h0)
    replace hm := (hm.shutE (y := (ys2_1 : List (MapS Int))) 2 0 (by decide) rfl rfl).pk (L' := [blk b0_1 [(nV c_.params), (nV c_.regs), (sV b1_1 o1_1 c_.blocks.length c0_1)] 57, ow [(sV b2_3 o2_2 ys0_1.length c0_2)] (xs2_1.set (i1_1).toNat ys2_1), ow [(.slice p1_2 r1_1.length c1_3)] r1_1, blk b2_2 [(nV x2_1.to), v2_1] 143]) [1, 2, 3, 4] rfl rfl
    have hx2_6 := List.getElem?_set_self (a := (ys2_1 : List (MapS Int))) (idx_lt hx2_4)
    exact gR (gP (by omega) (by omega) rfl (gM rfl (gE (gze hm [0, 1, 2] rfl))))
   repeat clear hm
   intro i1_2 xs1_2 w hm hi1_3 hi1_4
   exact gS (gR (gB rfl (gE (gS (go _ 31 rfl (decide_eq_false (by omega)) (gcf rfl (gXt (gHh (gR (gP (by omega) (by omega) rfl (gM rfl (gE (gze hm [0, 1] rfl)))))))))))))
  repeat clear hm
  intro i0_1 xs0_1 w hm hi0_3 hi0_4
  exact gS (gR (gB rfl (gE (gS (go _ 20 rfl (decide_eq_false (by omega)) (gcf rfl (gXt (gHh (gS (gR (gM rfl (gA rfl (gE (gRt (gr1 results119 rfl ⟨(.slice p0_2 ys0_1.length c0_2), rfl, hm.pk [1] rfl rfl⟩)))))))))))))))

theorem impl_once_ok (w0 : World) (list : List Int) (v1 : Value) (h1 : GT.rep (hp w0) [v1] list) :
    ConM Tryz.prog 124 [v1] w0 (impl_once list) fun r v w' => ∃ (x1 : Value), v = x1 ∧ Mem w0 (hp w0) w' [ow [x1] r] := by
  unfold impl_once
  refine gcon func124 rfl fun r => ?_
  have hm := Mem.start w0
  refine gS (gR (gA rfl (gE (gS (gR (gM rfl (gCg rfl call107 (slices_Clone_S_int_int_ok _ list v1 (hm.now h1)) ?_)))))))
  rintro r0_1 hx0_1 v0_1 w ⟨_, rfl, hB⟩
  replace hm := hm.give hB; clear hB
  refine gA rfl (gE (gS (gR (gM rfl (gf rfl (fun a hf => e_call hf rfl call100 rfl (sort_con lays189 hm 0 rfl)) ?_)))))
  rintro _ w ⟨rfl, hm⟩
  refine gE (gS (gR (gM rfl (gf rfl (fun a hf => e_call hf rfl call182 rfl (compact_con lays2_20 hm 0 rfl)) ?_))))
  rintro v0_3 w hm
  exact gA rfl (gE (gRt (gr1 results124 rfl ⟨v0_3, rfl, hm.pk [0] rfl rfl⟩)))

theorem impl_sharpNext_ok (w0 : World) (c_ : Code_) (v1 : Value) (h1 : GT.rep (hp w0) [v1] c_.blocks) (b_ : Int) :
    ConM Tryz.prog 120 [(.agg #[(nV c_.params), (nV c_.regs), v1]), (nV b_)] w0 (impl_sharpNext c_ b_) fun r v w' => ∃ (x1 : Value), v = x1 ∧ Mem w0 (hp w0) w' [ow [x1] r] := by
  unfold impl_sharpNext
  refine gcon func120 rfl fun r => ?_
  have hm := Mem.start w0
  refine gS (gR (gBx hm rfl fun b0_1 w hm => gA rfl (gE (gS (gR (gF fo_57_2 rfl (gL hm 0 isAgg55 rfl (gM rfl (gg fun x0_1 h0_1 hx0_2 => ?_)))))))))
  obtain ⟨b0_2, o0_1, c0_1, he⟩ := idx_form' h1 hx0_2
  subst he
  obtain ⟨v0_1, v0_2, v0_3, hc0_1, h0_2, h0_3, h0_4⟩ := rk_Block_ h1 hx0_2
  refine gI st_55 h0_1 (idx_lt hx0_2) rfl (gF fo_104_4 rfl (gY (yl isAgg37 ((hc0_1.mono hm.lez).cell (j := 4) rfl) rfl) (gA rfl (gE (gS (gS (gR (gM rfl (gCg rfl call124 (impl_once_ok _ x0_1.next_ v0_3 (hm.now h0_4)) ?_)))))))))
  rintro r0_1 hx0_3 v0_4 w ⟨_, rfl, hB⟩
  replace hm := hm.give hB; clear hB
  obtain ⟨p0_1, c0_2, rfl, hl0_1⟩ := ro_slice (hm.ow_rep 0 rfl)
  refine gY (yV st_37 rfl) (gB rfl (gE (gsd 18 rfl (fun h0_5 => ?_) fun h0_5 => ?_)))
  ·
   refine gct rfl (gS (gR (gA rfl (gE (gRt ?_)))))
   replace hm := hm.nilow (α := Int)
   exact gr1 results120 rfl ⟨(.slice none 0 0), rfl, hm.pk [0] rfl rfl⟩
  refine gcf rfl (gSk (gS (gR (gA rfl (gE (gS (gS (gR (gM rfl ?_)))))))))
  obtain ⟨p0_2, c0_3, rfl, hl0_2⟩ := ro_slice h0_4
  refine gY (yV st_37 rfl) (gM rfl (gE (gBk ?_)))
  replace hm := hm.nilow (α := Int)
  refine gNg (fun i1_1 xs1_1 a w => ∃ (v1_1 : Value), St 42 [(2, (pV b0_1)), (6, v1_1), (19, (.slice p0_2 x0_1.next_.length c0_3)), (20, (nV ((x0_1.next_.length : Int)))), (21, (nV i1_1))] w0 (hp w0) [blk b0_1 [(nV c_.params), (nV c_.regs), (sV b0_2 o0_1 c_.blocks.length c0_1)] 57, ow [v1_1] xs1_1] a w) (fun a hf => ⟨(.slice none 0 0), hf.sb rfl, hm.pk [2, 0] rfl rfl⟩) ?_ ?_
  ·
   repeat clear hm
   rintro _ _ i1_1 xs1_1 a w ⟨v1_1, hf, hm⟩ hi0_1 hi0_2 q0_1 _
   refine gv hf (gS (gR (gB rfl (gE (gS (go _ 22 rfl (decide_eq_true (by omega)) (gct rfl (gSk (gS (gJg (fun s1_1 a w => ∃ (v1_2 : Value), St 42 [(2, (pV b0_1)), (6, v1_2), (19, (.slice p0_2 x0_1.next_.length c0_3)), (20, (nV ((x0_1.next_.length : Int)))), (21, (nV i1_1))] w0 (hp w0) [blk b0_1 [(nV c_.params), (nV c_.regs), (sV b0_2 o0_1 c_.blocks.length c0_1)] 57, ow [v1_2] s1_1] a w) (fun s1_1 => ?_) ?_))))))))))
   ·
    refine gBk (gS (gR (gg fun x2_1 h2_1 hx2_2 => ?_)))
    obtain ⟨b2_1, o2_1, c2_1, he⟩ := idx_form h0_4 hx2_2
    simp only [Value.slice.injEq, Option.some.injEq] at he; obtain ⟨rfl, _, rfl⟩ := he
    refine gI st_37 h2_1 (idx_lt hx2_2) rfl (gY (yl isAgg3 ((flat_cells (cs := [(nV x2_1)]) (hm.now h0_4) hx2_2 rfl).cell (j := 0) rfl) rfl) (gA rfl (gE (gS (gJ hm (fun s2_1 => [(2, (pV b0_1)), (6, v1_1), (8, (nV x2_1)), (19, (sV b2_1 o2_1 x0_1.next_.length c0_3)), (20, (nV ((x0_1.next_.length : Int)))), (21, (nV i1_1)), (35, (.bool (s2_1)))]) (fun s2_1 => [blk b0_1 [(nV c_.params), (nV c_.regs), (sV b0_2 o0_1 c_.blocks.length c0_1)] 57, ow [v1_1] xs1_1]) (fun s2_1 => ?_) ?_)))))
    ·
     refine gR (gY (yn (hm.blk_at 0 rfl) isAgg57 sizeOf57 rfl) (gM rfl (gCg rfl call141 (impl_PredsOf_ok _ c_ (sV b0_2 o0_1 c_.blocks.length c0_1) (hm.now h1) x2_1) ?_)))
     rintro r3_1 hx3_1 v3_1 w ⟨_, rfl, hB⟩
     replace hm := hm.give hB; clear hB
     obtain ⟨p3_1, c3_1, rfl, hl3_1⟩ := ro_slice (hm.ow_rep 0 rfl)
     refine gY (yV st_37 rfl) (gB rfl (gM rfl (gsd 30 rfl (fun h3_1 => ?_) fun h3_1 => ?_)))
     ·
      exact gM rfl (gM rfl (gC hm rfl call111 (slices_Contains_S_int_int_ok _ xs1_1 v1_1 (hm.ow_rep 2 rfl) x2_1) fun r3_2 hx3_2 w hm => gN rfl (gKt rfl (gE (gz hm [1, 2] rfl)))))
     exact gO rfl (gO rfl (gO rfl (gO rfl (gKf rfl (gE (gz hm [1, 2] rfl))))))
    repeat clear hm
    intro s2_1 w hm
    refine gJg (fun s2_2 a w => ∃ (v2_1 : Value), St 42 [(2, (pV b0_1)), (6, v2_1), (19, (sV b2_1 o2_1 x0_1.next_.length c0_3)), (20, (nV ((x0_1.next_.length : Int)))), (21, (nV i1_1))] w0 (hp w0) [blk b0_1 [(nV c_.params), (nV c_.regs), (sV b0_2 o0_1 c_.blocks.length c0_1)] 57, ow [v2_1] s2_2] a w) (fun s2_2 => ?_) ?_
    ·
     refine gs 35 rfl (fun h3_2 => ?_) fun h3_2 => ?_
     ·
      refine gct rfl (gR (gM rfl (gM rfl (gf rfl (fun a hf => e_build (vs := #[(0, (nV x2_1))]) (cs := [(nV x2_1)]) et_37 hf hm rfl rfl (by kernel_rfl) rfl rfl) ?_))))
      rintro _ w ⟨b3_1, rfl, hm⟩
      replace hm := hm.lit (xs := ([x2_1] : List Int)) 0 rfl rfl rfl rfl
      refine gb fun ys3_1 hx3_3 => ?_
      obtain ⟨h3_3, h3_3e⟩ := appM_some.1 hx3_3
      refine gf rfl (fun a hf => e_append 2 et_37 hf hm rfl (hm.ow_rep 0 rfl) rfl rfl rfl h3_3) ?_
      rintro v3_4 w hm
      rw [h3_3e] at hm
      exact gA rfl (gE (gZ fun a hf => ⟨v3_4, hf.sb rfl, hm.pk [1, 2] rfl rfl⟩))
     exact gcf rfl (gSk (gZ fun a hf => ⟨v1_1, hf.sb rfl, hm.pk [0, 1] rfl rfl⟩))
    repeat clear hm
    rintro s2_2 a w ⟨v2_1, hf, hm⟩
    exact gv hf (gZ fun a hf => ⟨v2_1, hf.sb rfl, hm.pk [0, 1] rfl rfl⟩)
   repeat clear hm
   rintro s1_1 a w ⟨v1_2, hf, hm⟩
   exact gv hf (gR (gP (by omega) (by omega) rfl (gM rfl (gE (gZe fun a hf => ⟨v1_2, hf.sb rfl, hm.pk [0, 1] rfl rfl⟩)))))
  repeat clear hm
  rintro i0_1 xs0_1 a w ⟨v0_6, hf, hm⟩ hi0_3 hi0_4
  exact gv hf (gS (gR (gB rfl (gE (gS (go _ 22 rfl (decide_eq_false (by omega)) (gcf rfl (gXt (gHh (gS (gR (gM rfl (gA rfl (gE (gRt (gr1 results120 rfl ⟨v0_6, rfl, hm.pk [1] rfl rfl⟩))))))))))))))))

theorem impl_settle_1_ok (w0 : World) (p_ : Int) (c0_ : MapS Int) (v1 : Value) (h1 : GT.rep (hp w0) [v1] c0_) (bf0 : Nat) (hbf0 : w0.heap[bf0]? = some (.cells ([v1] : List Value).toArray 136 (0, 0))) :
    ConM Tryz.prog 179 [(nV p_), (pV bf0)] w0 (impl_settle_1 p_ c0_) fun r v w' => v = (nV r) ∧ Below w0.heap.size w0 w' := by
  unfold impl_settle_1
  refine gcon func179 rfl fun r => ?_
  have hm := Mem.start w0
  exact gS (gR (gA rfl (gE (gS (gR (gY (yl isAgg136 (hm.old_cell hbf0 rfl) rfl) (gM rfl (gY (yG rfl (y_lookI (key := p_) (m := (c0_ : MapS Int)) underlying3 underlying136 zeroValue3 (hm.now h1) rfl rfl rfl)) (gA rfl (gE (gRt (gr1 results179 rfl ⟨rfl, hm.below⟩))))))))))))

theorem impl_mapped_int_int_ok (w0 : World) (list : List Int) (v1 : Value) (h1 : GT.rep (hp w0) [v1] list) (f : Int → Option Int) (fv1 : Value) (hfn1 : ∀ (w : World) (y0 : Int) (r : Int), Below w0.heap.size w0 w → f y0 = some r → FnOk Tryz.prog fv1 [(nV y0)] w (fun v w' => v = (nV r) ∧ Below w.heap.size w w')) :
    ConM Tryz.prog 178 [v1, fv1] w0 (impl_mapped_int_int list f) fun r v w' => ∃ (x1 : Value), v = x1 ∧ Mem w0 (hp w0) w' [ow [x1] r] := by
  unfold impl_mapped_int_int
  refine gcon func178 rfl fun r => ?_
  have hm := Mem.start w0
  refine gS (gR (gA rfl (gE (gS (gR (gA rfl (gE (gS (gS (gR (gM rfl ?_)))))))))))
  obtain ⟨p0_1, c0_1, rfl, hl0_1⟩ := ro_slice h1
  refine gY (yV st_37 rfl) (gM rfl (gE (gBk ?_)))
  replace hm := hm.nilow (α := Int)
  refine gNg (fun i1_1 xs1_1 a w => ∃ (v1_1 : Value), St 22 [(1, fv1), (5, v1_1), (8, (.slice p0_1 list.length c0_1)), (9, (nV ((list.length : Int)))), (10, (nV i1_1))] w0 (hp w0) [ow [v1_1] xs1_1] a w) (fun a hf => ⟨(.slice none 0 0), hf.sb rfl, hm.pk [0] rfl rfl⟩) ?_ ?_
  ·
   repeat clear hm
   rintro _ _ i1_1 xs1_1 a w ⟨v1_1, hf, hm⟩ hi0_1 hi0_2 q0_1 _
   refine gv hf (gS (gR (gB rfl (gE (gS (go _ 11 rfl (decide_eq_true (by omega)) (gct rfl (gSk (gS (gBk (gS (gR (gg fun x1_1 h1_1 hx1_2 => ?_)))))))))))))
   obtain ⟨b1_1, o1_1, c1_1, he⟩ := idx_form h1 hx1_2
   simp only [Value.slice.injEq, Option.some.injEq] at he; obtain ⟨rfl, _, rfl⟩ := he
   refine gI st_37 h1_1 (idx_lt hx1_2) rfl (gY (yl isAgg3 ((flat_cells (cs := [(nV x1_1)]) (hm.now h1) hx1_2 rfl).cell (j := 0) rfl) rfl) (gA rfl (gE (gR (gM rfl (gM rfl (gM rfl (gb fun r1_1 hx1_3 => gf rfl (fun a hf => e_callv hf rfl rfl rfl (hfn1 _ x1_1 _ hm.below hx1_3)) ?_))))))))
   rintro v1_2 w ⟨rfl, hB⟩
   replace hm := hm.below' hB; clear hB
   refine gf rfl (fun a hf => e_build (vs := #[(0, (nV r1_1))]) (cs := [(nV r1_1)]) et_37 hf hm rfl rfl (by kernel_rfl) rfl rfl) ?_
   rintro _ w ⟨b1_2, rfl, hm⟩
   replace hm := hm.lit (xs := ([r1_1] : List Int)) 0 rfl rfl rfl rfl
   refine gb fun ys1_1 hx1_4 => ?_
   obtain ⟨h1_2, h1_2e⟩ := appM_some.1 hx1_4
   refine gf rfl (fun a hf => e_append 1 et_37 hf hm rfl (hm.ow_rep 0 rfl) rfl rfl rfl h1_2) ?_
   rintro v1_3 w hm
   rw [h1_2e] at hm
   exact gA rfl (gE (gR (gP (by omega) (by omega) rfl (gM rfl (gE (gZe fun a hf => ⟨v1_3, hf.sb rfl, hm.pk [1] rfl rfl⟩))))))
  repeat clear hm
  rintro i0_1 xs0_1 a w ⟨v0_1, hf, hm⟩ hi0_3 hi0_4
  exact gv hf (gS (gR (gB rfl (gE (gS (go _ 11 rfl (decide_eq_false (by omega)) (gcf rfl (gXt (gHh (gS (gR (gM rfl (gA rfl (gE (gRt (gr1 results178 rfl ⟨v0_1, rfl, hm.pk [0] rfl rfl⟩))))))))))))))))

theorem impl_settle_ok (w0 : World) (hz : Heap) (c_ : Code_) (bp0 : Nat) (v1p : Value) (phis : List (List (MapS Int))) (v1 : Value) (h1 : GT.rep hz [v1] phis) (hm0 : Mem w0 hz w0 [blk bp0 [(nV c_.params), (nV c_.regs), v1p] 57, ow [v1p] c_.blocks]) :
    ConM Tryz.prog 121 [(pV bp0), v1] w0 (impl_settle c_ phis) fun r v w' => ∃ (x1 : Value), v = (.tuple #[]) ∧ Mem w0 hz w' [blk bp0 [(nV r.params), (nV r.regs), x1] 57, ow [x1] r.blocks] := by
  unfold impl_settle
  refine gcon func121 rfl fun r => ?_
  have hm := hm0
  refine gS (gR (gM rfl (gY (yG rfl (y_nilptr rfl rfl)) (gF fo_57_2 rfl (gL hm 0 isAgg55 rfl ?_)))))
  obtain ⟨p0_1, c0_1, rfl, hl0_1⟩ := ro_slice (hm.ow_rep 1 rfl)
  refine gY (yV st_55 rfl) (gM rfl (gE (gBk (gNf hm (fun i1_1 xs1_1 => [(0, (pV bp0)), (1, v1), (12, (nV ((c_.blocks.length : Int)))), (13, (nV i1_1))]) (fun i1_1 xs1_1 => [blk bp0 [(nV c_.params), (nV c_.regs), (.slice p0_1 c_.blocks.length c0_1)] 57, ow [(.slice p0_1 c_.blocks.length c0_1)] xs1_1]) [0, 1] rfl ?_ ?_))))
  ·
   repeat clear hm
   intro _ _ i1_1 xs1_1 w hm hi0_1 hi0_2 q0_1 _
   refine gS (gR (gB rfl (gE (gS (go _ 14 rfl (decide_eq_true (by omega)) (gct rfl (gSk (gS (gBk (gS (gR (gM rfl (gA rfl (gE (gS (gR (gM rfl (gY (yG rfl (y_nilptr rfl rfl)) (gY (yn (hm.blk_at 0 rfl) isAgg57 sizeOf57 rfl) (gM rfl (gCg rfl call141 (impl_PredsOf_ok _ (⟨c_.params, c_.regs, xs1_1⟩ : Code_) (.slice p0_1 c_.blocks.length c0_1) (hm.ow_rep 1 rfl) i1_1) ?_)))))))))))))))))))))
   rintro r1_1 hx1_1 v1_1 w ⟨_, rfl, hB⟩
   replace hm := hm.give hB; clear hB
   refine gA rfl (gE (gS (gR (gM rfl (gM rfl (gg fun x1_1 h1_1 hx1_3 => ?_))))))
   obtain ⟨b1_1, o1_1, c1_1, he⟩ := idx_form' h1 hx1_3
   subst he
   obtain ⟨_, _, hc1_1, hr1_1⟩ := ro_get' h1 hx1_3
   have h1_2 := hr1_1
   obtain ⟨v1_3, rfl, -⟩ := id h1_2
   replace h1_2 : GT.rep hz [v1_3] x1_1 := h1_2
   replace hc1_1 : CellsAt hz b1_1 (o1_1 + (i1_1).toNat * 1) [v1_3] := hc1_1
   refine gI st_132 h1_1 (idx_lt hx1_3) rfl (gY (yl isAgg135 ((hc1_1.mono hm.lez).cell (j := 0) rfl) rfl) ?_)
   obtain ⟨p1_1, c1_2, rfl, hl1_1⟩ := ro_slice h1_2
   refine gY (yV st_135 rfl) (gM rfl (gE ?_))
   obtain ⟨p1_2, c1_3, rfl, hl1_2⟩ := ro_slice (hm.ow_rep 0 rfl)
   refine gBk (gNf hm (fun i2_1 xs2_1 => [(0, (pV bp0)), (1, (sV b1_1 o1_1 phis.length c1_1)), (4, (nV i1_1)), (5, (.slice p1_2 r1_1.length c1_3)), (12, (nV ((c_.blocks.length : Int)))), (13, (nV i1_1)), (24, (.slice p1_1 x1_1.length c1_2)), (25, (nV ((x1_1.length : Int)))), (26, (nV i2_1))]) (fun i2_1 xs2_1 => [blk bp0 [(nV c_.params), (nV c_.regs), (.slice p0_1 c_.blocks.length c0_1)] 57, ow [(.slice p0_1 c_.blocks.length c0_1)] xs2_1, ow [(.slice p1_2 r1_1.length c1_3)] r1_1]) [1, 2, 0] rfl ?_ ?_)
   ·
    repeat clear hm
    intro _ _ i2_1 xs2_1 w hm hi1_1 hi1_2 q1_1 _
    refine gS (gR (gB rfl (gE (gS (go _ 27 rfl (decide_eq_true (by omega)) (gct rfl (gSk (gS (gBk (gS (gR (gM rfl (gg fun x2_1 h2_1 hx2_2 => ?_)))))))))))))
    obtain ⟨b2_1, o2_1, c2_1, he⟩ := idx_form' h1_2 hx2_2
    simp only [Value.slice.injEq, Option.some.injEq] at he; obtain ⟨rfl, _, rfl⟩ := he
    obtain ⟨_, _, hc2_1, hr2_1⟩ := ro_get' h1_2 hx2_2
    have h2_2 := hr2_1
    obtain ⟨v2_1, rfl, -⟩ := id h2_2
    replace h2_2 : GT.rep hz [v2_1] x2_1 := h2_2
    replace hc2_1 : CellsAt hz b2_1 (o2_1 + (i2_1).toNat * 1) [v2_1] := hc2_1
    refine gI st_135 h2_1 (idx_lt hx2_2) rfl (gY (yl isAgg136 ((hc2_1.mono hm.lez).cell (j := 0) rfl) rfl) (gAl hm zeroValue136 rfl fun b2_2 w hm => gA rfl (gS1 hm 0 sizeOf136 (rep_oneM h2_2) rfl fun w hm => gE (gJ hm (fun s2_1 => [(0, (pV bp0)), (1, (sV b1_1 o1_1 phis.length c1_1)), (4, (nV i1_1)), (5, (.slice p1_2 r1_1.length c1_3)), (12, (nV ((c_.blocks.length : Int)))), (13, (nV i1_1)), (24, (sV b2_1 o2_1 x1_1.length c1_2)), (25, (nV ((x1_1.length : Int)))), (26, (nV i2_1))]) (fun s2_1 => [blk bp0 [(nV c_.params), (nV c_.regs), (.slice p0_1 c_.blocks.length c0_1)] 57, ow [(.slice p0_1 c_.blocks.length c0_1)] s2_1, ow [(.slice p1_2 r1_1.length c1_3)] r1_1]) (fun s2_1 => ?_) ?_))))
    ·
     refine gW (.p 0 (.p 1 (.p 2 (.p 4 (.p 8 (.p 9 (.p 10 (.q 3 (.p 5 (.p 6 (.e 7 (.e 11 (.p 12 (.p 13 (.e 14 .fin .nil))) .nil) (.e 11 (.e 7 (.p 12 (.p 13 (.e 14 .fin .nil))) .nil) .nil)))))))))))) [11] [0, 1, 2, 4, 5, 6, 8, 9, 10, 12, 13] hm [0, 1, 3] [blk b2_2 [v2_1] 136, blk bp0 [(nV c_.params), (nV c_.regs), (.slice p0_1 c_.blocks.length c0_1)] 57, ow [(.slice p1_2 r1_1.length c1_3)] r1_1] rfl mxo (by kernel_rfl) (fun _ _ _ h => h.2) fun w hm hS => tP rfl (fun w => yM rfl) (tP rfl (fun w => yG rfl (y_nilptr rfl rfl)) (tP rfl (fun w => yF fo_57_2 rfl) (tP rfl (fun w => yM rfl) (tP rfl (fun w => yM rfl) (tP rfl (fun w => yM rfl) (tP rfl (fun w => yU rfl) (tQ rfl hS (fun w hm => yL hm 1 isAgg55 rfl) (gg fun x3_1 h3_1 hx3_2 => ?_))))))))
     obtain ⟨b3_1, o3_1, c3_1, he⟩ := idx_form' (hm.ow_rep 2 rfl) hx3_2
     simp only [Value.slice.injEq, Option.some.injEq] at he; obtain ⟨rfl, _, rfl⟩ := he
     obtain ⟨v3_1, v3_2, v3_3, hc3_1, h3_2, h3_3, h3_4⟩ := rk_Block_ (hm.ow_rep 2 rfl) hx3_2
     have hL3_1 := rep_slice_len (hm.ow_rep 2 rfl)
     refine tP rfl (fun w => yI st_55 h3_1 (idx_lt2 hx3_2 hL3_1) rfl) (tP rfl (fun w => yF fo_104_0 rfl) (gb fun pb3_1 hpb3_1 => gb fun pb3_2 hpb3_2 => tMo ?_ ?_))
     ·
      obtain ⟨v3_4, v3_5, v3_6, hm⟩ := pin_Block_ hm 2 rfl hx3_2
      refine tY rfl (yl isAgg101 ((hm.holeE_at 5 rfl).cell (j := 0) rfl) rfl) (tAn rfl (tO (tf rfl rfl (fun a hf => e_call hf rfl call178 rfl (impl_mapped_int_int_ok _ r1_1 (.slice p1_2 r1_1.length c1_3) (hm.ow_rep 6 rfl) (fun y0 => impl_settle_1 y0 x2_1) (.func (.func 179) #[] #[(pV b2_2)]) (fun w y0 r hB hq => ⟨179, [(pV b2_2)], rfl, call179, impl_settle_1_ok w y0 x2_1 v2_1 (rep_later (hm.now h2_2) hB) b2_2 (hm.blk_later 3 rfl hB) r hq⟩) _ hpb3_1)) ?_)))
      rintro v3_7 w ⟨_, rfl, hB⟩
      replace hm := hm.give hB; clear hB
      refine tAk hm [4, 5, 7] rfl fun hS => ?_
      obtain ⟨h3_5, hx3_3⟩ := getI_some.1 hpb3_2
      obtain ⟨b3_2, o3_2, c3_2, he⟩ := idx_form' (hm.ow_rep 3 rfl) hx3_3
      subst he
      obtain ⟨v3_9, hc3_2, h3_6⟩ := rk_Phi_ (hm.ow_rep 3 rfl) hx3_3
      refine tP rfl (fun w => yI st_101 h3_5 (idx_lt hx3_3) rfl) (tP rfl (fun w => yF fo_143_1 rfl) (tO ?_))
      obtain ⟨v3_10, hm⟩ := pin_Phi_ hm 3 rfl hx3_3
      have h13_1 : ∀ u ∈ ([v3_7] : List Value), u.oneCell' = true := (one_cons (rep_one (hm.ow_rep 1 rfl)) one_nil)
      refine tf0 rfl rfl (fun a hf => e_storeH (j := 1) (vs := [v3_7]) 4 hf hm rfl rfl rfl sizeOf37 rfl rfl (cells_one (h13_1 _ (List.mem_singleton.2 rfl))) h13_1 rfl) ?_
      rintro _ w hm
      replace hm : Mem w0 hz _ [ow [v3_10] pb3_2.args, ow [v3_7] pb3_1, ow [v3_6] x3_1.next_, ow [v3_5] x3_1.ins, holeE b3_2 o3_2 x3_1.phis.length c3_2 (x3_1.phis : List Phi_) (i2_1).toNat [(nV pb3_2.to), v3_7], blk b2_2 [v2_1] 136, blk bp0 [(nV c_.params), (nV c_.regs), (sV b3_1 o3_1 c_.blocks.length c0_1)] 57, holeE b3_1 o3_1 c_.blocks.length c0_1 (xs2_1 : List Block_) (i1_1).toNat [(sV b3_2 o3_2 x3_1.phis.length c3_2), v3_5, (nV x3_1.jump), (nV x3_1.on), v3_6], ow [(.slice p1_2 r1_1.length c1_3)] r1_1] := hm
      refine tAn rfl (tE ?_)
      replace hm : Mem w0 hz _ [ow [v3_10] pb3_2.args, ow [(nV pb3_2.to), v3_7] ((⟨pb3_2.to, pb3_1⟩ : Phi_) : Phi_), ow [v3_6] x3_1.next_, ow [v3_5] x3_1.ins, holeE b3_2 o3_2 x3_1.phis.length c3_2 (x3_1.phis : List Phi_) (i2_1).toNat [(nV pb3_2.to), v3_7], blk b2_2 [v2_1] 136, blk bp0 [(nV c_.params), (nV c_.regs), (sV b3_1 o3_1 c_.blocks.length c0_1)] 57, holeE b3_1 o3_1 c_.blocks.length c0_1 (xs2_1 : List Block_) (i1_1).toNat [(sV b3_2 o3_2 x3_1.phis.length c3_2), v3_5, (nV x3_1.jump), (nV x3_1.on), v3_6], ow [(.slice p1_2 r1_1.length c1_3)] r1_1] := mk_Phi_ pb3_2.to hm 1 rfl
      replace hm := (hm.shutE (y := ((⟨pb3_2.to, pb3_1⟩ : Phi_) : Phi_)) 4 1 (by decide) rfl rfl).pk (L' := [ow [v3_10] pb3_2.args, ow [v3_6] x3_1.next_, ow [v3_5] x3_1.ins, ow [(sV b3_2 o3_2 x3_1.phis.length c3_2)] (x3_1.phis.set (i2_1).toNat (⟨pb3_2.to, pb3_1⟩ : Phi_)), blk b2_2 [v2_1] 136, blk bp0 [(nV c_.params), (nV c_.regs), (sV b3_1 o3_1 c_.blocks.length c0_1)] 57, holeE b3_1 o3_1 c_.blocks.length c0_1 (xs2_1 : List Block_) (i1_1).toNat [(sV b3_2 o3_2 x3_1.phis.length c3_2), v3_5, (nV x3_1.jump), (nV x3_1.on), v3_6], ow [(.slice p1_2 r1_1.length c1_3)] r1_1]) [0, 2, 3, 4, 5, 6, 7, 8] rfl rfl
      have hx3_4 := List.getElem?_set_self (a := ((⟨pb3_2.to, pb3_1⟩ : Phi_) : Phi_)) (idx_lt hx3_3)
      replace hm := (mk_Block_ x3_1.jump x3_1.on hm 3 2 1 rfl).pk (L' := [ow [v3_10] pb3_2.args, ow [(sV b3_2 o3_2 x3_1.phis.length c3_2), v3_5, (nV x3_1.jump), (nV x3_1.on), v3_6] ((⟨(x3_1.phis.set (i2_1).toNat (⟨pb3_2.to, pb3_1⟩ : Phi_)), x3_1.ins, x3_1.jump, x3_1.on, x3_1.next_⟩ : Block_) : Block_), blk b2_2 [v2_1] 136, blk bp0 [(nV c_.params), (nV c_.regs), (sV b3_1 o3_1 c_.blocks.length c0_1)] 57, holeE b3_1 o3_1 c_.blocks.length c0_1 (xs2_1 : List Block_) (i1_1).toNat [(sV b3_2 o3_2 x3_1.phis.length c3_2), v3_5, (nV x3_1.jump), (nV x3_1.on), v3_6], ow [(.slice p1_2 r1_1.length c1_3)] r1_1]) [0, 3, 4, 5, 6, 7] rfl rfl
      replace hm := (hm.shutE (y := ((⟨(x3_1.phis.set (i2_1).toNat (⟨pb3_2.to, pb3_1⟩ : Phi_)), x3_1.ins, x3_1.jump, x3_1.on, x3_1.next_⟩ : Block_) : Block_)) 4 1 (by decide) rfl rfl).pk (L' := [ow [v3_10] pb3_2.args, blk b2_2 [v2_1] 136, blk bp0 [(nV c_.params), (nV c_.regs), (sV b3_1 o3_1 c_.blocks.length c0_1)] 57, ow [(sV b3_1 o3_1 c_.blocks.length c0_1)] (xs2_1.set (i1_1).toNat (⟨(x3_1.phis.set (i2_1).toNat (⟨pb3_2.to, pb3_1⟩ : Phi_)), x3_1.ins, x3_1.jump, x3_1.on, x3_1.next_⟩ : Block_)), ow [(.slice p1_2 r1_1.length c1_3)] r1_1]) [0, 2, 3, 4, 5] rfl rfl
      have hx3_5 := List.getElem?_set_self (a := ((⟨(x3_1.phis.set (i2_1).toNat (⟨pb3_2.to, pb3_1⟩ : Phi_)), x3_1.ins, x3_1.jump, x3_1.on, x3_1.next_⟩ : Block_) : Block_)) (idx_lt hx3_2)
      exact gz hm [2, 3, 4] rfl
     refine tO (tf rfl rfl (fun a hf => e_call hf rfl call178 rfl (impl_mapped_int_int_ok _ r1_1 (.slice p1_2 r1_1.length c1_3) (hm.ow_rep 3 rfl) (fun y0 => impl_settle_1 y0 x2_1) (.func (.func 179) #[] #[(pV b2_2)]) (fun w y0 r hB hq => ⟨179, [(pV b2_2)], rfl, call179, impl_settle_1_ok w y0 x2_1 v2_1 (rep_later (hm.now h2_2) hB) b2_2 (hm.blk_later 0 rfl hB) r hq⟩) _ hpb3_1)) ?_)
     rintro v3_11 w ⟨_, rfl, hB⟩
     replace hm := hm.give hB; clear hB
     refine tAk hm [1, 2, 4] rfl fun hS => tO ?_
     obtain ⟨v3_13, v3_14, v3_15, hm⟩ := pin_Block_ hm 3 rfl hx3_2
     refine tY rfl (yl isAgg101 ((hm.holeE_at 6 rfl).cell (j := 0) rfl) rfl) (tAn rfl ?_)
     obtain ⟨h3_7, hx3_6⟩ := getI_some.1 hpb3_2
     obtain ⟨b3_3, o3_3, c3_3, he⟩ := idx_form' (hm.ow_rep 2 rfl) hx3_6
     subst he
     obtain ⟨v3_16, hc3_3, h3_8⟩ := rk_Phi_ (hm.ow_rep 2 rfl) hx3_6
     refine tP rfl (fun w => yI st_101 h3_7 (idx_lt hx3_6) rfl) (tP rfl (fun w => yF fo_143_1 rfl) (tO ?_))
     obtain ⟨v3_17, hm⟩ := pin_Phi_ hm 2 rfl hx3_6
     have h13_2 : ∀ u ∈ ([v3_11] : List Value), u.oneCell' = true := (one_cons (rep_one (hm.ow_rep 4 rfl)) one_nil)
     refine tf0 rfl rfl (fun a hf => e_storeH (j := 1) (vs := [v3_11]) 3 hf hm rfl rfl rfl sizeOf37 rfl rfl (cells_one (h13_2 _ (List.mem_singleton.2 rfl))) h13_2 rfl) ?_
     rintro _ w hm
     replace hm : Mem w0 hz _ [ow [v3_17] pb3_2.args, ow [v3_15] x3_1.next_, ow [v3_14] x3_1.ins, holeE b3_3 o3_3 x3_1.phis.length c3_3 (x3_1.phis : List Phi_) (i2_1).toNat [(nV pb3_2.to), v3_11], ow [v3_11] pb3_1, blk b2_2 [v2_1] 136, blk bp0 [(nV c_.params), (nV c_.regs), (sV b3_1 o3_1 c_.blocks.length c0_1)] 57, holeE b3_1 o3_1 c_.blocks.length c0_1 (xs2_1 : List Block_) (i1_1).toNat [(sV b3_3 o3_3 x3_1.phis.length c3_3), v3_14, (nV x3_1.jump), (nV x3_1.on), v3_15], ow [(.slice p1_2 r1_1.length c1_3)] r1_1] := hm
     refine tAn rfl (tE ?_)
     replace hm : Mem w0 hz _ [ow [v3_17] pb3_2.args, ow [v3_15] x3_1.next_, ow [v3_14] x3_1.ins, holeE b3_3 o3_3 x3_1.phis.length c3_3 (x3_1.phis : List Phi_) (i2_1).toNat [(nV pb3_2.to), v3_11], ow [(nV pb3_2.to), v3_11] ((⟨pb3_2.to, pb3_1⟩ : Phi_) : Phi_), blk b2_2 [v2_1] 136, blk bp0 [(nV c_.params), (nV c_.regs), (sV b3_1 o3_1 c_.blocks.length c0_1)] 57, holeE b3_1 o3_1 c_.blocks.length c0_1 (xs2_1 : List Block_) (i1_1).toNat [(sV b3_3 o3_3 x3_1.phis.length c3_3), v3_14, (nV x3_1.jump), (nV x3_1.on), v3_15], ow [(.slice p1_2 r1_1.length c1_3)] r1_1] := mk_Phi_ pb3_2.to hm 4 rfl
     replace hm := (hm.shutE (y := ((⟨pb3_2.to, pb3_1⟩ : Phi_) : Phi_)) 3 4 (by decide) rfl rfl).pk (L' := [ow [v3_17] pb3_2.args, ow [v3_15] x3_1.next_, ow [v3_14] x3_1.ins, ow [(sV b3_3 o3_3 x3_1.phis.length c3_3)] (x3_1.phis.set (i2_1).toNat (⟨pb3_2.to, pb3_1⟩ : Phi_)), blk b2_2 [v2_1] 136, blk bp0 [(nV c_.params), (nV c_.regs), (sV b3_1 o3_1 c_.blocks.length c0_1)] 57, holeE b3_1 o3_1 c_.blocks.length c0_1 (xs2_1 : List Block_) (i1_1).toNat [(sV b3_3 o3_3 x3_1.phis.length c3_3), v3_14, (nV x3_1.jump), (nV x3_1.on), v3_15], ow [(.slice p1_2 r1_1.length c1_3)] r1_1]) [0, 1, 2, 3, 5, 6, 7, 8] rfl rfl
     have hx3_7 := List.getElem?_set_self (a := ((⟨pb3_2.to, pb3_1⟩ : Phi_) : Phi_)) (idx_lt hx3_6)
     replace hm := (mk_Block_ x3_1.jump x3_1.on hm 3 2 1 rfl).pk (L' := [ow [v3_17] pb3_2.args, ow [(sV b3_3 o3_3 x3_1.phis.length c3_3), v3_14, (nV x3_1.jump), (nV x3_1.on), v3_15] ((⟨(x3_1.phis.set (i2_1).toNat (⟨pb3_2.to, pb3_1⟩ : Phi_)), x3_1.ins, x3_1.jump, x3_1.on, x3_1.next_⟩ : Block_) : Block_), blk b2_2 [v2_1] 136, blk bp0 [(nV c_.params), (nV c_.regs), (sV b3_1 o3_1 c_.blocks.length c0_1)] 57, holeE b3_1 o3_1 c_.blocks.length c0_1 (xs2_1 : List Block_) (i1_1).toNat [(sV b3_3 o3_3 x3_1.phis.length c3_3), v3_14, (nV x3_1.jump), (nV x3_1.on), v3_15], ow [(.slice p1_2 r1_1.length c1_3)] r1_1]) [0, 3, 4, 5, 6, 7] rfl rfl
     replace hm := (hm.shutE (y := ((⟨(x3_1.phis.set (i2_1).toNat (⟨pb3_2.to, pb3_1⟩ : Phi_)), x3_1.ins, x3_1.jump, x3_1.on, x3_1.next_⟩ : Block_) : Block_)) 4 1 (by decide) rfl rfl).pk (L' := [ow [v3_17] pb3_2.args, blk b2_2 [v2_1] 136, blk bp0 [(nV c_.params), (nV c_.regs), (sV b3_1 o3_1 c_.blocks.length c0_1)] 57, ow [(sV b3_1 o3_1 c_.blocks.length c0_1)] (xs2_1.set (i1_1).toNat (⟨(x3_1.phis.set (i2_1).toNat (⟨pb3_2.to, pb3_1⟩ : Phi_)), x3_1.ins, x3_1.jump, x3_1.on, x3_1.next_⟩ : Block_)), ow [(.slice p1_2 r1_1.length c1_3)] r1_1]) [0, 2, 3, 4, 5] rfl rfl
     have hx3_8 := List.getElem?_set_self (a := ((⟨(x3_1.phis.set (i2_1).toNat (⟨pb3_2.to, pb3_1⟩ : Phi_)), x3_1.ins, x3_1.jump, x3_1.on, x3_1.next_⟩ : Block_) : Block_)) (idx_lt hx3_2)
     exact gz hm [2, 3, 4] rfl
    repeat clear hm
    intro s2_1 w hm
    exact gR (gP (by omega) (by omega) rfl (gM rfl (gE (gze hm [0, 1, 2] rfl))))
   repeat clear hm
   intro i1_2 xs1_2 w hm hi1_3 hi1_4
   exact gS (gR (gB rfl (gE (gS (go _ 27 rfl (decide_eq_false (by omega)) (gcf rfl (gXt (gHh (gR (gP (by omega) (by omega) rfl (gM rfl (gE (gze hm [0, 1] rfl)))))))))))))
  repeat clear hm
  intro i0_1 xs0_1 w hm hi0_3 hi0_4
  exact gS (gR (gB rfl (gE (gS (go _ 14 rfl (decide_eq_false (by omega)) (gcf rfl (gXt (gHh (gre results121 ⟨(.slice p0_1 c_.blocks.length c0_1), rfl, hm.pk [0, 1] rfl rfl⟩)))))))))

theorem impl_splitCode_ok (w0 : World) (c_ : Code_) (v1 : Value) (h1 : GT.rep (hp w0) [v1] c_.blocks) :
    ConM Tryz.prog 77 [(.agg #[(nV c_.params), (nV c_.regs), v1])] w0 (impl_splitCode c_) fun r v w' => ∃ (x1 : Value), v = (.agg #[(nV r.params), (nV r.regs), x1]) ∧ Mem w0 (hp w0) w' [ow [x1] r.blocks] := by
  unfold impl_splitCode
  refine gcon func77 rfl fun r => ?_
  have hm := Mem.start w0
  refine gS (gR (gBx hm rfl fun b0_1 w hm => gAl hm zeroValue57 rfl fun b0_2 w hm => gE (gS (gR (gY (yn (hm.blk_at 1 rfl) isAgg57 sizeOf57 rfl) (gCg rfl call112 (impl_cloneCode_ok _ c_ v1 (hm.now h1)) ?_))))))
  rintro r0_1 hx0_1 v0_1 w ⟨v0_2, rfl, hB⟩
  replace hm := hm.give hB; clear hB
  refine gAl hm zeroValue57 rfl fun b0_3 w hm => gSN hm 0 sizeOf57 (one_cons rfl (one_cons rfl (one_cons (rep_one (hm.ow_rep 1 rfl)) one_nil))) rfl fun w hm => gE (gS (gR (gY (yn (hm.blk_at 3 rfl) isAgg57 sizeOf57 rfl) (gCg rfl call119 (impl_phisOf_ok _ c_ v1 (hm.now h1)) ?_))))
  rintro r0_2 hx0_2 v0_3 w ⟨_, rfl, hB⟩
  replace hm := hm.give hB; clear hB
  refine gA rfl (gE (gS (gS (gR (gF fo_57_2 rfl (gL hm 4 isAgg55 rfl ?_))))))
  obtain ⟨p0_1, c0_1, rfl, hl0_1⟩ := ro_slice h1
  refine gY (yV st_55 rfl) (gM rfl (gE ?_))
  obtain ⟨p0_2, c0_2, rfl, hl0_2⟩ := ro_slice (hm.ow_rep 2 rfl)
  obtain ⟨p0_3, c0_3, rfl, hl0_3⟩ := ro_slice (hm.ow_rep 0 rfl)
  refine gBk (gNg (fun i1_1 xs1_1 a w => ∃ (v1_1 : Value) (v1_2 : Value), St 92 [(1, (pV b0_1)), (2, (pV b0_2)), (3, (pV b0_3)), (4, v1_2), (19, (nV ((c_.blocks.length : Int)))), (20, (nV i1_1))] w0 (hp w0) [blk b0_1 [(nV c_.params), (nV c_.regs), (.slice p0_1 c_.blocks.length c0_1)] 57, blk b0_2 [(nV 0), (nV 0), (.slice none 0 0)] 57, blk b0_3 [(nV r0_1.params), (nV r0_1.regs), v1_1] 57, ow [v1_1] xs1_1.1, ow [v1_2] xs1_1.2] a w) (fun a hf => ⟨(.slice p0_2 r0_1.blocks.length c0_2), (.slice p0_3 r0_2.length c0_3), hf.sb rfl, hm.pk [4, 3, 1, 2, 0] rfl rfl⟩) ?_ ?_)
  ·
   repeat clear hm
   rintro _ _ i1_1 xs1_1 a w ⟨v1_1, v1_2, hf, hm⟩ hi0_1 hi0_2 q0_1 _
   refine gv hf (gS (gR (gB rfl (gE (gS (go _ 21 rfl (decide_eq_true (by omega)) (gct rfl (gSk (gS (gBk (gS (gR (gM rfl (gA rfl (gE (gS (gR (gY (yn (hm.blk_at 0 rfl) isAgg57 sizeOf57 rfl) (gM rfl (gCg rfl call120 (impl_sharpNext_ok _ c_ (.slice p0_1 c_.blocks.length c0_1) (hm.now h1) i1_1) ?_))))))))))))))))))))
   rintro r1_1 hx1_1 v1_3 w ⟨_, rfl, hB⟩
   replace hm := hm.give hB; clear hB
   obtain ⟨p1_1, c1_1, rfl, hl1_1⟩ := ro_slice (hm.ow_rep 0 rfl)
   refine gY (yV st_37 rfl) (gM rfl (gE ?_))
   obtain ⟨p1_2, c1_2, rfl, hl1_2⟩ := ro_slice (hm.ow_rep 4 rfl)
   obtain ⟨p1_3, c1_3, rfl, hl1_3⟩ := ro_slice (hm.ow_rep 5 rfl)
   refine gBk (gNg (fun i2_1 xs2_1 a w => ∃ (v2_1 : Value) (v2_2 : Value), St 92 [(1, (pV b0_1)), (2, (pV b0_2)), (3, (pV b0_3)), (4, v2_2), (5, (nV i1_1)), (19, (nV ((c_.blocks.length : Int)))), (20, (nV i1_1)), (25, (.slice p1_1 r1_1.length c1_1)), (26, (nV ((r1_1.length : Int)))), (27, (nV i2_1))] w0 (hp w0) [blk b0_1 [(nV c_.params), (nV c_.regs), (.slice p0_1 c_.blocks.length c0_1)] 57, blk b0_2 [(nV 0), (nV 0), (.slice none 0 0)] 57, blk b0_3 [(nV r0_1.params), (nV r0_1.regs), v2_1] 57, ow [v2_1] xs2_1.1, ow [v2_2] xs2_1.2, ow [(.slice p1_1 r1_1.length c1_1)] r1_1] a w) (fun a hf => ⟨(.slice p1_2 xs1_1.1.length c1_2), (.slice p1_3 xs1_1.2.length c1_3), hf.sb rfl, hm.pk [1, 2, 3, 4, 5, 0] rfl rfl⟩) ?_ ?_)
   ·
    repeat clear hm
    rintro _ _ i2_1 xs2_1 a w ⟨v2_1, v2_2, hf, hm⟩ hi1_1 hi1_2 q1_1 _
    refine gv hf (gS (gR (gB rfl (gE (gS (go _ 28 rfl (decide_eq_true (by omega)) (gct rfl (gSk (gS (gBk (gS (gR (gg fun x2_1 h2_1 hx2_2 => ?_)))))))))))))
    obtain ⟨b2_1, o2_1, c2_1, he⟩ := idx_form (hm.ow_rep 5 rfl) hx2_2
    simp only [Value.slice.injEq, Option.some.injEq] at he; obtain ⟨rfl, _, rfl⟩ := he
    refine gI st_37 h2_1 (idx_lt hx2_2) rfl (gY (yl isAgg3 ((flat_cells (cs := [(nV x2_1)]) (hm.ow_rep 5 rfl) hx2_2 rfl).cell (j := 0) rfl) rfl) (gA rfl (gE (gS (gR (gF fo_57_2 rfl (gL hm 2 isAgg55 rfl ?_)))))))
    obtain ⟨p2_1, c2_2, rfl, hl2_1⟩ := ro_slice (hm.ow_rep 3 rfl)
    refine gY (yV st_55 rfl) (gA rfl (gE (gS (gR (gF fo_57_2 rfl (gL hm 2 isAgg55 rfl (gM rfl (gf rfl (fun a hf => e_build (vs := #[(0, (nV x2_1))]) (cs := [(nV x2_1)]) et_37 hf hm rfl rfl (by kernel_rfl) rfl rfl) ?_))))))))
    rintro _ w ⟨b2_2, rfl, hm⟩
    replace hm := hm.lit (xs := ([x2_1] : List Int)) 0 rfl rfl rfl rfl
    refine gY (yG rfl (y_build (vs := [(2, (nV 1)), (4, (sV b2_2 0 1 1))]) (cs := #[(.slice none 0 0), (.slice none 0 0), (nV 1), (nV 0), (sV b2_2 0 1 1)]) rfl rfl (by kernel_rfl))) (gf rfl (fun a hf => e_build (vs := #[(0, (.agg #[(.slice none 0 0), (.slice none 0 0), (nV 1), (nV 0), (sV b2_2 0 1 1)]))]) (cs := [(.slice none 0 0), (.slice none 0 0), (nV 1), (nV 0), (sV b2_2 0 1 1)]) et_55 hf hm rfl rfl (by kernel_rfl) rfl rfl) ?_)
    rintro _ w ⟨b2_3, rfl, hm⟩
    replace hm := hm.els_nil (α := Block_)
    replace hm := hm.nilow (α := Phi_)
    replace hm := hm.nilow (α := Ins_)
    replace hm := (mk_Block_ 1 0 hm 1 0 4 rfl).pk (L' := [ow [(.slice none 0 0), (.slice none 0 0), (nV 1), (nV 0), (sV b2_2 0 1 1)] ((⟨[], [], 1, 0, ([x2_1] : List Int)⟩ : Block_) : Block_), els [] ([] : List Block_), blk b2_3 [(.slice none 0 0), (.slice none 0 0), (nV 1), (nV 0), (sV b2_2 0 1 1)] 104, blk b0_1 [(nV c_.params), (nV c_.regs), (.slice p0_1 c_.blocks.length c0_1)] 57, blk b0_2 [(nV 0), (nV 0), (.slice none 0 0)] 57, blk b0_3 [(nV r0_1.params), (nV r0_1.regs), (.slice p2_1 xs2_1.1.length c2_2)] 57, ow [(.slice p2_1 xs2_1.1.length c2_2)] xs2_1.1, ow [v2_2] xs2_1.2, ow [(sV b2_1 o2_1 r1_1.length c1_1)] r1_1]) [1, 2, 3, 5, 6, 7, 8, 9, 10] rfl rfl
    replace hm := (hm.els_cons 1 0 (by decide) rfl rfl).pk (L' := [els [(.slice none 0 0), (.slice none 0 0), (nV 1), (nV 0), (sV b2_2 0 1 1)] ([(⟨[], [], 1, 0, ([x2_1] : List Int)⟩ : Block_)] : List Block_), blk b2_3 [(.slice none 0 0), (.slice none 0 0), (nV 1), (nV 0), (sV b2_2 0 1 1)] 104, blk b0_1 [(nV c_.params), (nV c_.regs), (.slice p0_1 c_.blocks.length c0_1)] 57, blk b0_2 [(nV 0), (nV 0), (.slice none 0 0)] 57, blk b0_3 [(nV r0_1.params), (nV r0_1.regs), (.slice p2_1 xs2_1.1.length c2_2)] 57, ow [(.slice p2_1 xs2_1.1.length c2_2)] xs2_1.1, ow [v2_2] xs2_1.2, ow [(sV b2_1 o2_1 r1_1.length c1_1)] r1_1]) [1, 2, 3, 4, 5, 6, 7, 8] rfl rfl
    replace hm := (hm.lit_els 1 0 (by decide) rfl rfl rfl rfl).pk (L' := [ow [(sV b2_3 0 1 1)] ([(⟨[], [], 1, 0, ([x2_1] : List Int)⟩ : Block_)] : List Block_), blk b0_1 [(nV c_.params), (nV c_.regs), (.slice p0_1 c_.blocks.length c0_1)] 57, blk b0_2 [(nV 0), (nV 0), (.slice none 0 0)] 57, blk b0_3 [(nV r0_1.params), (nV r0_1.regs), (.slice p2_1 xs2_1.1.length c2_2)] 57, ow [(.slice p2_1 xs2_1.1.length c2_2)] xs2_1.1, ow [v2_2] xs2_1.2, ow [(sV b2_1 o2_1 r1_1.length c1_1)] r1_1]) [1, 2, 3, 4, 5, 6, 7] rfl rfl
    refine gb fun ys2_1 hx2_3 => ?_
    obtain ⟨h2_2, h2_2e⟩ := appM_some.1 hx2_3
    replace hm := (hm.both 4 0 (by decide) rfl rfl).pk (L' := [blk b0_1 [(nV c_.params), (nV c_.regs), (.slice p0_1 c_.blocks.length c0_1)] 57, blk b0_2 [(nV 0), (nV 0), (.slice none 0 0)] 57, blk b0_3 [(nV r0_1.params), (nV r0_1.regs), (.slice p2_1 xs2_1.1.length c2_2)] 57, both (ow [(.slice p2_1 xs2_1.1.length c2_2)] xs2_1.1) (ow [(sV b2_3 0 1 1)] ([(⟨[], [], 1, 0, ([x2_1] : List Int)⟩ : Block_)] : List Block_)), ow [v2_2] xs2_1.2, ow [(sV b2_1 o2_1 r1_1.length c1_1)] r1_1]) [1, 2, 3, 4, 5, 6] rfl rfl
    refine gf rfl (fun a hf => e_appendD (xs := xs2_1.1) (ys := ([(⟨[], [], 1, 0, ([x2_1] : List Int)⟩ : Block_)] : List Block_)) 3 et_55 hf hm rfl rfl rfl rfl h2_2) ?_
    rintro v2_3 w hm
    rw [h2_2e] at hm
    refine gF fo_57_2 rfl (gS1 hm 2 sizeOf55 (rep_one (hm.ow_rep 3 rfl)) rfl fun w hm => gE (gS (gR (gM rfl (gf rfl (fun a hf => e_build (vs := #[(0, (.slice none 0 0))]) (cs := [(.slice none 0 0)]) et_132 hf hm rfl rfl (by kernel_rfl) rfl rfl) ?_)))))
    rintro _ w ⟨b2_4, rfl, hm⟩
    replace hm := hm.els_nil (α := List (MapS Int))
    replace hm := hm.own0 (c := [(.slice none 0 0)]) (x := ([] : List (MapS Int))) (fun h => (own_list.2 (.inl ⟨rfl, rfl⟩)))
    replace hm := hm.imp (c' := ow [(.slice none 0 0)] ([] : List (MapS Int))) 0 rfl (fun F h0 => h0)
    replace hm := (hm.els_cons 1 0 (by decide) rfl rfl).pk (L' := [els [(.slice none 0 0)] ([[]] : List (List (MapS Int))), blk b2_4 [(.slice none 0 0)] 135, blk b0_1 [(nV c_.params), (nV c_.regs), (.slice p0_1 c_.blocks.length c0_1)] 57, blk b0_2 [(nV 0), (nV 0), (.slice none 0 0)] 57, blk b0_3 [(nV r0_1.params), (nV r0_1.regs), v2_3] 57, ow [v2_3] ys2_1, ow [v2_2] xs2_1.2, ow [(sV b2_1 o2_1 r1_1.length c1_1)] r1_1]) [1, 2, 3, 4, 5, 6, 7, 8] rfl rfl
    replace hm := (hm.lit_els 1 0 (by decide) rfl rfl rfl rfl).pk (L' := [ow [(sV b2_4 0 1 1)] ([[]] : List (List (MapS Int))), blk b0_1 [(nV c_.params), (nV c_.regs), (.slice p0_1 c_.blocks.length c0_1)] 57, blk b0_2 [(nV 0), (nV 0), (.slice none 0 0)] 57, blk b0_3 [(nV r0_1.params), (nV r0_1.regs), v2_3] 57, ow [v2_3] ys2_1, ow [v2_2] xs2_1.2, ow [(sV b2_1 o2_1 r1_1.length c1_1)] r1_1]) [1, 2, 3, 4, 5, 6, 7] rfl rfl
    refine gb fun ys2_2 hx2_4 => ?_
    obtain ⟨h2_3, h2_3e⟩ := appM_some.1 hx2_4
    replace hm := (hm.both 5 0 (by decide) rfl rfl).pk (L' := [blk b0_1 [(nV c_.params), (nV c_.regs), (.slice p0_1 c_.blocks.length c0_1)] 57, blk b0_2 [(nV 0), (nV 0), (.slice none 0 0)] 57, blk b0_3 [(nV r0_1.params), (nV r0_1.regs), v2_3] 57, ow [v2_3] ys2_1, both (ow [v2_2] xs2_1.2) (ow [(sV b2_4 0 1 1)] ([[]] : List (List (MapS Int)))), ow [(sV b2_1 o2_1 r1_1.length c1_1)] r1_1]) [1, 2, 3, 4, 5, 6] rfl rfl
    refine gf rfl (fun a hf => e_appendD (xs := xs2_1.2) (ys := ([[]] : List (List (MapS Int)))) 4 et_132 hf hm rfl rfl rfl rfl h2_3) ?_
    rintro v2_4 w hm
    rw [h2_3e] at hm
    refine gA rfl (gE (gS (gS (gR (gF fo_57_2 rfl (gL hm 2 isAgg55 rfl (gM rfl (gg fun x2_2 h2_4 hx2_6 => ?_))))))))
    obtain ⟨b2_5, o2_2, c2_3, he⟩ := idx_form' (hm.ow_rep 3 rfl) hx2_6
    subst he
    obtain ⟨v2_5, v2_6, v2_7, hc2_1, h2_5, h2_6, h2_7⟩ := rk_Block_ (hm.ow_rep 3 rfl) hx2_6
    refine gI st_55 h2_4 (idx_lt hx2_6) rfl (gF fo_104_4 rfl ?_)
    obtain ⟨v2_8, v2_9, v2_10, hm⟩ := pin_Block_ hm 3 rfl hx2_6
    refine gY (yl isAgg37 ((hm.holeE_at 6 rfl).cell (j := 4) rfl) rfl) ?_
    obtain ⟨p2_2, c2_4, rfl, hl2_2⟩ := ro_slice (hm.ow_rep 0 rfl)
    refine gY (yV st_37 rfl) (gM rfl (gE ?_))
    obtain ⟨p2_3, c2_5, rfl, hl2_3⟩ := ro_slice (hm.ow_rep 7 rfl)
    refine gBk (gNf hm (fun i3_1 xs3_1 => [(1, (pV b0_1)), (2, (pV b0_2)), (3, (pV b0_3)), (4, (.slice p2_3 ys2_2.length c2_5)), (5, (nV i1_1)), (7, (nV x2_1)), (8, (nV ((xs2_1.1.length : Int)))), (19, (nV ((c_.blocks.length : Int)))), (20, (nV i1_1)), (25, (sV b2_1 o2_1 r1_1.length c1_1)), (26, (nV ((r1_1.length : Int)))), (27, (nV i2_1)), (50, (.slice p2_2 x2_2.next_.length c2_4)), (51, (nV ((x2_2.next_.length : Int)))), (52, (nV i3_1))]) (fun i3_1 xs3_1 => [blk b0_1 [(nV c_.params), (nV c_.regs), (.slice p0_1 c_.blocks.length c0_1)] 57, blk b0_2 [(nV 0), (nV 0), (.slice none 0 0)] 57, blk b0_3 [(nV r0_1.params), (nV r0_1.regs), (sV b2_5 o2_2 ys2_1.length c2_3)] 57, holeE b2_5 o2_2 ys2_1.length c2_3 (ys2_1 : List Block_) (i1_1).toNat [v2_8, v2_9, (nV x2_2.jump), (nV x2_2.on), (.slice p2_2 x2_2.next_.length c2_4)], ow [v2_8] x2_2.phis, ow [v2_9] x2_2.ins, ow [(.slice p2_2 x2_2.next_.length c2_4)] xs3_1, ow [(.slice p2_3 ys2_2.length c2_5)] ys2_2, ow [(sV b2_1 o2_1 r1_1.length c1_1)] r1_1]) [3, 4, 5, 6, 2, 1, 0, 7, 8] rfl ?_ ?_)
    ·
     repeat clear hm
     intro _ _ i3_1 xs3_1 w hm hi2_1 hi2_2 q2_1 _
     refine gS (gR (gB rfl (gE (gS (go _ 53 rfl (decide_eq_true (by omega)) (gct rfl (gSk (gS (gJ hm (fun s3_1 => [(1, (pV b0_1)), (2, (pV b0_2)), (3, (pV b0_3)), (4, (.slice p2_3 ys2_2.length c2_5)), (5, (nV i1_1)), (7, (nV x2_1)), (8, (nV ((xs2_1.1.length : Int)))), (19, (nV ((c_.blocks.length : Int)))), (20, (nV i1_1)), (25, (sV b2_1 o2_1 r1_1.length c1_1)), (26, (nV ((r1_1.length : Int)))), (27, (nV i2_1)), (50, (.slice p2_2 x2_2.next_.length c2_4)), (51, (nV ((x2_2.next_.length : Int)))), (52, (nV i3_1))]) (fun s3_1 => [blk b0_1 [(nV c_.params), (nV c_.regs), (.slice p0_1 c_.blocks.length c0_1)] 57, blk b0_2 [(nV 0), (nV 0), (.slice none 0 0)] 57, blk b0_3 [(nV r0_1.params), (nV r0_1.regs), (sV b2_5 o2_2 ys2_1.length c2_3)] 57, holeE b2_5 o2_2 ys2_1.length c2_3 (ys2_1 : List Block_) (i1_1).toNat [v2_8, v2_9, (nV x2_2.jump), (nV x2_2.on), (.slice p2_2 x2_2.next_.length c2_4)], ow [v2_8] x2_2.phis, ow [v2_9] x2_2.ins, ow [(.slice p2_2 x2_2.next_.length c2_4)] s3_1, ow [(.slice p2_3 ys2_2.length c2_5)] ys2_2, ow [(sV b2_1 o2_1 r1_1.length c1_1)] r1_1]) (fun s3_1 => ?_) ?_)))))))))
     ·
      refine gBk (gS (gR (gM rfl (gg fun x4_1 h4_1 hx4_2 => ?_))))
      obtain ⟨b4_1, o4_1, c4_1, he⟩ := idx_form (hm.ow_rep 6 rfl) hx4_2
      simp only [Value.slice.injEq, Option.some.injEq] at he; obtain ⟨rfl, _, rfl⟩ := he
      have hL4_1 := rep_slice_len (hm.ow_rep 6 rfl)
      refine gI st_37 h4_1 (idx_lt2 hx4_2 hL4_1) rfl (gY (yl isAgg3 ((flat_cells (cs := [(nV x4_1)]) (hm.ow_rep 6 rfl) hx4_2 rfl).cell (j := 0) rfl) rfl) (gA rfl (gA rfl (gE (gS (gR (gM rfl (gM rfl (gB rfl (gE (gJ hm (fun s4_1 => [(1, (pV b0_1)), (2, (pV b0_2)), (3, (pV b0_3)), (4, (.slice p2_3 ys2_2.length c2_5)), (5, (nV i1_1)), (7, (nV x2_1)), (8, (nV ((xs2_1.1.length : Int)))), (19, (nV ((c_.blocks.length : Int)))), (20, (nV i1_1)), (25, (sV b2_1 o2_1 r1_1.length c1_1)), (26, (nV ((r1_1.length : Int)))), (27, (nV i2_1)), (50, (sV b4_1 o4_1 x2_2.next_.length c2_4)), (51, (nV ((x2_2.next_.length : Int)))), (52, (nV i3_1))]) (fun s4_1 => [blk b0_1 [(nV c_.params), (nV c_.regs), (.slice p0_1 c_.blocks.length c0_1)] 57, blk b0_2 [(nV 0), (nV 0), (.slice none 0 0)] 57, blk b0_3 [(nV r0_1.params), (nV r0_1.regs), (sV b2_5 o2_2 ys2_1.length c2_3)] 57, holeE b2_5 o2_2 ys2_1.length c2_3 (ys2_1 : List Block_) (i1_1).toNat [v2_8, v2_9, (nV x2_2.jump), (nV x2_2.on), (sV b4_1 o4_1 x2_2.next_.length c2_4)], ow [v2_8] x2_2.phis, ow [v2_9] x2_2.ins, ow [(sV b4_1 o4_1 x2_2.next_.length c2_4)] s4_1, ow [(.slice p2_3 ys2_2.length c2_5)] ys2_2, ow [(sV b2_1 o2_1 r1_1.length c1_1)] r1_1]) (fun s4_1 => ?_) ?_)))))))))))
      ·
       refine gsd 59 rfl (fun h5_1 => ?_) fun h5_1 => ?_
       ·
        refine gct rfl (gR (gF fo_57_2 rfl (gL hm 2 isAgg55 rfl (gM rfl ?_))))
        have hL5_1 := hm.holeE_len 3 rfl
        refine gI st_55 h2_4 (idx_lt2 hx2_6 hL5_1) rfl (gF fo_104_4 rfl (gY (yl isAgg37 ((hm.holeE_at 3 rfl).cell (j := 4) rfl) rfl) (gM rfl (gM rfl ?_))))
        have hL5_2 := rep_slice_len (hm.ow_rep 6 rfl)
        refine gI st_37 h4_1 (idx_lt2 hx4_2 hL5_2) rfl (gf0 rfl (fun a hf => e_setElem (x1 := (xs2_1.1.length : Int)) (j := 0) (vs := [(nV ((xs2_1.1.length : Int)))]) 6 hf hm rfl hx4_2 rfl sizeOf3 rfl rfl rfl (one_cons rfl one_nil) rfl rfl) ?_)
        rintro _ w hm
        have hx5_1 := List.getElem?_set_self (a := (xs2_1.1.length : Int)) (idx_lt hx4_2)
        exact gE (gz hm [0, 1, 2, 3, 4, 5, 6, 7, 8] rfl)
       exact gcf rfl (gSk (gz hm [0, 1, 2, 3, 4, 5, 6, 7, 8] rfl))
      repeat clear hm
      intro s4_1 w hm
      exact gz hm [0, 1, 2, 3, 4, 5, 6, 7, 8] rfl
     repeat clear hm
     intro s3_1 w hm
     exact gR (gP (by omega) (by omega) rfl (gM rfl (gE (gze hm [0, 1, 2, 3, 4, 5, 6, 7, 8] rfl))))
    repeat clear hm
    intro i2_2 xs2_2 w hm hi2_3 hi2_4
    refine gS (gR (gB rfl (gE (gS (go _ 53 rfl (decide_eq_false (by omega)) (gcf rfl (gXt (gHh (gS ?_)))))))))
    replace hm := (mk_Block_ x2_2.jump x2_2.on hm 4 5 6 rfl).pk (L' := [blk b0_1 [(nV c_.params), (nV c_.regs), (.slice p0_1 c_.blocks.length c0_1)] 57, blk b0_2 [(nV 0), (nV 0), (.slice none 0 0)] 57, blk b0_3 [(nV r0_1.params), (nV r0_1.regs), (sV b2_5 o2_2 ys2_1.length c2_3)] 57, holeE b2_5 o2_2 ys2_1.length c2_3 (ys2_1 : List Block_) (i1_1).toNat [v2_8, v2_9, (nV x2_2.jump), (nV x2_2.on), (.slice p2_2 x2_2.next_.length c2_4)], ow [v2_8, v2_9, (nV x2_2.jump), (nV x2_2.on), (.slice p2_2 x2_2.next_.length c2_4)] ((⟨x2_2.phis, x2_2.ins, x2_2.jump, x2_2.on, xs2_2⟩ : Block_) : Block_), ow [(.slice p2_3 ys2_2.length c2_5)] ys2_2, ow [(sV b2_1 o2_1 r1_1.length c1_1)] r1_1]) [0, 1, 2, 3, 4, 7, 8] rfl rfl
    replace hm := (hm.shutE (y := ((⟨x2_2.phis, x2_2.ins, x2_2.jump, x2_2.on, xs2_2⟩ : Block_) : Block_)) 3 4 (by decide) rfl rfl).pk (L' := [blk b0_1 [(nV c_.params), (nV c_.regs), (.slice p0_1 c_.blocks.length c0_1)] 57, blk b0_2 [(nV 0), (nV 0), (.slice none 0 0)] 57, blk b0_3 [(nV r0_1.params), (nV r0_1.regs), (sV b2_5 o2_2 ys2_1.length c2_3)] 57, ow [(sV b2_5 o2_2 ys2_1.length c2_3)] (ys2_1.set (i1_1).toNat (⟨x2_2.phis, x2_2.ins, x2_2.jump, x2_2.on, xs2_2⟩ : Block_)), ow [(.slice p2_3 ys2_2.length c2_5)] ys2_2, ow [(sV b2_1 o2_1 r1_1.length c1_1)] r1_1]) [0, 1, 2, 3, 5, 6] rfl rfl
    have hx2_7 := List.getElem?_set_self (a := ((⟨x2_2.phis, x2_2.ins, x2_2.jump, x2_2.on, xs2_2⟩ : Block_) : Block_)) (idx_lt hx2_6)
    refine gR (gM rfl (gM rfl (gg fun x2_3 h2_8 hx2_9 => ?_)))
    obtain ⟨b2_6, o2_3, c2_6, he⟩ := idx_form' (hm.ow_rep 4 rfl) hx2_9
    simp only [Value.slice.injEq, Option.some.injEq] at he; obtain ⟨rfl, _, rfl⟩ := he
    obtain ⟨_, _, hc2_2, hr2_1⟩ := ro_get' (hm.ow_rep 4 rfl) hx2_9
    have h2_9 := hr2_1
    obtain ⟨v2_11, rfl, -⟩ := id h2_9
    replace h2_9 : GT.rep (hp _) [v2_11] x2_3 := h2_9
    replace hc2_2 : CellsAt (hp _) b2_6 (o2_3 + (x2_1).toNat * 1) [v2_11] := hc2_2
    refine gI st_132 h2_8 (idx_lt hx2_9) rfl ?_
    obtain ⟨_, hc2_3, hm⟩ := hm.openE 4 rfl hx2_9
    have hr2_2 := hm.ow_rep 0 rfl
    have h2_10 := hr2_2
    obtain ⟨v2_12, rfl, -⟩ := id h2_10
    replace h2_10 : GT.rep (hp _) [v2_12] x2_3 := h2_10
    clear hc2_3 h2_10
    replace hm : Mem w0 (hp w0) _ [ow [v2_12] (x2_3 : List (MapS Int)), blk b0_1 [(nV c_.params), (nV c_.regs), (.slice p0_1 c_.blocks.length c0_1)] 57, blk b0_2 [(nV 0), (nV 0), (.slice none 0 0)] 57, blk b0_3 [(nV r0_1.params), (nV r0_1.regs), (sV b2_5 o2_2 ys2_1.length c2_3)] 57, ow [(sV b2_5 o2_2 ys2_1.length c2_3)] (ys2_1.set (i1_1).toNat (⟨x2_2.phis, x2_2.ins, x2_2.jump, x2_2.on, xs2_2⟩ : Block_)), holeE b2_6 o2_3 ys2_2.length c2_5 (ys2_2 : List (List (MapS Int))) (x2_1).toNat [v2_12], ow [(sV b2_1 o2_1 r1_1.length c1_1)] r1_1] := hm
    replace hm := hm.pk (L' := [ow [v2_12] x2_3, blk b0_1 [(nV c_.params), (nV c_.regs), (.slice p0_1 c_.blocks.length c0_1)] 57, blk b0_2 [(nV 0), (nV 0), (.slice none 0 0)] 57, blk b0_3 [(nV r0_1.params), (nV r0_1.regs), (sV b2_5 o2_2 ys2_1.length c2_3)] 57, ow [(sV b2_5 o2_2 ys2_1.length c2_3)] (ys2_1.set (i1_1).toNat (⟨x2_2.phis, x2_2.ins, x2_2.jump, x2_2.on, xs2_2⟩ : Block_)), holeE b2_6 o2_3 ys2_2.length c2_5 (ys2_2 : List (List (MapS Int))) (x2_1).toNat [v2_12], ow [(sV b2_1 o2_1 r1_1.length c1_1)] r1_1]) [0, 1, 2, 3, 4, 5, 6] rfl rfl
    refine gY (yl isAgg135 ((hm.holeE_at 5 rfl).cell (j := 0) rfl) rfl) ?_
    obtain ⟨p2_4, c2_7, rfl, hl2_4⟩ := ro_slice (hm.ow_rep 0 rfl)
    refine gY (yV st_135 rfl) (gM rfl (gE (gBk (gNf hm (fun i3_2 xs3_2 => [(1, (pV b0_1)), (2, (pV b0_2)), (3, (pV b0_3)), (4, (sV b2_6 o2_3 ys2_2.length c2_5)), (5, (nV i1_1)), (8, (nV ((xs2_1.1.length : Int)))), (19, (nV ((c_.blocks.length : Int)))), (20, (nV i1_1)), (25, (sV b2_1 o2_1 r1_1.length c1_1)), (26, (nV ((r1_1.length : Int)))), (27, (nV i2_1)), (73, (.slice p2_4 x2_3.length c2_7)), (74, (nV ((x2_3.length : Int)))), (75, (nV i3_2))]) (fun i3_2 xs3_2 => [blk b0_1 [(nV c_.params), (nV c_.regs), (.slice p0_1 c_.blocks.length c0_1)] 57, blk b0_2 [(nV 0), (nV 0), (.slice none 0 0)] 57, blk b0_3 [(nV r0_1.params), (nV r0_1.regs), (sV b2_5 o2_2 ys2_1.length c2_3)] 57, ow [(sV b2_5 o2_2 ys2_1.length c2_3)] (ys2_1.set (i1_1).toNat (⟨x2_2.phis, x2_2.ins, x2_2.jump, x2_2.on, xs2_2⟩ : Block_)), holeE b2_6 o2_3 ys2_2.length c2_5 (ys2_2 : List (List (MapS Int))) (x2_1).toNat [(.slice p2_4 x2_3.length c2_7)], ow [(.slice p2_4 x2_3.length c2_7)] xs3_2, ow [(sV b2_1 o2_1 r1_1.length c1_1)] r1_1]) [1, 2, 3, 4, 5, 0, 6] rfl ?_ ?_))))
    ·
     repeat clear hm
     intro _ _ i3_2 xs3_2 w hm hi2_5 hi2_6 q2_2 _
     refine gS (gR (gB rfl (gE (gS (go _ 76 rfl (decide_eq_true (by omega)) (gct rfl (gSk (gS (gBk (gS (gR (gg fun x3_1 h3_1 hx3_2 => ?_))))))))))))
     obtain ⟨b3_1, o3_1, c3_1, he⟩ := idx_form' (hm.ow_rep 5 rfl) hx3_2
     simp only [Value.slice.injEq, Option.some.injEq] at he; obtain ⟨rfl, _, rfl⟩ := he
     obtain ⟨_, _, hc3_1, hr3_1⟩ := ro_get' (hm.ow_rep 5 rfl) hx3_2
     have h3_2 := hr3_1
     obtain ⟨v3_1, rfl, -⟩ := id h3_2
     replace h3_2 : GT.rep (hp _) [v3_1] x3_1 := h3_2
     replace hc3_1 : CellsAt (hp _) b3_1 (o3_1 + (i3_2).toNat * 1) [v3_1] := hc3_1
     have hL3_1 := rep_slice_len (hm.ow_rep 5 rfl)
     refine gI st_135 h3_1 (idx_lt2 hx3_2 hL3_1) rfl ?_
     obtain ⟨_, hc3_2, hm⟩ := hm.openE 5 rfl hx3_2
     have hr3_2 := hm.ow_rep 0 rfl
     have h3_3 := hr3_2
     obtain ⟨v3_2, rfl, -⟩ := id h3_3
     replace h3_3 : GT.rep (hp _) [v3_2] x3_1 := h3_3
     clear hc3_2 h3_3
     replace hm : Mem w0 (hp w0) _ [ow [v3_2] (x3_1 : MapS Int), blk b0_1 [(nV c_.params), (nV c_.regs), (.slice p0_1 c_.blocks.length c0_1)] 57, blk b0_2 [(nV 0), (nV 0), (.slice none 0 0)] 57, blk b0_3 [(nV r0_1.params), (nV r0_1.regs), (sV b2_5 o2_2 ys2_1.length c2_3)] 57, ow [(sV b2_5 o2_2 ys2_1.length c2_3)] (ys2_1.set (i1_1).toNat (⟨x2_2.phis, x2_2.ins, x2_2.jump, x2_2.on, xs2_2⟩ : Block_)), holeE b2_6 o2_3 ys2_2.length c2_5 (ys2_2 : List (List (MapS Int))) (x2_1).toNat [(sV b3_1 o3_1 x2_3.length c2_7)], holeE b3_1 o3_1 x2_3.length c2_7 (xs3_2 : List (MapS Int)) (i3_2).toNat [v3_2], ow [(sV b2_1 o2_1 r1_1.length c1_1)] r1_1] := hm
     replace hm := hm.pk (L' := [ow [v3_2] x3_1, blk b0_1 [(nV c_.params), (nV c_.regs), (.slice p0_1 c_.blocks.length c0_1)] 57, blk b0_2 [(nV 0), (nV 0), (.slice none 0 0)] 57, blk b0_3 [(nV r0_1.params), (nV r0_1.regs), (sV b2_5 o2_2 ys2_1.length c2_3)] 57, ow [(sV b2_5 o2_2 ys2_1.length c2_3)] (ys2_1.set (i1_1).toNat (⟨x2_2.phis, x2_2.ins, x2_2.jump, x2_2.on, xs2_2⟩ : Block_)), holeE b2_6 o2_3 ys2_2.length c2_5 (ys2_2 : List (List (MapS Int))) (x2_1).toNat [(sV b3_1 o3_1 x2_3.length c2_7)], holeE b3_1 o3_1 x2_3.length c2_7 (xs3_2 : List (MapS Int)) (i3_2).toNat [v3_2], ow [(sV b2_1 o2_1 r1_1.length c1_1)] r1_1]) [0, 1, 2, 3, 4, 5, 6, 7] rfl rfl
     refine gY (yl isAgg136 ((hm.holeE_at 6 rfl).cell (j := 0) rfl) rfl) (gA rfl (gE (gS (gR (gM rfl (gM rfl (gM rfl (gM rfl (gY (yG rfl (y_lookI (key := i1_1) (m := (x3_1 : MapS Int)) underlying3 underlying136 zeroValue3 (hm.ow_rep 0 rfl) rfl rfl rfl)) (gb fun u3_1 hx3_3 => ?_))))))))))
     replace hm := hm.ow_owm 0 rfl hx3_3
     refine gf0 rfl (fun a hf => e_insM (β := Int) (key := (xs2_1.1.length : Int)) (u := ((MapS.get x3_1 i1_1).getD 0)) (b := false) 0 underlying3 underlying136 hf hm rfl rfl rfl rfl rfl) ?_
     rintro _ w hm
     refine gE (gR (gM rfl (gM rfl (gf0 rfl (fun a hf => e_delM (β := Int) (key := i1_1) 0 underlying3 underlying136 hf hm rfl rfl rfl rfl rfl) ?_))))
     rintro _ w hm
     refine gE ?_
     have hcl3_1 := owm_cells hm 0 rfl
     replace hm := hm.imp (c' := ow [v3_2] ((MapS.del (MapS.ins x3_1 (xs2_1.1.length : Int) ((MapS.get x3_1 i1_1).getD 0)) i1_1) : MapS Int)) 0 rfl (fun F h0 => own_owm h0)
     replace hm := hm.imp (c' := ow [v3_2] ((MapS.del (MapS.ins x3_1 (xs2_1.1.length : Int) ((MapS.get x3_1 i1_1).getD 0)) i1_1) : MapS Int)) 0 rfl (fun F h0 => h0)
     replace hm := (hm.shutE (y := ((MapS.del (MapS.ins x3_1 (xs2_1.1.length : Int) ((MapS.get x3_1 i1_1).getD 0)) i1_1) : MapS Int)) 6 0 (by decide) rfl rfl).pk (L' := [blk b0_1 [(nV c_.params), (nV c_.regs), (.slice p0_1 c_.blocks.length c0_1)] 57, blk b0_2 [(nV 0), (nV 0), (.slice none 0 0)] 57, blk b0_3 [(nV r0_1.params), (nV r0_1.regs), (sV b2_5 o2_2 ys2_1.length c2_3)] 57, ow [(sV b2_5 o2_2 ys2_1.length c2_3)] (ys2_1.set (i1_1).toNat (⟨x2_2.phis, x2_2.ins, x2_2.jump, x2_2.on, xs2_2⟩ : Block_)), holeE b2_6 o2_3 ys2_2.length c2_5 (ys2_2 : List (List (MapS Int))) (x2_1).toNat [(sV b3_1 o3_1 x2_3.length c2_7)], ow [(sV b3_1 o3_1 x2_3.length c2_7)] (xs3_2.set (i3_2).toNat (MapS.del (MapS.ins x3_1 (xs2_1.1.length : Int) ((MapS.get x3_1 i1_1).getD 0)) i1_1)), ow [(sV b2_1 o2_1 r1_1.length c1_1)] r1_1]) [1, 2, 3, 4, 5, 6, 7] rfl rfl
     have hx3_4 := List.getElem?_set_self (a := ((MapS.del (MapS.ins x3_1 (xs2_1.1.length : Int) ((MapS.get x3_1 i1_1).getD 0)) i1_1) : MapS Int)) (idx_lt hx3_2)
     exact gR (gP (by omega) (by omega) rfl (gM rfl (gE (gze hm [0, 1, 2, 3, 4, 5, 6] rfl))))
    repeat clear hm
    intro i2_3 xs2_3 w hm hi2_7 hi2_8
    refine gS (gR (gB rfl (gE (gS (go _ 76 rfl (decide_eq_false (by omega)) (gcf rfl (gXt (gHh ?_))))))))
    replace hm := hm.imp (c' := ow [(.slice p2_4 x2_3.length c2_7)] (xs2_3 : List (MapS Int))) 5 rfl (fun F h0 => h0)
    replace hm := (hm.shutE (y := (xs2_3 : List (MapS Int))) 4 5 (by decide) rfl rfl).pk (L' := [blk b0_1 [(nV c_.params), (nV c_.regs), (.slice p0_1 c_.blocks.length c0_1)] 57, blk b0_2 [(nV 0), (nV 0), (.slice none 0 0)] 57, blk b0_3 [(nV r0_1.params), (nV r0_1.regs), (sV b2_5 o2_2 ys2_1.length c2_3)] 57, ow [(sV b2_5 o2_2 ys2_1.length c2_3)] (ys2_1.set (i1_1).toNat (⟨x2_2.phis, x2_2.ins, x2_2.jump, x2_2.on, xs2_2⟩ : Block_)), ow [(sV b2_6 o2_3 ys2_2.length c2_5)] (ys2_2.set (x2_1).toNat xs2_3), ow [(sV b2_1 o2_1 r1_1.length c1_1)] r1_1]) [0, 1, 2, 3, 4, 6] rfl rfl
    have hx2_10 := List.getElem?_set_self (a := (xs2_3 : List (MapS Int))) (idx_lt hx2_9)
    exact gR (gP (by omega) (by omega) rfl (gM rfl (gE (gZe fun a hf => ⟨(sV b2_5 o2_2 ys2_1.length c2_3), (sV b2_6 o2_3 ys2_2.length c2_5), hf.sb rfl, hm.pk [0, 1, 2, 3, 4, 5] rfl rfl⟩))))
   repeat clear hm
   rintro i1_2 xs1_2 a w ⟨v1_5, v1_6, hf, hm⟩ hi1_3 hi1_4
   exact gv hf (gS (gR (gB rfl (gE (gS (go _ 28 rfl (decide_eq_false (by omega)) (gcf rfl (gXt (gHh (gR (gP (by omega) (by omega) rfl (gM rfl (gE (gZe fun a hf => ⟨v1_5, v1_6, hf.sb rfl, hm.pk [0, 1, 2, 3, 4] rfl rfl⟩))))))))))))))
  repeat clear hm
  rintro i0_1 xs0_1 a w ⟨v0_5, v0_6, hf, hm⟩ hi0_3 hi0_4
  refine gv hf (gS (gR (gB rfl (gE (gS (go _ 21 rfl (decide_eq_false (by omega)) (gcf rfl (gXt (gHh (gS (gR (gM rfl ?_))))))))))))
  obtain ⟨hz0_3, hle, hm1, hsub, hk0_1⟩ := hm.take2 (L1 := [blk b0_3 [(nV r0_1.params), (nV r0_1.regs), v0_5] 57, ow [v0_5] xs0_1.1]) (L2 := [blk b0_1 [(nV c_.params), (nV c_.regs), (.slice p0_1 c_.blocks.length c0_1)] 57, blk b0_2 [(nV 0), (nV 0), (.slice none 0 0)] 57, ow [v0_6] xs0_1.2]) [2, 3] [0, 1, 4] (by decide) rfl rfl
  refine gCg rfl call121 (impl_settle_ok _ hz0_3 (⟨r0_1.params, r0_1.regs, xs0_1.1⟩ : Code_) b0_3 v0_5 xs0_1.2 v0_6 (fz_ow (hsub 2 _ rfl)) hm1 ) ?_
  rintro r0_4 hx0_3 v0_7 w ⟨v0_8, rfl, hB⟩
  replace hm := hk0_1 _ _ hB; clear hB
  exact gE (gS (gR (gY (yn (hm.blk_at 0 rfl) isAgg57 sizeOf57 rfl) (gSN hm 3 sizeOf57 (one_cons rfl (one_cons rfl (one_cons (rep_one (hm.ow_rep 1 rfl)) one_nil))) rfl fun w hm => gE (gRt (grc 3 results77 hm rfl isAgg57 sizeOf57 ⟨v0_8, rfl, hm.pk [1] rfl rfl⟩))))))

theorem impl_onlyValid_ok (w0 : World) (hz : Heap) (u : Unit_) (v1 : Value) (ok : Bool) (hm0 : Mem w0 hz w0 [ow [v1] u.codes]) :
    ConM Tryz.prog 73 [(.agg #[v1]), (.bool (ok))] w0 (impl_onlyValid u ok) fun r v w' => ∃ (x1 : Value), v = (.tuple #[(.agg #[x1]), (.bool (r.2))]) ∧ Mem w0 hz w' [ow [x1] r.1.codes] := by
  unfold impl_onlyValid
  refine gcon func73 rfl fun r => ?_
  have hm := hm0
  refine gS (gR (gBx hm rfl fun b0_1 w hm => gAl hm zeroValue30 rfl fun b0_2 w hm => gA rfl (gE (gS (gS (gJ hm (fun s0_1 => [(2, (pV b0_1)), (4, (pV b0_2)), (12, (.bool (s0_1)))]) (fun s0_1 => [blk b0_1 [v1] 30, ow [v1] u.codes, blk b0_2 [(.slice none 0 0)] 30]) (fun s0_1 => ?_) ?_))))))
  ·
   refine gR (gM rfl (gN rfl (gM rfl (gsn 8 rfl (fun h1_1 => ?_) fun h1_1 => ?_))))
   ·
    exact gO rfl (gO rfl (gO rfl (gKt rfl (gE (gz hm [1, 2, 0] rfl)))))
   exact gY (yn (hm.blk_at 1 rfl) isAgg30 sizeOf30 rfl) (gC hm rfl call116 (impl_UnitValid_ok _ u v1 (hm.ow_rep 2 rfl)) fun r1_1 hx1_1 w hm => gN rfl (gKf rfl (gE (gz hm [1, 2, 0] rfl))))
  repeat clear hm
  intro s0_1 w hm
  refine gs 12 rfl (fun h0_1 => ?_) fun h0_1 => ?_
  ·
   refine gct rfl (gS (gR (gY (yG rfl (y_build (vs := []) (cs := #[(.slice none 0 0)]) rfl rfl (by kernel_rfl))) (gSN hm 2 sizeOf30 (one_cons rfl one_nil) rfl fun w hm => gA rfl (gE (gRt ?_))))))
   replace hm := hm.nilow (α := Code_)
   exact grct 3 results73 hm rfl isAgg30 sizeOf30 ⟨(.slice none 0 0), rfl, hm.pk [0] rfl rfl⟩
  exact gcf rfl (gSk (gS (gR (gY (yn (hm.blk_at 0 rfl) isAgg30 sizeOf30 rfl) (gSN hm 2 sizeOf30 (one_cons (rep_one (hm.ow_rep 1 rfl)) one_nil) rfl fun w hm => gA rfl (gE (gRt (grct 2 results73 hm rfl isAgg30 sizeOf30 ⟨v1, rfl, hm.pk [1] rfl rfl⟩))))))))

theorem impl_SplitEdges_ok (w0 : World) (u : Unit_) (v1 : Value) (h1 : GT.rep (hp w0) [v1] u.codes) :
    ConM Tryz.prog 37 [(.agg #[v1])] w0 (impl_SplitEdges u) fun r v w' => ∃ (x1 : Value), v = (.tuple #[(.agg #[x1]), (.bool (r.2))]) ∧ Mem w0 (hp w0) w' [ow [x1] r.1.codes] := by
  unfold impl_SplitEdges
  refine gcon func37 rfl fun r => ?_
  have hm := Mem.start w0
  refine gS (gR (gBx hm rfl fun b0_1 w hm => gAl hm zeroValue30 rfl fun b0_2 w hm => gA rfl (gE (gS (gR (gY (yn (hm.blk_at 1 rfl) isAgg30 sizeOf30 rfl) (gCg rfl call76 (impl_perCode_ok _ u v1 (hm.now h1) (fun y0 => impl_splitCode y0) (.func (.func 77) #[] #[]) (fun w y0 z0_0 z0_1 r hB hq => ⟨77, [], rfl, call77, impl_splitCode_ok w y0 z0_0 z0_1  r hq⟩)) ?_)))))))
  rintro r0_1 hx0_1 v0_1 w ⟨v0_2, rfl, hB⟩
  replace hm := hm.give hB; clear hB
  refine gX rfl (gX rfl ?_)
  obtain ⟨hz0_2, hle, hm1, hsub, hk0_1⟩ := hm.take2 (L1 := [ow [v0_2] r0_1.1.codes]) (L2 := [blk b0_2 [(.slice none 0 0)] 30, blk b0_1 [v1] 30]) [0] [1, 2] (by decide) rfl rfl
  refine gCg rfl call73 (impl_onlyValid_ok _ hz0_2 r0_1.1 v0_2 r0_1.2 hm1 ) ?_
  rintro r0_2 hx0_2 v0_3 w ⟨v0_4, rfl, hB⟩
  replace hm := hk0_1 _ _ hB; clear hB
  exact gX rfl (gX rfl (gSN hm 1 sizeOf30 (one_cons (rep_one (hm.ow_rep 0 rfl)) one_nil) rfl fun w hm => gA rfl (gE (gRt (grct 1 results37 hm rfl isAgg30 sizeOf30 ⟨v0_4, rfl, hm.pk [0] rfl rfl⟩)))))

theorem laws_eqIntS_ok (w0 : World) (a_ : List Int) (v1 : Value) (h1 : GT.rep (hp w0) [v1] a_) (b_ : List Int) (v2 : Value) (h2 : GT.rep (hp w0) [v2] b_) :
    ConM Tryz.prog 26 [v1, v2] w0 (laws_eqIntS a_ b_) fun r v w' => v = (.bool (r)) ∧ Below w0.heap.size w0 w' := by
  unfold laws_eqIntS
  refine gcon func26 rfl fun r => ?_
  have hm := Mem.start w0
  refine gS (gR (gA rfl (gE (gS (gS (gR (gM rfl ?_)))))))
  obtain ⟨p0_1, c0_1, rfl, hl0_1⟩ := ro_slice h1
  refine gY (yV st_37 rfl) (gM rfl ?_)
  obtain ⟨p0_2, c0_2, rfl, hl0_2⟩ := ro_slice h2
  refine gY (yV st_37 rfl) (gB rfl (gE (gsd 10 rfl (fun h0_1 => ?_) fun h0_1 => ?_)))
  ·
   exact gct rfl (gS (gR (gA rfl (gE (gRt (gr1 results26 rfl ⟨rfl, hm.below⟩))))))
  refine gcf rfl (gSk (gS (gS (gR (gA rfl (gE (gBk (gNf hm (fun i1_1 xs1_1 => [(0, (.slice p0_1 a_.length c0_1)), (1, (.slice p0_2 b_.length c0_2)), (5, (nV i1_1))]) (fun i1_1 xs1_1 => []) [] rfl ?_ ?_))))))))
  ·
   repeat clear hm
   intro r0_1 hq0_1 i1_1 xs1_1 w hm hi0_1 hi0_2 q0_1 ho0_1
   refine gS (gS (gR (gM rfl (gM rfl (gY (yV st_37 rfl) (gB rfl (gE (go _ 14 rfl (decide_eq_true (by omega)) (gct rfl (gSk (gS (gBk (gS (gW (.p 0 (.p 1 (.p 2 (.p 4 (.p 5 (.p 6 (.q 3 (.e 7 (.p 8 .fin) .nil)))))))) [7] [0, 1, 2, 4, 5, 6, 8] hm [] [] rfl mxo (by kernel_rfl) (fun _ _ _ h => h.2) fun w hm hS => tP rfl (fun w => yM rfl) (tP rfl (fun w => yM rfl) (gg fun x1_1 h1_1 hx1_2 => ?_))))))))))))))))
   obtain ⟨b1_1, o1_1, c1_1, he⟩ := idx_form h1 hx1_2
   simp only [Value.slice.injEq, Option.some.injEq] at he; obtain ⟨rfl, _, rfl⟩ := he
   refine tP rfl (fun w => yI st_37 h1_1 (idx_lt hx1_2) rfl) (tP rfl (fun w => yM rfl) (tP rfl (fun w => yM rfl) (gg fun x1_2 h1_2 hx1_4 => ?_)))
   obtain ⟨b1_2, o1_2, c1_2, he⟩ := idx_form h2 hx1_4
   simp only [Value.slice.injEq, Option.some.injEq] at he; obtain ⟨rfl, _, rfl⟩ := he
   refine tP rfl (fun w => yI st_37 h1_2 (idx_lt hx1_4) rfl) (tQ rfl hS (fun w hm => yl isAgg3 ((flat_cells (cs := [(nV x1_1)]) (hm.now h1) hx1_2 rfl).cell (j := 0) rfl) rfl) (tO (tY rfl (yl isAgg3 ((flat_cells (cs := [(nV x1_2)]) (hm.now h2) hx1_4 rfl).cell (j := 0) rfl) rfl) (tAs hS (tP rfl (fun w => yB rfl) (tE (gsd 25 rfl (fun h1_3 => ?_) fun h1_3 => ?_)))))))
   ·
    exact gct rfl (gS (gR (gA rfl (gE (gRt (gLr ho0_1 hq0_1 (gr1 results26 rfl ⟨rfl, hm.below⟩)))))))
   exact gcf rfl (gSk (gR (gM rfl (gP (by omega) (by omega) rfl (gA rfl (gE (gze hm [] rfl)))))))
  repeat clear hm
  intro i0_1 xs0_1 w hm hi0_3 hi0_4
  exact gS (gS (gR (gM rfl (gM rfl (gY (yV st_37 rfl) (gB rfl (gE (go _ 14 rfl (decide_eq_false (by omega)) (gcf rfl (gXt (gHh (gS (gR (gA rfl (gE (gRt (gr1 results26 rfl ⟨rfl, hm.below⟩)))))))))))))))))

theorem laws_eqPhi_ok (w0 : World) (a_ : Phi_) (v1 : Value) (h1 : GT.rep (hp w0) [v1] a_.args) (b_ : Phi_) (v2 : Value) (h2 : GT.rep (hp w0) [v2] b_.args) :
    ConM Tryz.prog 306 [(.agg #[(nV a_.to), v1]), (.agg #[(nV b_.to), v2])] w0 (laws_eqPhi a_ b_) fun r v w' => v = (.bool (r)) ∧ Below w0.heap.size w0 w' := by
  unfold laws_eqPhi
  refine gcon func306 rfl fun r => ?_
  have hm := Mem.start w0
  refine gS (gR (gBx hm rfl fun b0_1 w hm => gBx hm rfl fun b0_2 w hm => gA rfl (gE (gS (gS (gR (gF fo_143_0 rfl (gL hm 1 isAgg3 rfl (gF fo_143_0 rfl (gL hm 0 isAgg3 rfl (gB rfl (gE (gsd 9 rfl (fun h0_1 => ?_) fun h0_1 => ?_)))))))))))))
  ·
   exact gct rfl (gS (gR (gA rfl (gE (gRt (gr1 results306 rfl ⟨rfl, hm.below⟩))))))
  refine gcf rfl (gSk (gS (gS (gR (gF fo_143_1 rfl (gL hm 1 isAgg37 rfl (gF fo_143_1 rfl (gL hm 0 isAgg37 rfl (gC hm rfl call26 (laws_eqIntS_ok _ a_.args v1 (hm.now h1) b_.args v2 (hm.now h2)) fun r0_1 hx0_1 w hm => gN rfl (gE (gsn 15 rfl (fun h0_2 => ?_) fun h0_2 => ?_)))))))))))
  ·
   exact gct rfl (gS (gR (gA rfl (gE (gRt (gr1 results306 rfl ⟨rfl, hm.below⟩))))))
  exact gcf rfl (gSk (gS (gR (gA rfl (gE (gRt (gr1 results306 rfl ⟨rfl, hm.below⟩)))))))

theorem laws_eqPhiS_ok (w0 : World) (a_ : List Phi_) (v1 : Value) (h1 : GT.rep (hp w0) [v1] a_) (b_ : List Phi_) (v2 : Value) (h2 : GT.rep (hp w0) [v2] b_) :
    ConM Tryz.prog 277 [v1, v2] w0 (laws_eqPhiS a_ b_) fun r v w' => v = (.bool (r)) ∧ Below w0.heap.size w0 w' := by
  unfold laws_eqPhiS
  refine gcon func277 rfl fun r => ?_
  have hm := Mem.start w0
  refine gS (gR (gA rfl (gE (gS (gS (gR (gM rfl ?_)))))))
  obtain ⟨p0_1, c0_1, rfl, hl0_1⟩ := ro_slice h1
  refine gY (yV st_101 rfl) (gM rfl ?_)
  obtain ⟨p0_2, c0_2, rfl, hl0_2⟩ := ro_slice h2
  refine gY (yV st_101 rfl) (gB rfl (gE (gsd 10 rfl (fun h0_1 => ?_) fun h0_1 => ?_)))
  ·
   exact gct rfl (gS (gR (gA rfl (gE (gRt (gr1 results277 rfl ⟨rfl, hm.below⟩))))))
  refine gcf rfl (gSk (gS (gS (gR (gA rfl (gE (gBk (gNf hm (fun i1_1 xs1_1 => [(0, (.slice p0_1 a_.length c0_1)), (1, (.slice p0_2 b_.length c0_2)), (5, (nV i1_1))]) (fun i1_1 xs1_1 => []) [] rfl ?_ ?_))))))))
  ·
   repeat clear hm
   intro r0_1 hq0_1 i1_1 xs1_1 w hm hi0_1 hi0_2 q0_1 ho0_1
   refine gS (gS (gR (gM rfl (gM rfl (gY (yV st_101 rfl) (gB rfl (gE (go _ 14 rfl (decide_eq_true (by omega)) (gct rfl (gSk (gS (gBk (gS (gW (.p 0 (.p 1 (.p 2 (.p 4 (.p 5 (.p 6 (.q 3 (.e 7 (.e 8 (.p 9 .fin) .nil) .nil)))))))) [7] [0, 1, 2, 4, 5, 6, 9] hm [] [] rfl mxo (by kernel_rfl) (fun _ _ _ h => h.2) fun w hm hS => tP rfl (fun w => yM rfl) (tP rfl (fun w => yM rfl) (gg fun x1_1 h1_1 hx1_2 => ?_))))))))))))))))
   obtain ⟨b1_1, o1_1, c1_1, he⟩ := idx_form' h1 hx1_2
   simp only [Value.slice.injEq, Option.some.injEq] at he; obtain ⟨rfl, _, rfl⟩ := he
   obtain ⟨v1_1, hc1_1, h1_2⟩ := rk_Phi_ h1 hx1_2
   refine tP rfl (fun w => yI st_101 h1_1 (idx_lt hx1_2) rfl) (tP rfl (fun w => yM rfl) (tP rfl (fun w => yM rfl) (gg fun x1_2 h1_3 hx1_4 => ?_)))
   obtain ⟨b1_2, o1_2, c1_2, he⟩ := idx_form' h2 hx1_4
   simp only [Value.slice.injEq, Option.some.injEq] at he; obtain ⟨rfl, _, rfl⟩ := he
   obtain ⟨v1_2, hc1_2, h1_4⟩ := rk_Phi_ h2 hx1_4
   refine tP rfl (fun w => yI st_101 h1_3 (idx_lt hx1_4) rfl) (tQ rfl hS (fun w hm => yn (hc1_1.mono hm.lez) isAgg143 sizeOf143 rfl) (tO (tY rfl (yn (hc1_2.mono hm.lez) isAgg143 sizeOf143 rfl) (tAs hS (tO (gb fun r1_1 hx1_5 => tf rfl rfl (fun a hf => e_call hf rfl call306 rfl (laws_eqPhi_ok _ x1_1 v1_1 (hm.now h1_2) x1_2 v1_2 (hm.now h1_4) _ hx1_5)) ?_))))))
   rintro v1_3 w ⟨rfl, hB⟩
   replace hm := hm.below' hB; clear hB
   refine tAn rfl (tP rfl (fun w => yN rfl) (tE (gsn 26 rfl (fun h1_5 => ?_) fun h1_5 => ?_)))
   ·
    exact gct rfl (gS (gR (gA rfl (gE (gRt (gLr ho0_1 hq0_1 (gr1 results277 rfl ⟨rfl, hm.below⟩)))))))
   exact gcf rfl (gSk (gR (gM rfl (gP (by omega) (by omega) rfl (gA rfl (gE (gze hm [] rfl)))))))
  repeat clear hm
  intro i0_1 xs0_1 w hm hi0_3 hi0_4
  exact gS (gS (gR (gM rfl (gM rfl (gY (yV st_101 rfl) (gB rfl (gE (go _ 14 rfl (decide_eq_false (by omega)) (gcf rfl (gXt (gHh (gS (gR (gA rfl (gE (gRt (gr1 results277 rfl ⟨rfl, hm.below⟩)))))))))))))))))

theorem laws_eqIns_ok (w0 : World) (a_ : Ins_) (v1 : Value) (h1 : GT.rep (hp w0) [v1] a_.args) (b_ : Ins_) (v2 : Value) (h2 : GT.rep (hp w0) [v2] b_.args) :
    ConM Tryz.prog 307 [(.agg #[(nV a_.op), (nV a_.to), v1, (nV a_.n_)]), (.agg #[(nV b_.op), (nV b_.to), v2, (nV b_.n_)])] w0 (laws_eqIns a_ b_) fun r v w' => v = (.bool (r)) ∧ Below w0.heap.size w0 w' := by
  unfold laws_eqIns
  refine gcon func307 rfl fun r => ?_
  have hm := Mem.start w0
  refine gS (gR (gBx hm rfl fun b0_1 w hm => gBx hm rfl fun b0_2 w hm => gA rfl (gE (gS (gS (gR (gF fo_106_0 rfl (gL hm 1 isAgg3 rfl (gF fo_106_0 rfl (gL hm 0 isAgg3 rfl (gB rfl (gE (gsd 9 rfl (fun h0_1 => ?_) fun h0_1 => ?_)))))))))))))
  ·
   exact gct rfl (gS (gR (gA rfl (gE (gRt (gr1 results307 rfl ⟨rfl, hm.below⟩))))))
  refine gcf rfl (gSk (gS (gS (gR (gF fo_106_1 rfl (gL hm 1 isAgg3 rfl (gF fo_106_1 rfl (gL hm 0 isAgg3 rfl (gB rfl (gE (gsd 14 rfl (fun h0_2 => ?_) fun h0_2 => ?_)))))))))))
  ·
   exact gct rfl (gS (gR (gA rfl (gE (gRt (gr1 results307 rfl ⟨rfl, hm.below⟩))))))
  refine gcf rfl (gSk (gS (gS (gR (gF fo_106_2 rfl (gL hm 1 isAgg37 rfl (gF fo_106_2 rfl (gL hm 0 isAgg37 rfl (gC hm rfl call26 (laws_eqIntS_ok _ a_.args v1 (hm.now h1) b_.args v2 (hm.now h2)) fun r0_1 hx0_1 w hm => gN rfl (gE (gsn 20 rfl (fun h0_3 => ?_) fun h0_3 => ?_)))))))))))
  ·
   exact gct rfl (gS (gR (gA rfl (gE (gRt (gr1 results307 rfl ⟨rfl, hm.below⟩))))))
  refine gcf rfl (gSk (gS (gS (gR (gF fo_106_3 rfl (gL hm 1 isAgg3 rfl (gF fo_106_3 rfl (gL hm 0 isAgg3 rfl (gB rfl (gE (gsd 25 rfl (fun h0_4 => ?_) fun h0_4 => ?_)))))))))))
  ·
   exact gct rfl (gS (gR (gA rfl (gE (gRt (gr1 results307 rfl ⟨rfl, hm.below⟩))))))
  exact gcf rfl (gSk (gS (gR (gA rfl (gE (gRt (gr1 results307 rfl ⟨rfl, hm.below⟩)))))))

theorem laws_eqInsS_ok (w0 : World) (a_ : List Ins_) (v1 : Value) (h1 : GT.rep (hp w0) [v1] a_) (b_ : List Ins_) (v2 : Value) (h2 : GT.rep (hp w0) [v2] b_) :
    ConM Tryz.prog 278 [v1, v2] w0 (laws_eqInsS a_ b_) fun r v w' => v = (.bool (r)) ∧ Below w0.heap.size w0 w' := by
  unfold laws_eqInsS
  refine gcon func278 rfl fun r => ?_
  have hm := Mem.start w0
  refine gS (gR (gA rfl (gE (gS (gS (gR (gM rfl ?_)))))))
  obtain ⟨p0_1, c0_1, rfl, hl0_1⟩ := ro_slice h1
  refine gY (yV st_102 rfl) (gM rfl ?_)
  obtain ⟨p0_2, c0_2, rfl, hl0_2⟩ := ro_slice h2
  refine gY (yV st_102 rfl) (gB rfl (gE (gsd 10 rfl (fun h0_1 => ?_) fun h0_1 => ?_)))
  ·
   exact gct rfl (gS (gR (gA rfl (gE (gRt (gr1 results278 rfl ⟨rfl, hm.below⟩))))))
  refine gcf rfl (gSk (gS (gS (gR (gA rfl (gE (gBk (gNf hm (fun i1_1 xs1_1 => [(0, (.slice p0_1 a_.length c0_1)), (1, (.slice p0_2 b_.length c0_2)), (5, (nV i1_1))]) (fun i1_1 xs1_1 => []) [] rfl ?_ ?_))))))))
  ·
   repeat clear hm
   intro r0_1 hq0_1 i1_1 xs1_1 w hm hi0_1 hi0_2 q0_1 ho0_1
   refine gS (gS (gR (gM rfl (gM rfl (gY (yV st_102 rfl) (gB rfl (gE (go _ 14 rfl (decide_eq_true (by omega)) (gct rfl (gSk (gS (gBk (gS (gW (.p 0 (.p 1 (.p 2 (.p 4 (.p 5 (.p 6 (.q 3 (.e 7 (.e 8 (.p 9 .fin) .nil) .nil)))))))) [7] [0, 1, 2, 4, 5, 6, 9] hm [] [] rfl mxo (by kernel_rfl) (fun _ _ _ h => h.2) fun w hm hS => tP rfl (fun w => yM rfl) (tP rfl (fun w => yM rfl) (gg fun x1_1 h1_1 hx1_2 => ?_))))))))))))))))
   obtain ⟨b1_1, o1_1, c1_1, he⟩ := idx_form' h1 hx1_2
   simp only [Value.slice.injEq, Option.some.injEq] at he; obtain ⟨rfl, _, rfl⟩ := he
   obtain ⟨v1_1, hc1_1, h1_2⟩ := rk_Ins_ h1 hx1_2
   refine tP rfl (fun w => yI st_102 h1_1 (idx_lt hx1_2) rfl) (tP rfl (fun w => yM rfl) (tP rfl (fun w => yM rfl) (gg fun x1_2 h1_3 hx1_4 => ?_)))
   obtain ⟨b1_2, o1_2, c1_2, he⟩ := idx_form' h2 hx1_4
   simp only [Value.slice.injEq, Option.some.injEq] at he; obtain ⟨rfl, _, rfl⟩ := he
   obtain ⟨v1_2, hc1_2, h1_4⟩ := rk_Ins_ h2 hx1_4
   refine tP rfl (fun w => yI st_102 h1_3 (idx_lt hx1_4) rfl) (tQ rfl hS (fun w hm => yn (hc1_1.mono hm.lez) isAgg106 sizeOf106 rfl) (tO (tY rfl (yn (hc1_2.mono hm.lez) isAgg106 sizeOf106 rfl) (tAs hS (tO (gb fun r1_1 hx1_5 => tf rfl rfl (fun a hf => e_call hf rfl call307 rfl (laws_eqIns_ok _ x1_1 v1_1 (hm.now h1_2) x1_2 v1_2 (hm.now h1_4) _ hx1_5)) ?_))))))
   rintro v1_3 w ⟨rfl, hB⟩
   replace hm := hm.below' hB; clear hB
   refine tAn rfl (tP rfl (fun w => yN rfl) (tE (gsn 26 rfl (fun h1_5 => ?_) fun h1_5 => ?_)))
   ·
    exact gct rfl (gS (gR (gA rfl (gE (gRt (gLr ho0_1 hq0_1 (gr1 results278 rfl ⟨rfl, hm.below⟩)))))))
   exact gcf rfl (gSk (gR (gM rfl (gP (by omega) (by omega) rfl (gA rfl (gE (gze hm [] rfl)))))))
  repeat clear hm
  intro i0_1 xs0_1 w hm hi0_3 hi0_4
  exact gS (gS (gR (gM rfl (gM rfl (gY (yV st_102 rfl) (gB rfl (gE (go _ 14 rfl (decide_eq_false (by omega)) (gcf rfl (gXt (gHh (gS (gR (gA rfl (gE (gRt (gr1 results278 rfl ⟨rfl, hm.below⟩)))))))))))))))))

theorem laws_eqBlock_ok (w0 : World) (a_ : Block_) (v1 : Value) (h1 : GT.rep (hp w0) [v1] a_.phis) (v2 : Value) (h2 : GT.rep (hp w0) [v2] a_.ins) (v3 : Value) (h3 : GT.rep (hp w0) [v3] a_.next_) (b_ : Block_) (v4 : Value) (h4 : GT.rep (hp w0) [v4] b_.phis) (v5 : Value) (h5 : GT.rep (hp w0) [v5] b_.ins) (v6 : Value) (h6 : GT.rep (hp w0) [v6] b_.next_) :
    ConM Tryz.prog 220 [(.agg #[v1, v2, (nV a_.jump), (nV a_.on), v3]), (.agg #[v4, v5, (nV b_.jump), (nV b_.on), v6])] w0 (laws_eqBlock a_ b_) fun r v w' => v = (.bool (r)) ∧ Below w0.heap.size w0 w' := by
  unfold laws_eqBlock
  refine gcon func220 rfl fun r => ?_
  have hm := Mem.start w0
  refine gS (gR (gBx hm rfl fun b0_1 w hm => gBx hm rfl fun b0_2 w hm => gA rfl (gE (gS (gS (gR (gF fo_104_0 rfl (gL hm 1 isAgg101 rfl (gF fo_104_0 rfl (gL hm 0 isAgg101 rfl (gC hm rfl call277 (laws_eqPhiS_ok _ a_.phis v1 (hm.now h1) b_.phis v4 (hm.now h4)) fun r0_1 hx0_1 w hm => gN rfl (gE (gsn 10 rfl (fun h0_1 => ?_) fun h0_1 => ?_)))))))))))))
  ·
   exact gct rfl (gS (gR (gA rfl (gE (gRt (gr1 results220 rfl ⟨rfl, hm.below⟩))))))
  refine gcf rfl (gSk (gS (gS (gR (gF fo_104_1 rfl (gL hm 1 isAgg102 rfl (gF fo_104_1 rfl (gL hm 0 isAgg102 rfl (gC hm rfl call278 (laws_eqInsS_ok _ a_.ins v2 (hm.now h2) b_.ins v5 (hm.now h5)) fun r0_2 hx0_2 w hm => gN rfl (gE (gsn 16 rfl (fun h0_2 => ?_) fun h0_2 => ?_)))))))))))
  ·
   exact gct rfl (gS (gR (gA rfl (gE (gRt (gr1 results220 rfl ⟨rfl, hm.below⟩))))))
  refine gcf rfl (gSk (gS (gS (gR (gF fo_104_2 rfl (gL hm 1 isAgg3 rfl (gF fo_104_2 rfl (gL hm 0 isAgg3 rfl (gB rfl (gE (gsd 21 rfl (fun h0_3 => ?_) fun h0_3 => ?_)))))))))))
  ·
   exact gct rfl (gS (gR (gA rfl (gE (gRt (gr1 results220 rfl ⟨rfl, hm.below⟩))))))
  refine gcf rfl (gSk (gS (gS (gR (gF fo_104_3 rfl (gL hm 1 isAgg3 rfl (gF fo_104_3 rfl (gL hm 0 isAgg3 rfl (gB rfl (gE (gsd 26 rfl (fun h0_4 => ?_) fun h0_4 => ?_)))))))))))
  ·
   exact gct rfl (gS (gR (gA rfl (gE (gRt (gr1 results220 rfl ⟨rfl, hm.below⟩))))))
  refine gcf rfl (gSk (gS (gS (gR (gF fo_104_4 rfl (gL hm 1 isAgg37 rfl (gF fo_104_4 rfl (gL hm 0 isAgg37 rfl (gC hm rfl call26 (laws_eqIntS_ok _ a_.next_ v3 (hm.now h3) b_.next_ v6 (hm.now h6)) fun r0_3 hx0_3 w hm => gN rfl (gE (gsn 32 rfl (fun h0_5 => ?_) fun h0_5 => ?_)))))))))))
  ·
   exact gct rfl (gS (gR (gA rfl (gE (gRt (gr1 results220 rfl ⟨rfl, hm.below⟩))))))
  exact gcf rfl (gSk (gS (gR (gA rfl (gE (gRt (gr1 results220 rfl ⟨rfl, hm.below⟩)))))))

theorem laws_eqBlockS_ok (w0 : World) (a_ : List Block_) (v1 : Value) (h1 : GT.rep (hp w0) [v1] a_) (b_ : List Block_) (v2 : Value) (h2 : GT.rep (hp w0) [v2] b_) :
    ConM Tryz.prog 148 [v1, v2] w0 (laws_eqBlockS a_ b_) fun r v w' => v = (.bool (r)) ∧ Below w0.heap.size w0 w' := by
  unfold laws_eqBlockS
  refine gcon func148 rfl fun r => ?_
  have hm := Mem.start w0
  refine gS (gR (gA rfl (gE (gS (gS (gR (gM rfl ?_)))))))
  obtain ⟨p0_1, c0_1, rfl, hl0_1⟩ := ro_slice h1
  refine gY (yV st_55 rfl) (gM rfl ?_)
  obtain ⟨p0_2, c0_2, rfl, hl0_2⟩ := ro_slice h2
  refine gY (yV st_55 rfl) (gB rfl (gE (gsd 10 rfl (fun h0_1 => ?_) fun h0_1 => ?_)))
  ·
   exact gct rfl (gS (gR (gA rfl (gE (gRt (gr1 results148 rfl ⟨rfl, hm.below⟩))))))
  refine gcf rfl (gSk (gS (gS (gR (gA rfl (gE (gBk (gNf hm (fun i1_1 xs1_1 => [(0, (.slice p0_1 a_.length c0_1)), (1, (.slice p0_2 b_.length c0_2)), (5, (nV i1_1))]) (fun i1_1 xs1_1 => []) [] rfl ?_ ?_))))))))
  ·
   repeat clear hm
   intro r0_1 hq0_1 i1_1 xs1_1 w hm hi0_1 hi0_2 q0_1 ho0_1
   refine gS (gS (gR (gM rfl (gM rfl (gY (yV st_55 rfl) (gB rfl (gE (go _ 14 rfl (decide_eq_true (by omega)) (gct rfl (gSk (gS (gBk (gS (gW (.p 0 (.p 1 (.p 2 (.p 4 (.p 5 (.p 6 (.q 3 (.e 7 (.e 8 (.p 9 .fin) .nil) .nil)))))))) [7] [0, 1, 2, 4, 5, 6, 9] hm [] [] rfl mxo (by kernel_rfl) (fun _ _ _ h => h.2) fun w hm hS => tP rfl (fun w => yM rfl) (tP rfl (fun w => yM rfl) (gg fun x1_1 h1_1 hx1_2 => ?_))))))))))))))))
   obtain ⟨b1_1, o1_1, c1_1, he⟩ := idx_form' h1 hx1_2
   simp only [Value.slice.injEq, Option.some.injEq] at he; obtain ⟨rfl, _, rfl⟩ := he
   obtain ⟨v1_1, v1_2, v1_3, hc1_1, h1_2, h1_3, h1_4⟩ := rk_Block_ h1 hx1_2
   refine tP rfl (fun w => yI st_55 h1_1 (idx_lt hx1_2) rfl) (tP rfl (fun w => yM rfl) (tP rfl (fun w => yM rfl) (gg fun x1_2 h1_5 hx1_4 => ?_)))
   obtain ⟨b1_2, o1_2, c1_2, he⟩ := idx_form' h2 hx1_4
   simp only [Value.slice.injEq, Option.some.injEq] at he; obtain ⟨rfl, _, rfl⟩ := he
   obtain ⟨v1_4, v1_5, v1_6, hc1_2, h1_6, h1_7, h1_8⟩ := rk_Block_ h2 hx1_4
   refine tP rfl (fun w => yI st_55 h1_5 (idx_lt hx1_4) rfl) (tQ rfl hS (fun w hm => yn (hc1_1.mono hm.lez) isAgg104 sizeOf104 rfl) (tO (tY rfl (yn (hc1_2.mono hm.lez) isAgg104 sizeOf104 rfl) (tAs hS (tO (gb fun r1_1 hx1_5 => tf rfl rfl (fun a hf => e_call hf rfl call220 rfl (laws_eqBlock_ok _ x1_1 v1_1 (hm.now h1_2) v1_2 (hm.now h1_3) v1_3 (hm.now h1_4) x1_2 v1_4 (hm.now h1_6) v1_5 (hm.now h1_7) v1_6 (hm.now h1_8) _ hx1_5)) ?_))))))
   rintro v1_7 w ⟨rfl, hB⟩
   replace hm := hm.below' hB; clear hB
   refine tAn rfl (tP rfl (fun w => yN rfl) (tE (gsn 26 rfl (fun h1_9 => ?_) fun h1_9 => ?_)))
   ·
    exact gct rfl (gS (gR (gA rfl (gE (gRt (gLr ho0_1 hq0_1 (gr1 results148 rfl ⟨rfl, hm.below⟩)))))))
   exact gcf rfl (gSk (gR (gM rfl (gP (by omega) (by omega) rfl (gA rfl (gE (gze hm [] rfl)))))))
  repeat clear hm
  intro i0_1 xs0_1 w hm hi0_3 hi0_4
  exact gS (gS (gR (gM rfl (gM rfl (gY (yV st_55 rfl) (gB rfl (gE (go _ 14 rfl (decide_eq_false (by omega)) (gcf rfl (gXt (gHh (gS (gR (gA rfl (gE (gRt (gr1 results148 rfl ⟨rfl, hm.below⟩)))))))))))))))))

theorem laws_eqCode_ok (w0 : World) (a_ : Code_) (v1 : Value) (h1 : GT.rep (hp w0) [v1] a_.blocks) (b_ : Code_) (v2 : Value) (h2 : GT.rep (hp w0) [v2] b_.blocks) :
    ConM Tryz.prog 101 [(.agg #[(nV a_.params), (nV a_.regs), v1]), (.agg #[(nV b_.params), (nV b_.regs), v2])] w0 (laws_eqCode a_ b_) fun r v w' => v = (.bool (r)) ∧ Below w0.heap.size w0 w' := by
  unfold laws_eqCode
  refine gcon func101 rfl fun r => ?_
  have hm := Mem.start w0
  refine gS (gR (gBx hm rfl fun b0_1 w hm => gBx hm rfl fun b0_2 w hm => gA rfl (gE (gS (gS (gR (gF fo_57_0 rfl (gL hm 1 isAgg3 rfl (gF fo_57_0 rfl (gL hm 0 isAgg3 rfl (gB rfl (gE (gsd 9 rfl (fun h0_1 => ?_) fun h0_1 => ?_)))))))))))))
  ·
   exact gct rfl (gS (gR (gA rfl (gE (gRt (gr1 results101 rfl ⟨rfl, hm.below⟩))))))
  refine gcf rfl (gSk (gS (gS (gR (gF fo_57_1 rfl (gL hm 1 isAgg3 rfl (gF fo_57_1 rfl (gL hm 0 isAgg3 rfl (gB rfl (gE (gsd 14 rfl (fun h0_2 => ?_) fun h0_2 => ?_)))))))))))
  ·
   exact gct rfl (gS (gR (gA rfl (gE (gRt (gr1 results101 rfl ⟨rfl, hm.below⟩))))))
  refine gcf rfl (gSk (gS (gS (gR (gF fo_57_2 rfl (gL hm 1 isAgg55 rfl (gF fo_57_2 rfl (gL hm 0 isAgg55 rfl (gC hm rfl call148 (laws_eqBlockS_ok _ a_.blocks v1 (hm.now h1) b_.blocks v2 (hm.now h2)) fun r0_1 hx0_1 w hm => gN rfl (gE (gsn 20 rfl (fun h0_3 => ?_) fun h0_3 => ?_)))))))))))
  ·
   exact gct rfl (gS (gR (gA rfl (gE (gRt (gr1 results101 rfl ⟨rfl, hm.below⟩))))))
  exact gcf rfl (gSk (gS (gR (gA rfl (gE (gRt (gr1 results101 rfl ⟨rfl, hm.below⟩)))))))

theorem laws_eqCodeS_ok (w0 : World) (a_ : List Code_) (v1 : Value) (h1 : GT.rep (hp w0) [v1] a_) (b_ : List Code_) (v2 : Value) (h2 : GT.rep (hp w0) [v2] b_) :
    ConM Tryz.prog 55 [v1, v2] w0 (laws_eqCodeS a_ b_) fun r v w' => v = (.bool (r)) ∧ Below w0.heap.size w0 w' := by
  unfold laws_eqCodeS
  refine gcon func55 rfl fun r => ?_
  have hm := Mem.start w0
  refine gS (gR (gA rfl (gE (gS (gS (gR (gM rfl ?_)))))))
  obtain ⟨p0_1, c0_1, rfl, hl0_1⟩ := ro_slice h1
  refine gY (yV st_28 rfl) (gM rfl ?_)
  obtain ⟨p0_2, c0_2, rfl, hl0_2⟩ := ro_slice h2
  refine gY (yV st_28 rfl) (gB rfl (gE (gsd 10 rfl (fun h0_1 => ?_) fun h0_1 => ?_)))
  ·
   exact gct rfl (gS (gR (gA rfl (gE (gRt (gr1 results55 rfl ⟨rfl, hm.below⟩))))))
  refine gcf rfl (gSk (gS (gS (gR (gA rfl (gE (gBk (gNf hm (fun i1_1 xs1_1 => [(0, (.slice p0_1 a_.length c0_1)), (1, (.slice p0_2 b_.length c0_2)), (5, (nV i1_1))]) (fun i1_1 xs1_1 => []) [] rfl ?_ ?_))))))))
  ·
   repeat clear hm
   intro r0_1 hq0_1 i1_1 xs1_1 w hm hi0_1 hi0_2 q0_1 ho0_1
   refine gS (gS (gR (gM rfl (gM rfl (gY (yV st_28 rfl) (gB rfl (gE (go _ 14 rfl (decide_eq_true (by omega)) (gct rfl (gSk (gS (gBk (gS (gW (.p 0 (.p 1 (.p 2 (.p 4 (.p 5 (.p 6 (.q 3 (.e 7 (.e 8 (.p 9 .fin) .nil) .nil)))))))) [7] [0, 1, 2, 4, 5, 6, 9] hm [] [] rfl mxo (by kernel_rfl) (fun _ _ _ h => h.2) fun w hm hS => tP rfl (fun w => yM rfl) (tP rfl (fun w => yM rfl) (gg fun x1_1 h1_1 hx1_2 => ?_))))))))))))))))
   obtain ⟨b1_1, o1_1, c1_1, he⟩ := idx_form' h1 hx1_2
   simp only [Value.slice.injEq, Option.some.injEq] at he; obtain ⟨rfl, _, rfl⟩ := he
   obtain ⟨v1_1, hc1_1, h1_2⟩ := rk_Code_ h1 hx1_2
   refine tP rfl (fun w => yI st_28 h1_1 (idx_lt hx1_2) rfl) (tP rfl (fun w => yM rfl) (tP rfl (fun w => yM rfl) (gg fun x1_2 h1_3 hx1_4 => ?_)))
   obtain ⟨b1_2, o1_2, c1_2, he⟩ := idx_form' h2 hx1_4
   simp only [Value.slice.injEq, Option.some.injEq] at he; obtain ⟨rfl, _, rfl⟩ := he
   obtain ⟨v1_2, hc1_2, h1_4⟩ := rk_Code_ h2 hx1_4
   refine tP rfl (fun w => yI st_28 h1_3 (idx_lt hx1_4) rfl) (tQ rfl hS (fun w hm => yn (hc1_1.mono hm.lez) isAgg57 sizeOf57 rfl) (tO (tY rfl (yn (hc1_2.mono hm.lez) isAgg57 sizeOf57 rfl) (tAs hS (tO (gb fun r1_1 hx1_5 => tf rfl rfl (fun a hf => e_call hf rfl call101 rfl (laws_eqCode_ok _ x1_1 v1_1 (hm.now h1_2) x1_2 v1_2 (hm.now h1_4) _ hx1_5)) ?_))))))
   rintro v1_3 w ⟨rfl, hB⟩
   replace hm := hm.below' hB; clear hB
   refine tAn rfl (tP rfl (fun w => yN rfl) (tE (gsn 26 rfl (fun h1_5 => ?_) fun h1_5 => ?_)))
   ·
    exact gct rfl (gS (gR (gA rfl (gE (gRt (gLr ho0_1 hq0_1 (gr1 results55 rfl ⟨rfl, hm.below⟩)))))))
   exact gcf rfl (gSk (gR (gM rfl (gP (by omega) (by omega) rfl (gA rfl (gE (gze hm [] rfl)))))))
  repeat clear hm
  intro i0_1 xs0_1 w hm hi0_3 hi0_4
  exact gS (gS (gR (gM rfl (gM rfl (gY (yV st_28 rfl) (gB rfl (gE (go _ 14 rfl (decide_eq_false (by omega)) (gcf rfl (gXt (gHh (gS (gR (gA rfl (gE (gRt (gr1 results55 rfl ⟨rfl, hm.below⟩)))))))))))))))))

theorem laws_eqUnit_ok (w0 : World) (a_ : Unit_) (v1 : Value) (h1 : GT.rep (hp w0) [v1] a_.codes) (b_ : Unit_) (v2 : Value) (h2 : GT.rep (hp w0) [v2] b_.codes) :
    ConM Tryz.prog 19 [(.agg #[v1]), (.agg #[v2])] w0 (laws_eqUnit a_ b_) fun r v w' => v = (.bool (r)) ∧ Below w0.heap.size w0 w' := by
  unfold laws_eqUnit
  refine gcon func19 rfl fun r => ?_
  have hm := Mem.start w0
  refine gS (gR (gBx hm rfl fun b0_1 w hm => gBx hm rfl fun b0_2 w hm => gA rfl (gE (gS (gS (gR (gF fo_30_0 rfl (gL hm 1 isAgg28 rfl (gF fo_30_0 rfl (gL hm 0 isAgg28 rfl (gC hm rfl call55 (laws_eqCodeS_ok _ a_.codes v1 (hm.now h1) b_.codes v2 (hm.now h2)) fun r0_1 hx0_1 w hm => gN rfl (gE (gsn 10 rfl (fun h0_1 => ?_) fun h0_1 => ?_)))))))))))))
  ·
   exact gct rfl (gS (gR (gA rfl (gE (gRt (gr1 results19 rfl ⟨rfl, hm.below⟩))))))
  exact gcf rfl (gSk (gS (gR (gA rfl (gE (gRt (gr1 results19 rfl ⟨rfl, hm.below⟩)))))))

theorem laws_markIntS_ok (w0 : World) (hz : Heap) (a_ : List Int) (v1 : Value) (k_ : Int) (hm0 : Mem w0 hz w0 [ow [v1] a_]) :
    ConM Tryz.prog 29 [v1, (nV k_)] w0 (laws_markIntS a_ k_) fun r v w' => v = (nV r.1) ∧ Mem w0 hz w' [ow [v1] r.2] := by
  unfold laws_markIntS
  refine gcon func29 rfl fun r => ?_
  have hm := hm0
  refine gS (gR (gA rfl (gE (gS (gS (gR (gA rfl (gE ?_))))))))
  obtain ⟨p0_1, c0_1, rfl, hl0_1⟩ := ro_slice (hm.ow_rep 0 rfl)
  refine gBk (gNf hm (fun i1_1 xs1_1 => [(0, (.slice p0_1 a_.length c0_1)), (1, (nV xs1_1.2)), (5, (nV i1_1))]) (fun i1_1 xs1_1 => [ow [(.slice p0_1 a_.length c0_1)] xs1_1.1]) [0] rfl ?_ ?_)
  ·
   repeat clear hm
   intro _ _ i1_1 xs1_1 w hm hi0_1 hi0_2 q0_1 _
   refine gS (gS (gR (gM rfl (gM rfl ?_))))
   have hl1_1 := rep_len (hm.ow_rep 0 rfl)
   refine gY (yV st_37 rfl) (gB rfl (gE (go _ 9 rfl (decide_eq_true (by omega)) (gct rfl (gSk (gS (gBk (gS (gR (gM rfl (gM rfl (gM rfl (gg fun x1_1 h1_1 hx1_2 => ?_)))))))))))))
   obtain ⟨b1_1, o1_1, c1_1, he⟩ := idx_form (hm.ow_rep 0 rfl) hx1_2
   simp only [Value.slice.injEq, Option.some.injEq] at he; obtain ⟨rfl, _, rfl⟩ := he
   have hL1_1 := rep_slice_len (hm.ow_rep 0 rfl)
   refine gI st_37 h1_1 (idx_lt2 hx1_2 hL1_1) rfl (gf0 rfl (fun a hf => e_setElem (x1 := xs1_1.2) (j := 0) (vs := [(nV xs1_1.2)]) 0 hf hm rfl hx1_2 rfl sizeOf3 rfl rfl rfl (one_cons rfl one_nil) rfl rfl) ?_)
   rintro _ w hm
   have hx1_3 := List.getElem?_set_self (a := xs1_1.2) (idx_lt hx1_2)
   exact gE (gR (gM rfl (gB rfl (gA rfl (gE (gR (gM rfl (gP (by omega) (by omega) rfl (gA rfl (gE (gze hm [0] rfl)))))))))))
  repeat clear hm
  intro i0_1 xs0_1 w hm hi0_3 hi0_4
  refine gS (gS (gR (gM rfl (gM rfl ?_))))
  have hl0_2 := rep_len (hm.ow_rep 0 rfl)
  exact gY (yV st_37 rfl) (gB rfl (gE (go _ 9 rfl (decide_eq_false (by omega)) (gcf rfl (gXt (gHh (gS (gR (gM rfl (gA rfl (gE (gRt (gr1 results29 rfl ⟨rfl, hm.pk [0] rfl rfl⟩)))))))))))))

theorem laws_markPhiS_ok (w0 : World) (hz : Heap) (a_ : List Phi_) (v1 : Value) (k_ : Int) (hm0 : Mem w0 hz w0 [ow [v1] a_]) :
    ConM Tryz.prog 149 [v1, (nV k_)] w0 (laws_markPhiS a_ k_) fun r v w' => v = (nV r.1) ∧ Mem w0 hz w' [ow [v1] r.2] := by
  unfold laws_markPhiS
  refine gcon func149 rfl fun r => ?_
  have hm := hm0
  refine gS (gR (gA rfl (gE (gS (gS (gR (gA rfl (gE ?_))))))))
  obtain ⟨p0_1, c0_1, rfl, hl0_1⟩ := ro_slice (hm.ow_rep 0 rfl)
  refine gBk (gNf hm (fun i1_1 xs1_1 => [(0, (.slice p0_1 a_.length c0_1)), (1, (nV xs1_1.2)), (5, (nV i1_1))]) (fun i1_1 xs1_1 => [ow [(.slice p0_1 a_.length c0_1)] xs1_1.1]) [0] rfl ?_ ?_)
  ·
   repeat clear hm
   intro _ _ i1_1 xs1_1 w hm hi0_1 hi0_2 q0_1 _
   refine gS (gS (gR (gM rfl (gM rfl ?_))))
   have hl1_1 := rep_len (hm.ow_rep 0 rfl)
   refine gY (yV st_101 rfl) (gB rfl (gE (go _ 9 rfl (decide_eq_true (by omega)) (gct rfl (gSk (gS (gBk (gS (gR (gM rfl (gM rfl (gM rfl (gg fun x1_1 h1_1 hx1_2 => ?_)))))))))))))
   obtain ⟨b1_1, o1_1, c1_1, he⟩ := idx_form' (hm.ow_rep 0 rfl) hx1_2
   simp only [Value.slice.injEq, Option.some.injEq] at he; obtain ⟨rfl, _, rfl⟩ := he
   obtain ⟨v1_1, hc1_1, h1_2⟩ := rk_Phi_ (hm.ow_rep 0 rfl) hx1_2
   have hL1_1 := rep_slice_len (hm.ow_rep 0 rfl)
   refine gI st_101 h1_1 (idx_lt2 hx1_2 hL1_1) rfl (gF fo_143_0 rfl (gf0 rfl (fun a hf => e_setElemR (x1 := ((⟨xs1_1.2, x1_1.args⟩ : Phi_) : Phi_)) (j := 0) (vs := [(nV xs1_1.2)]) 0 hf hm rfl hx1_2 hc1_1 rfl (fun F h ho => (fun _ => own_fst_map (α := Int) (β := (List Int)) (cs := [(nV x1_1.to)]) (cs' := [(nV xs1_1.2)]) (ds := [v1_1]) rfl (fun _ _ => Flat.own_iff.2 rfl)) F ho) rfl sizeOf3 rfl rfl rfl (one_cons rfl one_nil) rfl) ?_))
   rintro _ w hm
   have hx1_3 := List.getElem?_set_self (a := ((⟨xs1_1.2, x1_1.args⟩ : Phi_) : Phi_)) (idx_lt hx1_2)
   refine gE (gS (gR (gM rfl (gB rfl (gA rfl (gE (gR (gM rfl (gM rfl ?_)))))))))
   obtain ⟨_, _, hc1_2, hr1_1⟩ := ro_get' (hm.ow_rep 0 rfl) hx1_3
   obtain ⟨_, _, rfl, rfl, h1_3⟩ := hr1_1
   obtain ⟨v1_2, rfl, -⟩ := id h1_3
   replace h1_3 : GT.rep (hp _) [v1_2] x1_1.args := h1_3
   replace hc1_2 : CellsAt (hp _) b1_1 (o1_1 + (i1_1).toNat * 2) [(nV xs1_1.2), v1_2] := hc1_2
   have hL1_2 := rep_slice_len (hm.ow_rep 0 rfl)
   refine gI st_101 h1_1 (idx_lt2 hx1_3 hL1_2) rfl (gF fo_143_1 rfl (gY (yl isAgg37 (hc1_2.cell (j := 1) rfl) rfl) (gM rfl ?_)))
   replace hm : Mem w0 hz _ [ow [v1_2] x1_1.args, hole [(sV b1_1 o1_1 a_.length c0_1)] [v1_2] (fun (y : List Int) => ((xs1_1.1.set (i1_1).toNat (⟨xs1_1.2, x1_1.args⟩ : Phi_)) : List Phi_).set (i1_1).toNat (⟨xs1_1.2, y⟩ : Phi_))] := hm.open 0 rfl (foc_elem hx1_3 hc1_2 rfl (show FocH (α := Phi_) _ _ (⟨xs1_1.2, x1_1.args⟩ : Phi_) [v1_2] x1_1.args (fun y => (⟨xs1_1.2, y⟩ : Phi_)) from (foc_snd (α := Int) (β := (List Int)) (cs := [(nV xs1_1.2)]) (ds := [v1_2]) (v := [v1_2]) (inner := x1_1.args) (x := x1_1.args) (z := xs1_1.2) (put := fun (y : List Int) => y) rfl (foc_id [v1_2] x1_1.args))))
   obtain ⟨hz1_1, hle, hm1, hsub, hk1_1⟩ := hm.take2 (L1 := [ow [v1_2] x1_1.args]) (L2 := [hole [(sV b1_1 o1_1 a_.length c0_1)] [v1_2] (fun (y : List Int) => ((xs1_1.1.set (i1_1).toNat (⟨xs1_1.2, x1_1.args⟩ : Phi_)) : List Phi_).set (i1_1).toNat (⟨xs1_1.2, y⟩ : Phi_))]) [0] [1] (by decide) rfl rfl
   refine gCg rfl call29 (laws_markIntS_ok _ hz1_1 x1_1.args v1_2 (w64 (xs1_1.2 + 1)) hm1 ) ?_
   rintro r1_1 hx1_4 v1_3 w ⟨rfl, hB⟩
   replace hm := hk1_1 _ _ hB; clear hB
   replace hm := (hm.shut 1 0 (by decide) rfl rfl).pk (L' := [ow [(sV b1_1 o1_1 a_.length c0_1)] ((xs1_1.1.set (i1_1).toNat (⟨xs1_1.2, x1_1.args⟩ : Phi_)).set (i1_1).toNat (⟨xs1_1.2, r1_1.2⟩ : Phi_))]) [1] rfl rfl
   exact gA rfl (gE (gR (gM rfl (gP (by omega) (by omega) rfl (gA rfl (gE (gze hm [0] rfl)))))))
  repeat clear hm
  intro i0_1 xs0_1 w hm hi0_3 hi0_4
  refine gS (gS (gR (gM rfl (gM rfl ?_))))
  have hl0_2 := rep_len (hm.ow_rep 0 rfl)
  exact gY (yV st_101 rfl) (gB rfl (gE (go _ 9 rfl (decide_eq_false (by omega)) (gcf rfl (gXt (gHh (gS (gR (gM rfl (gA rfl (gE (gRt (gr1 results149 rfl ⟨rfl, hm.pk [0] rfl rfl⟩)))))))))))))

theorem laws_markInsS_ok (w0 : World) (hz : Heap) (a_ : List Ins_) (v1 : Value) (k_ : Int) (hm0 : Mem w0 hz w0 [ow [v1] a_]) :
    ConM Tryz.prog 150 [v1, (nV k_)] w0 (laws_markInsS a_ k_) fun r v w' => v = (nV r.1) ∧ Mem w0 hz w' [ow [v1] r.2] := by
  unfold laws_markInsS
  refine gcon func150 rfl fun r => ?_
  have hm := hm0
  refine gS (gR (gA rfl (gE (gS (gS (gR (gA rfl (gE ?_))))))))
  obtain ⟨p0_1, c0_1, rfl, hl0_1⟩ := ro_slice (hm.ow_rep 0 rfl)
  refine gBk (gNf hm (fun i1_1 xs1_1 => [(0, (.slice p0_1 a_.length c0_1)), (1, (nV xs1_1.2)), (5, (nV i1_1))]) (fun i1_1 xs1_1 => [ow [(.slice p0_1 a_.length c0_1)] xs1_1.1]) [0] rfl ?_ ?_)
  ·
   repeat clear hm
   intro _ _ i1_1 xs1_1 w hm hi0_1 hi0_2 q0_1 _
   refine gS (gS (gR (gM rfl (gM rfl ?_))))
   have hl1_1 := rep_len (hm.ow_rep 0 rfl)
   refine gY (yV st_102 rfl) (gB rfl (gE (go _ 9 rfl (decide_eq_true (by omega)) (gct rfl (gSk (gS (gBk (gS (gR (gM rfl (gM rfl (gM rfl (gg fun x1_1 h1_1 hx1_2 => ?_)))))))))))))
   obtain ⟨b1_1, o1_1, c1_1, he⟩ := idx_form' (hm.ow_rep 0 rfl) hx1_2
   simp only [Value.slice.injEq, Option.some.injEq] at he; obtain ⟨rfl, _, rfl⟩ := he
   obtain ⟨v1_1, hc1_1, h1_2⟩ := rk_Ins_ (hm.ow_rep 0 rfl) hx1_2
   have hL1_1 := rep_slice_len (hm.ow_rep 0 rfl)
   refine gI st_102 h1_1 (idx_lt2 hx1_2 hL1_1) rfl (gF fo_106_0 rfl (gf0 rfl (fun a hf => e_setElemR (x1 := ((⟨xs1_1.2, x1_1.to, x1_1.args, x1_1.n_⟩ : Ins_) : Ins_)) (j := 0) (vs := [(nV xs1_1.2)]) 0 hf hm rfl hx1_2 hc1_1 rfl (fun F h ho => (fun _ => own_fst_map (α := Int) (β := Int × (List Int) × Int) (cs := [(nV x1_1.op)]) (cs' := [(nV xs1_1.2)]) (ds := [(nV x1_1.to), v1_1, (nV x1_1.n_)]) rfl (fun _ _ => Flat.own_iff.2 rfl)) F ho) rfl sizeOf3 rfl rfl rfl (one_cons rfl one_nil) rfl) ?_))
   rintro _ w hm
   have hx1_3 := List.getElem?_set_self (a := ((⟨xs1_1.2, x1_1.to, x1_1.args, x1_1.n_⟩ : Ins_) : Ins_)) (idx_lt hx1_2)
   refine gE (gS (gR (gM rfl (gB rfl (gA rfl (gE (gS (gR (gM rfl (gM rfl (gM rfl ?_)))))))))))
   obtain ⟨_, _, hc1_2, hr1_1⟩ := ro_get' (hm.ow_rep 0 rfl) hx1_3
   obtain ⟨_, _, rfl, rfl, _, _, rfl, rfl, _, _, rfl, h1_3, rfl⟩ := hr1_1
   obtain ⟨v1_2, rfl, -⟩ := id h1_3
   replace h1_3 : GT.rep (hp _) [v1_2] x1_1.args := h1_3
   replace hc1_2 : CellsAt (hp _) b1_1 (o1_1 + (i1_1).toNat * 4) [(nV xs1_1.2), (nV x1_1.to), v1_2, (nV x1_1.n_)] := hc1_2
   have hL1_2 := rep_slice_len (hm.ow_rep 0 rfl)
   refine gI st_102 h1_1 (idx_lt2 hx1_3 hL1_2) rfl (gF fo_106_1 rfl (gf0 rfl (fun a hf => e_setElemR (x1 := ((⟨xs1_1.2, w64 (xs1_1.2 + 1), x1_1.args, x1_1.n_⟩ : Ins_) : Ins_)) (j := 1) (vs := [(nV (w64 (xs1_1.2 + 1)))]) 0 hf hm rfl hx1_3 hc1_2 rfl (fun F h ho => (fun _ => own_snd_map (α := Int) (β := Int × (List Int) × Int) (cs := [(nV xs1_1.2)]) (ds := [(nV x1_1.to), v1_2, (nV x1_1.n_)]) (ds' := [(nV (w64 (xs1_1.2 + 1))), v1_2, (nV x1_1.n_)]) rfl (fun _ => own_fst_map (α := Int) (β := (List Int) × Int) (cs := [(nV x1_1.to)]) (cs' := [(nV (w64 (xs1_1.2 + 1)))]) (ds := [v1_2, (nV x1_1.n_)]) rfl (fun _ _ => Flat.own_iff.2 rfl))) F ho) rfl sizeOf3 rfl rfl rfl (one_cons rfl one_nil) rfl) ?_))
   rintro _ w hm
   have hx1_4 := List.getElem?_set_self (a := ((⟨xs1_1.2, w64 (xs1_1.2 + 1), x1_1.args, x1_1.n_⟩ : Ins_) : Ins_)) (idx_lt hx1_3)
   refine gE (gS (gR (gM rfl (gB rfl (gA rfl (gE (gS (gR (gM rfl (gM rfl ?_))))))))))
   obtain ⟨_, _, hc1_3, hr1_2⟩ := ro_get' (hm.ow_rep 0 rfl) hx1_4
   obtain ⟨_, _, rfl, rfl, _, _, rfl, rfl, _, _, rfl, h1_4, rfl⟩ := hr1_2
   obtain ⟨v1_3, rfl, -⟩ := id h1_4
   replace h1_4 : GT.rep (hp _) [v1_3] x1_1.args := h1_4
   replace hc1_3 : CellsAt (hp _) b1_1 (o1_1 + (i1_1).toNat * 4) [(nV xs1_1.2), (nV (w64 (xs1_1.2 + 1))), v1_3, (nV x1_1.n_)] := hc1_3
   have hL1_3 := rep_slice_len (hm.ow_rep 0 rfl)
   refine gI st_102 h1_1 (idx_lt2 hx1_4 hL1_3) rfl (gF fo_106_2 rfl (gY (yl isAgg37 (hc1_3.cell (j := 2) rfl) rfl) (gM rfl ?_)))
   replace hm : Mem w0 hz _ [ow [v1_3] x1_1.args, hole [(sV b1_1 o1_1 a_.length c0_1)] [v1_3] (fun (y : List Int) => (((xs1_1.1.set (i1_1).toNat (⟨xs1_1.2, x1_1.to, x1_1.args, x1_1.n_⟩ : Ins_)).set (i1_1).toNat (⟨xs1_1.2, w64 (xs1_1.2 + 1), x1_1.args, x1_1.n_⟩ : Ins_)) : List Ins_).set (i1_1).toNat (⟨xs1_1.2, w64 (xs1_1.2 + 1), y, x1_1.n_⟩ : Ins_))] := hm.open 0 rfl (foc_elem hx1_4 hc1_3 rfl (show FocH (α := Ins_) _ _ (⟨xs1_1.2, w64 (xs1_1.2 + 1), x1_1.args, x1_1.n_⟩ : Ins_) [v1_3] x1_1.args (fun y => (⟨xs1_1.2, w64 (xs1_1.2 + 1), y, x1_1.n_⟩ : Ins_)) from (foc_snd (α := Int) (β := Int × (List Int) × Int) (cs := [(nV xs1_1.2)]) (ds := [(nV (w64 (xs1_1.2 + 1))), v1_3, (nV x1_1.n_)]) (v := [v1_3]) (inner := x1_1.args) (x := (w64 (xs1_1.2 + 1), x1_1.args, x1_1.n_)) (z := xs1_1.2) (put := fun (y : List Int) => (w64 (xs1_1.2 + 1), y, x1_1.n_)) rfl (foc_snd (α := Int) (β := (List Int) × Int) (cs := [(nV (w64 (xs1_1.2 + 1)))]) (ds := [v1_3, (nV x1_1.n_)]) (v := [v1_3]) (inner := x1_1.args) (x := (x1_1.args, x1_1.n_)) (z := w64 (xs1_1.2 + 1)) (put := fun (y : List Int) => (y, x1_1.n_)) rfl (foc_fst (α := List Int) (β := Int) (cs := [v1_3]) (ds := [(nV x1_1.n_)]) (v := [v1_3]) (inner := x1_1.args) (x := x1_1.args) (z := x1_1.n_) (put := fun (y : List Int) => y) rfl (foc_id [v1_3] x1_1.args))))))
   obtain ⟨hz1_1, hle, hm1, hsub, hk1_1⟩ := hm.take2 (L1 := [ow [v1_3] x1_1.args]) (L2 := [hole [(sV b1_1 o1_1 a_.length c0_1)] [v1_3] (fun (y : List Int) => (((xs1_1.1.set (i1_1).toNat (⟨xs1_1.2, x1_1.to, x1_1.args, x1_1.n_⟩ : Ins_)).set (i1_1).toNat (⟨xs1_1.2, w64 (xs1_1.2 + 1), x1_1.args, x1_1.n_⟩ : Ins_)) : List Ins_).set (i1_1).toNat (⟨xs1_1.2, w64 (xs1_1.2 + 1), y, x1_1.n_⟩ : Ins_))]) [0] [1] (by decide) rfl rfl
   refine gCg rfl call29 (laws_markIntS_ok _ hz1_1 x1_1.args v1_3 (w64 ((w64 (xs1_1.2 + 1)) + 1)) hm1 ) ?_
   rintro r1_1 hx1_5 v1_4 w ⟨rfl, hB⟩
   replace hm := hk1_1 _ _ hB; clear hB
   replace hm := (hm.shut 1 0 (by decide) rfl rfl).pk (L' := [ow [(sV b1_1 o1_1 a_.length c0_1)] (((xs1_1.1.set (i1_1).toNat (⟨xs1_1.2, x1_1.to, x1_1.args, x1_1.n_⟩ : Ins_)).set (i1_1).toNat (⟨xs1_1.2, w64 (xs1_1.2 + 1), x1_1.args, x1_1.n_⟩ : Ins_)).set (i1_1).toNat (⟨xs1_1.2, w64 (xs1_1.2 + 1), r1_1.2, x1_1.n_⟩ : Ins_))]) [1] rfl rfl
   refine gA rfl (gE (gS (gR (gM rfl (gM rfl (gM rfl (gg fun x1_2 h1_5 hx1_7 => ?_)))))))
   obtain ⟨v1_5, hc1_4, h1_6⟩ := rk_Ins_ (hm.ow_rep 0 rfl) hx1_7
   have hL1_4 := rep_slice_len (hm.ow_rep 0 rfl)
   refine gI st_102 h1_5 (idx_lt2 hx1_7 hL1_4) rfl (gF fo_106_3 rfl (gf0 rfl (fun a hf => e_setElemR (x1 := ((⟨x1_2.op, x1_2.to, x1_2.args, r1_1.1⟩ : Ins_) : Ins_)) (j := 3) (vs := [(nV r1_1.1)]) 0 hf hm rfl hx1_7 hc1_4 rfl (fun F h ho => (fun _ => own_snd_map (α := Int) (β := Int × (List Int) × Int) (cs := [(nV x1_2.op)]) (ds := [(nV x1_2.to), v1_5, (nV x1_2.n_)]) (ds' := [(nV x1_2.to), v1_5, (nV r1_1.1)]) rfl (fun _ => own_snd_map (α := Int) (β := (List Int) × Int) (cs := [(nV x1_2.to)]) (ds := [v1_5, (nV x1_2.n_)]) (ds' := [v1_5, (nV r1_1.1)]) rfl (fun _ => own_snd_map (α := List Int) (β := Int) (cs := [v1_5]) (ds := [(nV x1_2.n_)]) (ds' := [(nV r1_1.1)]) rfl (fun _ _ => Flat.own_iff.2 rfl)))) F ho) rfl sizeOf3 rfl rfl rfl (one_cons rfl one_nil) rfl) ?_))
   rintro _ w hm
   have hx1_8 := List.getElem?_set_self (a := ((⟨x1_2.op, x1_2.to, x1_2.args, r1_1.1⟩ : Ins_) : Ins_)) (idx_lt hx1_7)
   exact gE (gR (gM rfl (gB rfl (gA rfl (gE (gR (gM rfl (gP (by omega) (by omega) rfl (gA rfl (gE (gze hm [0] rfl)))))))))))
  repeat clear hm
  intro i0_1 xs0_1 w hm hi0_3 hi0_4
  refine gS (gS (gR (gM rfl (gM rfl ?_))))
  have hl0_2 := rep_len (hm.ow_rep 0 rfl)
  exact gY (yV st_102 rfl) (gB rfl (gE (go _ 9 rfl (decide_eq_false (by omega)) (gcf rfl (gXt (gHh (gS (gR (gM rfl (gA rfl (gE (gRt (gr1 results150 rfl ⟨rfl, hm.pk [0] rfl rfl⟩)))))))))))))

theorem laws_markBlockS_ok (w0 : World) (hz : Heap) (a_ : List Block_) (v1 : Value) (k_ : Int) (hm0 : Mem w0 hz w0 [ow [v1] a_]) :
    ConM Tryz.prog 102 [v1, (nV k_)] w0 (laws_markBlockS a_ k_) fun r v w' => v = (nV r.1) ∧ Mem w0 hz w' [ow [v1] r.2] := by
  unfold laws_markBlockS
  refine gcon func102 rfl fun r => ?_
  have hm := hm0
  refine gS (gR (gA rfl (gE (gS (gS (gR (gA rfl (gE ?_))))))))
  obtain ⟨p0_1, c0_1, rfl, hl0_1⟩ := ro_slice (hm.ow_rep 0 rfl)
  refine gBk (gNf hm (fun i1_1 xs1_1 => [(0, (.slice p0_1 a_.length c0_1)), (1, (nV xs1_1.2)), (5, (nV i1_1))]) (fun i1_1 xs1_1 => [ow [(.slice p0_1 a_.length c0_1)] xs1_1.1]) [0] rfl ?_ ?_)
  ·
   repeat clear hm
   intro _ _ i1_1 xs1_1 w hm hi0_1 hi0_2 q0_1 _
   refine gS (gS (gR (gM rfl (gM rfl ?_))))
   have hl1_1 := rep_len (hm.ow_rep 0 rfl)
   refine gY (yV st_55 rfl) (gB rfl (gE (go _ 9 rfl (decide_eq_true (by omega)) (gct rfl (gSk (gS (gBk (gS (gR (gM rfl (gM rfl (gg fun x1_1 h1_1 hx1_2 => ?_))))))))))))
   obtain ⟨b1_1, o1_1, c1_1, he⟩ := idx_form' (hm.ow_rep 0 rfl) hx1_2
   simp only [Value.slice.injEq, Option.some.injEq] at he; obtain ⟨rfl, _, rfl⟩ := he
   obtain ⟨v1_1, v1_2, v1_3, hc1_1, h1_2, h1_3, h1_4⟩ := rk_Block_ (hm.ow_rep 0 rfl) hx1_2
   have hL1_1 := rep_slice_len (hm.ow_rep 0 rfl)
   refine gI st_55 h1_1 (idx_lt2 hx1_2 hL1_1) rfl (gF fo_104_0 rfl (gY (yl isAgg101 (hc1_1.cell (j := 0) rfl) rfl) (gM rfl ?_)))
   replace hm : Mem w0 hz _ [ow [v1_1] x1_1.phis, hole [(sV b1_1 o1_1 a_.length c0_1)] [v1_1] (fun (y : List Phi_) => (xs1_1.1 : List Block_).set (i1_1).toNat (⟨y, x1_1.ins, x1_1.jump, x1_1.on, x1_1.next_⟩ : Block_))] := hm.open 0 rfl (foc_elem hx1_2 hc1_1 rfl (show FocH (α := Block_) _ _ x1_1 [v1_1] x1_1.phis (fun y => (⟨y, x1_1.ins, x1_1.jump, x1_1.on, x1_1.next_⟩ : Block_)) from (foc_fst (α := List Phi_) (β := (List Ins_) × Int × Int × (List Int)) (cs := [v1_1]) (ds := [v1_2, (nV x1_1.jump), (nV x1_1.on), v1_3]) (v := [v1_1]) (inner := x1_1.phis) (x := x1_1.phis) (z := (x1_1.ins, x1_1.jump, x1_1.on, x1_1.next_)) (put := fun (y : List Phi_) => y) rfl (foc_id [v1_1] x1_1.phis))))
   obtain ⟨hz1_1, hle, hm1, hsub, hk1_1⟩ := hm.take2 (L1 := [ow [v1_1] x1_1.phis]) (L2 := [hole [(sV b1_1 o1_1 a_.length c0_1)] [v1_1] (fun (y : List Phi_) => (xs1_1.1 : List Block_).set (i1_1).toNat (⟨y, x1_1.ins, x1_1.jump, x1_1.on, x1_1.next_⟩ : Block_))]) [0] [1] (by decide) rfl rfl
   refine gCg rfl call149 (laws_markPhiS_ok _ hz1_1 x1_1.phis v1_1 xs1_1.2 hm1 ) ?_
   rintro r1_1 hx1_3 v1_4 w ⟨rfl, hB⟩
   replace hm := hk1_1 _ _ hB; clear hB
   replace hm := (hm.shut 1 0 (by decide) rfl rfl).pk (L' := [ow [(sV b1_1 o1_1 a_.length c0_1)] (xs1_1.1.set (i1_1).toNat (⟨r1_1.2, x1_1.ins, x1_1.jump, x1_1.on, x1_1.next_⟩ : Block_))]) [1] rfl rfl
   refine gA rfl (gE (gS (gR (gM rfl (gM rfl (gg fun x1_2 h1_5 hx1_5 => ?_))))))
   obtain ⟨v1_5, v1_6, v1_7, hc1_2, h1_6, h1_7, h1_8⟩ := rk_Block_ (hm.ow_rep 0 rfl) hx1_5
   have hL1_2 := rep_slice_len (hm.ow_rep 0 rfl)
   refine gI st_55 h1_5 (idx_lt2 hx1_5 hL1_2) rfl (gF fo_104_1 rfl (gY (yl isAgg102 (hc1_2.cell (j := 1) rfl) rfl) (gM rfl ?_)))
   replace hm : Mem w0 hz _ [ow [v1_6] x1_2.ins, hole [(sV b1_1 o1_1 a_.length c0_1)] [v1_6] (fun (y : List Ins_) => ((xs1_1.1.set (i1_1).toNat (⟨r1_1.2, x1_1.ins, x1_1.jump, x1_1.on, x1_1.next_⟩ : Block_)) : List Block_).set (i1_1).toNat (⟨x1_2.phis, y, x1_2.jump, x1_2.on, x1_2.next_⟩ : Block_))] := hm.open 0 rfl (foc_elem hx1_5 hc1_2 rfl (show FocH (α := Block_) _ _ x1_2 [v1_6] x1_2.ins (fun y => (⟨x1_2.phis, y, x1_2.jump, x1_2.on, x1_2.next_⟩ : Block_)) from (foc_snd (α := List Phi_) (β := (List Ins_) × Int × Int × (List Int)) (cs := [v1_5]) (ds := [v1_6, (nV x1_2.jump), (nV x1_2.on), v1_7]) (v := [v1_6]) (inner := x1_2.ins) (x := (x1_2.ins, x1_2.jump, x1_2.on, x1_2.next_)) (z := x1_2.phis) (put := fun (y : List Ins_) => (y, x1_2.jump, x1_2.on, x1_2.next_)) rfl (foc_fst (α := List Ins_) (β := Int × Int × (List Int)) (cs := [v1_6]) (ds := [(nV x1_2.jump), (nV x1_2.on), v1_7]) (v := [v1_6]) (inner := x1_2.ins) (x := x1_2.ins) (z := (x1_2.jump, x1_2.on, x1_2.next_)) (put := fun (y : List Ins_) => y) rfl (foc_id [v1_6] x1_2.ins)))))
   obtain ⟨hz1_3, hle, hm1, hsub, hk1_2⟩ := hm.take2 (L1 := [ow [v1_6] x1_2.ins]) (L2 := [hole [(sV b1_1 o1_1 a_.length c0_1)] [v1_6] (fun (y : List Ins_) => ((xs1_1.1.set (i1_1).toNat (⟨r1_1.2, x1_1.ins, x1_1.jump, x1_1.on, x1_1.next_⟩ : Block_)) : List Block_).set (i1_1).toNat (⟨x1_2.phis, y, x1_2.jump, x1_2.on, x1_2.next_⟩ : Block_))]) [0] [1] (by decide) rfl rfl
   refine gCg rfl call150 (laws_markInsS_ok _ hz1_3 x1_2.ins v1_6 r1_1.1 hm1 ) ?_
   rintro r1_2 hx1_6 v1_8 w ⟨rfl, hB⟩
   replace hm := hk1_2 _ _ hB; clear hB
   replace hm := (hm.shut 1 0 (by decide) rfl rfl).pk (L' := [ow [(sV b1_1 o1_1 a_.length c0_1)] ((xs1_1.1.set (i1_1).toNat (⟨r1_1.2, x1_1.ins, x1_1.jump, x1_1.on, x1_1.next_⟩ : Block_)).set (i1_1).toNat (⟨x1_2.phis, r1_2.2, x1_2.jump, x1_2.on, x1_2.next_⟩ : Block_))]) [1] rfl rfl
   refine gA rfl (gE (gS (gR (gM rfl (gM rfl (gM rfl (gg fun x1_3 h1_9 hx1_8 => ?_)))))))
   obtain ⟨v1_9, v1_10, v1_11, hc1_3, h1_10, h1_11, h1_12⟩ := rk_Block_ (hm.ow_rep 0 rfl) hx1_8
   have hL1_3 := rep_slice_len (hm.ow_rep 0 rfl)
   refine gI st_55 h1_9 (idx_lt2 hx1_8 hL1_3) rfl (gF fo_104_2 rfl (gf0 rfl (fun a hf => e_setElemR (x1 := ((⟨x1_3.phis, x1_3.ins, r1_2.1, x1_3.on, x1_3.next_⟩ : Block_) : Block_)) (j := 2) (vs := [(nV r1_2.1)]) 0 hf hm rfl hx1_8 hc1_3 rfl (fun F h ho => (fun _ => own_snd_map (α := List Phi_) (β := (List Ins_) × Int × Int × (List Int)) (cs := [v1_9]) (ds := [v1_10, (nV x1_3.jump), (nV x1_3.on), v1_11]) (ds' := [v1_10, (nV r1_2.1), (nV x1_3.on), v1_11]) rfl (fun _ => own_snd_map (α := List Ins_) (β := Int × Int × (List Int)) (cs := [v1_10]) (ds := [(nV x1_3.jump), (nV x1_3.on), v1_11]) (ds' := [(nV r1_2.1), (nV x1_3.on), v1_11]) rfl (fun _ => own_fst_map (α := Int) (β := Int × (List Int)) (cs := [(nV x1_3.jump)]) (cs' := [(nV r1_2.1)]) (ds := [(nV x1_3.on), v1_11]) rfl (fun _ _ => Flat.own_iff.2 rfl)))) F ho) rfl sizeOf3 rfl rfl rfl (one_cons rfl one_nil) rfl) ?_))
   rintro _ w hm
   have hx1_9 := List.getElem?_set_self (a := ((⟨x1_3.phis, x1_3.ins, r1_2.1, x1_3.on, x1_3.next_⟩ : Block_) : Block_)) (idx_lt hx1_8)
   refine gE (gS (gR (gM rfl (gB rfl (gA rfl (gE (gS (gR (gM rfl (gM rfl (gM rfl ?_)))))))))))
   obtain ⟨_, _, hc1_4, hr1_1⟩ := ro_get' (hm.ow_rep 0 rfl) hx1_9
   obtain ⟨_, _, rfl, h1_13, _, _, rfl, h1_14, _, _, rfl, rfl, _, _, rfl, rfl, h1_15⟩ := hr1_1
   obtain ⟨v1_12, rfl, -⟩ := id h1_13
   replace h1_13 : GT.rep (hp _) [v1_12] x1_3.phis := h1_13
   obtain ⟨v1_13, rfl, -⟩ := id h1_14
   replace h1_14 : GT.rep (hp _) [v1_13] x1_3.ins := h1_14
   obtain ⟨v1_14, rfl, -⟩ := id h1_15
   replace h1_15 : GT.rep (hp _) [v1_14] x1_3.next_ := h1_15
   replace hc1_4 : CellsAt (hp _) b1_1 (o1_1 + (i1_1).toNat * 5) [v1_12, v1_13, (nV r1_2.1), (nV x1_3.on), v1_14] := hc1_4
   have hL1_4 := rep_slice_len (hm.ow_rep 0 rfl)
   refine gI st_55 h1_9 (idx_lt2 hx1_9 hL1_4) rfl (gF fo_104_3 rfl (gf0 rfl (fun a hf => e_setElemR (x1 := ((⟨x1_3.phis, x1_3.ins, r1_2.1, w64 (r1_2.1 + 1), x1_3.next_⟩ : Block_) : Block_)) (j := 3) (vs := [(nV (w64 (r1_2.1 + 1)))]) 0 hf hm rfl hx1_9 hc1_4 rfl (fun F h ho => (fun _ => own_snd_map (α := List Phi_) (β := (List Ins_) × Int × Int × (List Int)) (cs := [v1_12]) (ds := [v1_13, (nV r1_2.1), (nV x1_3.on), v1_14]) (ds' := [v1_13, (nV r1_2.1), (nV (w64 (r1_2.1 + 1))), v1_14]) rfl (fun _ => own_snd_map (α := List Ins_) (β := Int × Int × (List Int)) (cs := [v1_13]) (ds := [(nV r1_2.1), (nV x1_3.on), v1_14]) (ds' := [(nV r1_2.1), (nV (w64 (r1_2.1 + 1))), v1_14]) rfl (fun _ => own_snd_map (α := Int) (β := Int × (List Int)) (cs := [(nV r1_2.1)]) (ds := [(nV x1_3.on), v1_14]) (ds' := [(nV (w64 (r1_2.1 + 1))), v1_14]) rfl (fun _ => own_fst_map (α := Int) (β := (List Int)) (cs := [(nV x1_3.on)]) (cs' := [(nV (w64 (r1_2.1 + 1)))]) (ds := [v1_14]) rfl (fun _ _ => Flat.own_iff.2 rfl))))) F ho) rfl sizeOf3 rfl rfl rfl (one_cons rfl one_nil) rfl) ?_))
   rintro _ w hm
   have hx1_10 := List.getElem?_set_self (a := ((⟨x1_3.phis, x1_3.ins, r1_2.1, w64 (r1_2.1 + 1), x1_3.next_⟩ : Block_) : Block_)) (idx_lt hx1_9)
   refine gE (gS (gR (gM rfl (gB rfl (gA rfl (gE (gR (gM rfl (gM rfl ?_)))))))))
   obtain ⟨_, _, hc1_5, hr1_2⟩ := ro_get' (hm.ow_rep 0 rfl) hx1_10
   obtain ⟨_, _, rfl, h1_16, _, _, rfl, h1_17, _, _, rfl, rfl, _, _, rfl, rfl, h1_18⟩ := hr1_2
   obtain ⟨v1_15, rfl, -⟩ := id h1_16
   replace h1_16 : GT.rep (hp _) [v1_15] x1_3.phis := h1_16
   obtain ⟨v1_16, rfl, -⟩ := id h1_17
   replace h1_17 : GT.rep (hp _) [v1_16] x1_3.ins := h1_17
   obtain ⟨v1_17, rfl, -⟩ := id h1_18
   replace h1_18 : GT.rep (hp _) [v1_17] x1_3.next_ := h1_18
   replace hc1_5 : CellsAt (hp _) b1_1 (o1_1 + (i1_1).toNat * 5) [v1_15, v1_16, (nV r1_2.1), (nV (w64 (r1_2.1 + 1))), v1_17] := hc1_5
   have hL1_5 := rep_slice_len (hm.ow_rep 0 rfl)
   refine gI st_55 h1_9 (idx_lt2 hx1_10 hL1_5) rfl (gF fo_104_4 rfl (gY (yl isAgg37 (hc1_5.cell (j := 4) rfl) rfl) (gM rfl ?_)))
   replace hm : Mem w0 hz _ [ow [v1_17] x1_3.next_, hole [(sV b1_1 o1_1 a_.length c0_1)] [v1_17] (fun (y : List Int) => (((((xs1_1.1.set (i1_1).toNat (⟨r1_1.2, x1_1.ins, x1_1.jump, x1_1.on, x1_1.next_⟩ : Block_)).set (i1_1).toNat (⟨x1_2.phis, r1_2.2, x1_2.jump, x1_2.on, x1_2.next_⟩ : Block_)).set (i1_1).toNat (⟨x1_3.phis, x1_3.ins, r1_2.1, x1_3.on, x1_3.next_⟩ : Block_)).set (i1_1).toNat (⟨x1_3.phis, x1_3.ins, r1_2.1, w64 (r1_2.1 + 1), x1_3.next_⟩ : Block_)) : List Block_).set (i1_1).toNat (⟨x1_3.phis, x1_3.ins, r1_2.1, w64 (r1_2.1 + 1), y⟩ : Block_))] := hm.open 0 rfl (foc_elem hx1_10 hc1_5 rfl (show FocH (α := Block_) _ _ (⟨x1_3.phis, x1_3.ins, r1_2.1, w64 (r1_2.1 + 1), x1_3.next_⟩ : Block_) [v1_17] x1_3.next_ (fun y => (⟨x1_3.phis, x1_3.ins, r1_2.1, w64 (r1_2.1 + 1), y⟩ : Block_)) from (foc_snd (α := List Phi_) (β := (List Ins_) × Int × Int × (List Int)) (cs := [v1_15]) (ds := [v1_16, (nV r1_2.1), (nV (w64 (r1_2.1 + 1))), v1_17]) (v := [v1_17]) (inner := x1_3.next_) (x := (x1_3.ins, r1_2.1, w64 (r1_2.1 + 1), x1_3.next_)) (z := x1_3.phis) (put := fun (y : List Int) => (x1_3.ins, r1_2.1, w64 (r1_2.1 + 1), y)) rfl (foc_snd (α := List Ins_) (β := Int × Int × (List Int)) (cs := [v1_16]) (ds := [(nV r1_2.1), (nV (w64 (r1_2.1 + 1))), v1_17]) (v := [v1_17]) (inner := x1_3.next_) (x := (r1_2.1, w64 (r1_2.1 + 1), x1_3.next_)) (z := x1_3.ins) (put := fun (y : List Int) => (r1_2.1, w64 (r1_2.1 + 1), y)) rfl (foc_snd (α := Int) (β := Int × (List Int)) (cs := [(nV r1_2.1)]) (ds := [(nV (w64 (r1_2.1 + 1))), v1_17]) (v := [v1_17]) (inner := x1_3.next_) (x := (w64 (r1_2.1 + 1), x1_3.next_)) (z := r1_2.1) (put := fun (y : List Int) => (w64 (r1_2.1 + 1), y)) rfl (foc_snd (α := Int) (β := (List Int)) (cs := [(nV (w64 (r1_2.1 + 1)))]) (ds := [v1_17]) (v := [v1_17]) (inner := x1_3.next_) (x := x1_3.next_) (z := w64 (r1_2.1 + 1)) (put := fun (y : List Int) => y) rfl (foc_id [v1_17] x1_3.next_)))))))
   obtain ⟨hz1_5, hle, hm1, hsub, hk1_3⟩ := hm.take2 (L1 := [ow [v1_17] x1_3.next_]) (L2 := [hole [(sV b1_1 o1_1 a_.length c0_1)] [v1_17] (fun (y : List Int) => (((((xs1_1.1.set (i1_1).toNat (⟨r1_1.2, x1_1.ins, x1_1.jump, x1_1.on, x1_1.next_⟩ : Block_)).set (i1_1).toNat (⟨x1_2.phis, r1_2.2, x1_2.jump, x1_2.on, x1_2.next_⟩ : Block_)).set (i1_1).toNat (⟨x1_3.phis, x1_3.ins, r1_2.1, x1_3.on, x1_3.next_⟩ : Block_)).set (i1_1).toNat (⟨x1_3.phis, x1_3.ins, r1_2.1, w64 (r1_2.1 + 1), x1_3.next_⟩ : Block_)) : List Block_).set (i1_1).toNat (⟨x1_3.phis, x1_3.ins, r1_2.1, w64 (r1_2.1 + 1), y⟩ : Block_))]) [0] [1] (by decide) rfl rfl
   refine gCg rfl call29 (laws_markIntS_ok _ hz1_5 x1_3.next_ v1_17 (w64 ((w64 (r1_2.1 + 1)) + 1)) hm1 ) ?_
   rintro r1_3 hx1_11 v1_18 w ⟨rfl, hB⟩
   replace hm := hk1_3 _ _ hB; clear hB
   replace hm := (hm.shut 1 0 (by decide) rfl rfl).pk (L' := [ow [(sV b1_1 o1_1 a_.length c0_1)] (((((xs1_1.1.set (i1_1).toNat (⟨r1_1.2, x1_1.ins, x1_1.jump, x1_1.on, x1_1.next_⟩ : Block_)).set (i1_1).toNat (⟨x1_2.phis, r1_2.2, x1_2.jump, x1_2.on, x1_2.next_⟩ : Block_)).set (i1_1).toNat (⟨x1_3.phis, x1_3.ins, r1_2.1, x1_3.on, x1_3.next_⟩ : Block_)).set (i1_1).toNat (⟨x1_3.phis, x1_3.ins, r1_2.1, w64 (r1_2.1 + 1), x1_3.next_⟩ : Block_)).set (i1_1).toNat (⟨x1_3.phis, x1_3.ins, r1_2.1, w64 (r1_2.1 + 1), r1_3.2⟩ : Block_))]) [1] rfl rfl
   exact gA rfl (gE (gR (gM rfl (gP (by omega) (by omega) rfl (gA rfl (gE (gze hm [0] rfl)))))))
  repeat clear hm
  intro i0_1 xs0_1 w hm hi0_3 hi0_4
  refine gS (gS (gR (gM rfl (gM rfl ?_))))
  have hl0_2 := rep_len (hm.ow_rep 0 rfl)
  exact gY (yV st_55 rfl) (gB rfl (gE (go _ 9 rfl (decide_eq_false (by omega)) (gcf rfl (gXt (gHh (gS (gR (gM rfl (gA rfl (gE (gRt (gr1 results102 rfl ⟨rfl, hm.pk [0] rfl rfl⟩)))))))))))))

theorem laws_markCodeS_ok (w0 : World) (hz : Heap) (a_ : List Code_) (v1 : Value) (k_ : Int) (hm0 : Mem w0 hz w0 [ow [v1] a_]) :
    ConM Tryz.prog 56 [v1, (nV k_)] w0 (laws_markCodeS a_ k_) fun r v w' => v = (nV r.1) ∧ Mem w0 hz w' [ow [v1] r.2] := by
  unfold laws_markCodeS
  refine gcon func56 rfl fun r => ?_
  have hm := hm0
  refine gS (gR (gA rfl (gE (gS (gS (gR (gA rfl (gE ?_))))))))
  obtain ⟨p0_1, c0_1, rfl, hl0_1⟩ := ro_slice (hm.ow_rep 0 rfl)
  refine gBk (gNf hm (fun i1_1 xs1_1 => [(0, (.slice p0_1 a_.length c0_1)), (1, (nV xs1_1.2)), (5, (nV i1_1))]) (fun i1_1 xs1_1 => [ow [(.slice p0_1 a_.length c0_1)] xs1_1.1]) [0] rfl ?_ ?_)
  ·
   repeat clear hm
   intro _ _ i1_1 xs1_1 w hm hi0_1 hi0_2 q0_1 _
   refine gS (gS (gR (gM rfl (gM rfl ?_))))
   have hl1_1 := rep_len (hm.ow_rep 0 rfl)
   refine gY (yV st_28 rfl) (gB rfl (gE (go _ 9 rfl (decide_eq_true (by omega)) (gct rfl (gSk (gS (gBk (gS (gR (gM rfl (gM rfl (gM rfl (gg fun x1_1 h1_1 hx1_2 => ?_)))))))))))))
   obtain ⟨b1_1, o1_1, c1_1, he⟩ := idx_form' (hm.ow_rep 0 rfl) hx1_2
   simp only [Value.slice.injEq, Option.some.injEq] at he; obtain ⟨rfl, _, rfl⟩ := he
   obtain ⟨v1_1, hc1_1, h1_2⟩ := rk_Code_ (hm.ow_rep 0 rfl) hx1_2
   have hL1_1 := rep_slice_len (hm.ow_rep 0 rfl)
   refine gI st_28 h1_1 (idx_lt2 hx1_2 hL1_1) rfl (gF fo_57_0 rfl (gf0 rfl (fun a hf => e_setElemR (x1 := ((⟨xs1_1.2, x1_1.regs, x1_1.blocks⟩ : Code_) : Code_)) (j := 0) (vs := [(nV xs1_1.2)]) 0 hf hm rfl hx1_2 hc1_1 rfl (fun F h ho => (fun _ => own_fst_map (α := Int) (β := Int × (List Block_)) (cs := [(nV x1_1.params)]) (cs' := [(nV xs1_1.2)]) (ds := [(nV x1_1.regs), v1_1]) rfl (fun _ _ => Flat.own_iff.2 rfl)) F ho) rfl sizeOf3 rfl rfl rfl (one_cons rfl one_nil) rfl) ?_))
   rintro _ w hm
   have hx1_3 := List.getElem?_set_self (a := ((⟨xs1_1.2, x1_1.regs, x1_1.blocks⟩ : Code_) : Code_)) (idx_lt hx1_2)
   refine gE (gS (gR (gM rfl (gB rfl (gA rfl (gE (gS (gR (gM rfl (gM rfl (gM rfl ?_)))))))))))
   obtain ⟨_, _, hc1_2, hr1_1⟩ := ro_get' (hm.ow_rep 0 rfl) hx1_3
   obtain ⟨_, _, rfl, rfl, _, _, rfl, rfl, h1_3⟩ := hr1_1
   obtain ⟨v1_2, rfl, -⟩ := id h1_3
   replace h1_3 : GT.rep (hp _) [v1_2] x1_1.blocks := h1_3
   replace hc1_2 : CellsAt (hp _) b1_1 (o1_1 + (i1_1).toNat * 3) [(nV xs1_1.2), (nV x1_1.regs), v1_2] := hc1_2
   have hL1_2 := rep_slice_len (hm.ow_rep 0 rfl)
   refine gI st_28 h1_1 (idx_lt2 hx1_3 hL1_2) rfl (gF fo_57_1 rfl (gf0 rfl (fun a hf => e_setElemR (x1 := ((⟨xs1_1.2, w64 (xs1_1.2 + 1), x1_1.blocks⟩ : Code_) : Code_)) (j := 1) (vs := [(nV (w64 (xs1_1.2 + 1)))]) 0 hf hm rfl hx1_3 hc1_2 rfl (fun F h ho => (fun _ => own_snd_map (α := Int) (β := Int × (List Block_)) (cs := [(nV xs1_1.2)]) (ds := [(nV x1_1.regs), v1_2]) (ds' := [(nV (w64 (xs1_1.2 + 1))), v1_2]) rfl (fun _ => own_fst_map (α := Int) (β := (List Block_)) (cs := [(nV x1_1.regs)]) (cs' := [(nV (w64 (xs1_1.2 + 1)))]) (ds := [v1_2]) rfl (fun _ _ => Flat.own_iff.2 rfl))) F ho) rfl sizeOf3 rfl rfl rfl (one_cons rfl one_nil) rfl) ?_))
   rintro _ w hm
   have hx1_4 := List.getElem?_set_self (a := ((⟨xs1_1.2, w64 (xs1_1.2 + 1), x1_1.blocks⟩ : Code_) : Code_)) (idx_lt hx1_3)
   refine gE (gS (gR (gM rfl (gB rfl (gA rfl (gE (gR (gM rfl (gM rfl ?_)))))))))
   obtain ⟨_, _, hc1_3, hr1_2⟩ := ro_get' (hm.ow_rep 0 rfl) hx1_4
   obtain ⟨_, _, rfl, rfl, _, _, rfl, rfl, h1_4⟩ := hr1_2
   obtain ⟨v1_3, rfl, -⟩ := id h1_4
   replace h1_4 : GT.rep (hp _) [v1_3] x1_1.blocks := h1_4
   replace hc1_3 : CellsAt (hp _) b1_1 (o1_1 + (i1_1).toNat * 3) [(nV xs1_1.2), (nV (w64 (xs1_1.2 + 1))), v1_3] := hc1_3
   have hL1_3 := rep_slice_len (hm.ow_rep 0 rfl)
   refine gI st_28 h1_1 (idx_lt2 hx1_4 hL1_3) rfl (gF fo_57_2 rfl (gY (yl isAgg55 (hc1_3.cell (j := 2) rfl) rfl) (gM rfl ?_)))
   replace hm : Mem w0 hz _ [ow [v1_3] x1_1.blocks, hole [(sV b1_1 o1_1 a_.length c0_1)] [v1_3] (fun (y : List Block_) => (((xs1_1.1.set (i1_1).toNat (⟨xs1_1.2, x1_1.regs, x1_1.blocks⟩ : Code_)).set (i1_1).toNat (⟨xs1_1.2, w64 (xs1_1.2 + 1), x1_1.blocks⟩ : Code_)) : List Code_).set (i1_1).toNat (⟨xs1_1.2, w64 (xs1_1.2 + 1), y⟩ : Code_))] := hm.open 0 rfl (foc_elem hx1_4 hc1_3 rfl (show FocH (α := Code_) _ _ (⟨xs1_1.2, w64 (xs1_1.2 + 1), x1_1.blocks⟩ : Code_) [v1_3] x1_1.blocks (fun y => (⟨xs1_1.2, w64 (xs1_1.2 + 1), y⟩ : Code_)) from (foc_snd (α := Int) (β := Int × (List Block_)) (cs := [(nV xs1_1.2)]) (ds := [(nV (w64 (xs1_1.2 + 1))), v1_3]) (v := [v1_3]) (inner := x1_1.blocks) (x := (w64 (xs1_1.2 + 1), x1_1.blocks)) (z := xs1_1.2) (put := fun (y : List Block_) => (w64 (xs1_1.2 + 1), y)) rfl (foc_snd (α := Int) (β := (List Block_)) (cs := [(nV (w64 (xs1_1.2 + 1)))]) (ds := [v1_3]) (v := [v1_3]) (inner := x1_1.blocks) (x := x1_1.blocks) (z := w64 (xs1_1.2 + 1)) (put := fun (y : List Block_) => y) rfl (foc_id [v1_3] x1_1.blocks)))))
   obtain ⟨hz1_1, hle, hm1, hsub, hk1_1⟩ := hm.take2 (L1 := [ow [v1_3] x1_1.blocks]) (L2 := [hole [(sV b1_1 o1_1 a_.length c0_1)] [v1_3] (fun (y : List Block_) => (((xs1_1.1.set (i1_1).toNat (⟨xs1_1.2, x1_1.regs, x1_1.blocks⟩ : Code_)).set (i1_1).toNat (⟨xs1_1.2, w64 (xs1_1.2 + 1), x1_1.blocks⟩ : Code_)) : List Code_).set (i1_1).toNat (⟨xs1_1.2, w64 (xs1_1.2 + 1), y⟩ : Code_))]) [0] [1] (by decide) rfl rfl
   refine gCg rfl call102 (laws_markBlockS_ok _ hz1_1 x1_1.blocks v1_3 (w64 ((w64 (xs1_1.2 + 1)) + 1)) hm1 ) ?_
   rintro r1_1 hx1_5 v1_4 w ⟨rfl, hB⟩
   replace hm := hk1_1 _ _ hB; clear hB
   replace hm := (hm.shut 1 0 (by decide) rfl rfl).pk (L' := [ow [(sV b1_1 o1_1 a_.length c0_1)] (((xs1_1.1.set (i1_1).toNat (⟨xs1_1.2, x1_1.regs, x1_1.blocks⟩ : Code_)).set (i1_1).toNat (⟨xs1_1.2, w64 (xs1_1.2 + 1), x1_1.blocks⟩ : Code_)).set (i1_1).toNat (⟨xs1_1.2, w64 (xs1_1.2 + 1), r1_1.2⟩ : Code_))]) [1] rfl rfl
   exact gA rfl (gE (gR (gM rfl (gP (by omega) (by omega) rfl (gA rfl (gE (gze hm [0] rfl)))))))
  repeat clear hm
  intro i0_1 xs0_1 w hm hi0_3 hi0_4
  refine gS (gS (gR (gM rfl (gM rfl ?_))))
  have hl0_2 := rep_len (hm.ow_rep 0 rfl)
  exact gY (yV st_28 rfl) (gB rfl (gE (go _ 9 rfl (decide_eq_false (by omega)) (gcf rfl (gXt (gHh (gS (gR (gM rfl (gA rfl (gE (gRt (gr1 results56 rfl ⟨rfl, hm.pk [0] rfl rfl⟩)))))))))))))

theorem laws_markUnit_ok (w0 : World) (hz : Heap) (a_ : Unit_) (v1 : Value) (k_ : Int) (hm0 : Mem w0 hz w0 [ow [v1] a_.codes]) :
    ConM Tryz.prog 20 [(.agg #[v1]), (nV k_)] w0 (laws_markUnit a_ k_) fun r v w' => v = (nV r.1) ∧ Mem w0 hz w' [ow [v1] r.2] := by
  unfold laws_markUnit
  refine gcon func20 rfl fun r => ?_
  have hm := hm0
  refine gS (gR (gBx hm rfl fun b0_1 w hm => gA rfl (gE (gS (gR (gF fo_30_0 rfl (gL hm 0 isAgg28 rfl (gM rfl ?_))))))))
  obtain ⟨hz0_1, hle, hm1, hsub, hk0_1⟩ := hm.take2 (L1 := [ow [v1] a_.codes]) (L2 := [blk b0_1 [v1] 30]) [1] [0] (by decide) rfl rfl
  refine gCg rfl call56 (laws_markCodeS_ok _ hz0_1 a_.codes v1 k_ hm1 ) ?_
  rintro r0_1 hx0_1 v0_1 w ⟨rfl, hB⟩
  replace hm := hk0_1 _ _ hB; clear hB
  exact gA rfl (gE (gS (gR (gM rfl (gA rfl (gE (gRt (gr1 results20 rfl ⟨rfl, hm.pk [0] rfl rfl⟩))))))))

theorem laws_heldIntS_ok (w0 : World) (a_ : List Int) (v1 : Value) (h1 : GT.rep (hp w0) [v1] a_) (k_ : Int) :
    ConM Tryz.prog 30 [v1, (nV k_)] w0 (laws_heldIntS a_ k_) fun r v w' => v = (nV r) ∧ Below w0.heap.size w0 w' := by
  unfold laws_heldIntS
  refine gcon func30 rfl fun r => ?_
  have hm := Mem.start w0
  refine gS (gR (gA rfl (gE (gS (gS (gR (gA rfl (gE (gBk (gNf hm (fun i1_1 xs1_1 => [(0, v1), (1, (nV xs1_1)), (5, (nV i1_1))]) (fun i1_1 xs1_1 => []) [] rfl ?_ ?_))))))))))
  ·
   repeat clear hm
   intro r0_1 hq0_1 i1_1 xs1_1 w hm hi0_1 hi0_2 q0_1 ho0_1
   refine gS (gS (gR (gM rfl (gM rfl ?_))))
   obtain ⟨p1_1, c1_1, rfl, hl1_1⟩ := ro_slice h1
   refine gY (yV st_37 rfl) (gB rfl (gE (go _ 9 rfl (decide_eq_true (by omega)) (gct rfl (gSk (gS (gBk (gS (gS (gR (gM rfl (gM rfl (gg fun x1_1 h1_1 hx1_2 => ?_)))))))))))))
   obtain ⟨b1_1, o1_1, c1_2, he⟩ := idx_form h1 hx1_2
   simp only [Value.slice.injEq, Option.some.injEq] at he; obtain ⟨rfl, _, rfl⟩ := he
   refine gI st_37 h1_1 (idx_lt hx1_2) rfl (gY (yl isAgg3 ((flat_cells (cs := [(nV x1_1)]) (hm.now h1) hx1_2 rfl).cell (j := 0) rfl) rfl) (gM rfl (gB rfl (gE (gsd 17 rfl (fun h1_2 => ?_) fun h1_2 => ?_)))))
   ·
    exact gct rfl (gS (gR (gA rfl (gE (gRt (gLr ho0_1 hq0_1 (gr1 results30 rfl ⟨rfl, hm.below⟩)))))))
   exact gcf rfl (gSk (gR (gM rfl (gB rfl (gA rfl (gE (gR (gM rfl (gP (by omega) (by omega) rfl (gA rfl (gE (gze hm [] rfl))))))))))))
  repeat clear hm
  intro i0_1 xs0_1 w hm hi0_3 hi0_4
  refine gS (gS (gR (gM rfl (gM rfl ?_))))
  obtain ⟨p0_1, c0_1, rfl, hl0_1⟩ := ro_slice h1
  exact gY (yV st_37 rfl) (gB rfl (gE (go _ 9 rfl (decide_eq_false (by omega)) (gcf rfl (gXt (gHh (gS (gR (gM rfl (gA rfl (gE (gRt (gr1 results30 rfl ⟨rfl, hm.below⟩)))))))))))))

theorem laws_heldPhiS_ok (w0 : World) (a_ : List Phi_) (v1 : Value) (h1 : GT.rep (hp w0) [v1] a_) (k_ : Int) :
    ConM Tryz.prog 163 [v1, (nV k_)] w0 (laws_heldPhiS a_ k_) fun r v w' => v = (nV r) ∧ Below w0.heap.size w0 w' := by
  unfold laws_heldPhiS
  refine gcon func163 rfl fun r => ?_
  have hm := Mem.start w0
  refine gS (gR (gA rfl (gE (gS (gS (gR (gA rfl (gE (gBk (gNf hm (fun i1_1 xs1_1 => [(0, v1), (1, (nV xs1_1)), (5, (nV i1_1))]) (fun i1_1 xs1_1 => []) [] rfl ?_ ?_))))))))))
  ·
   repeat clear hm
   intro r0_1 hq0_1 i1_1 xs1_1 w hm hi0_1 hi0_2 q0_1 ho0_1
   refine gS (gS (gR (gM rfl (gM rfl ?_))))
   obtain ⟨p1_1, c1_1, rfl, hl1_1⟩ := ro_slice h1
   refine gY (yV st_101 rfl) (gB rfl (gE (go _ 9 rfl (decide_eq_true (by omega)) (gct rfl (gSk (gS (gBk (gS (gS (gR (gM rfl (gM rfl (gg fun x1_1 h1_1 hx1_2 => ?_)))))))))))))
   obtain ⟨b1_1, o1_1, c1_2, he⟩ := idx_form' h1 hx1_2
   simp only [Value.slice.injEq, Option.some.injEq] at he; obtain ⟨rfl, _, rfl⟩ := he
   obtain ⟨v1_1, hc1_1, h1_2⟩ := rk_Phi_ h1 hx1_2
   refine gI st_101 h1_1 (idx_lt hx1_2) rfl (gF fo_143_0 rfl (gY (yl isAgg3 ((hc1_1.mono hm.lez).cell (j := 0) rfl) rfl) (gM rfl (gB rfl (gE (gsd 18 rfl (fun h1_3 => ?_) fun h1_3 => ?_))))))
   ·
    exact gct rfl (gS (gR (gA rfl (gE (gRt (gLr ho0_1 hq0_1 (gr1 results163 rfl ⟨rfl, hm.below⟩)))))))
   refine gcf rfl (gSk (gS (gR (gM rfl (gB rfl (gA rfl (gE (gS (gR (gM rfl (gM rfl (gI st_101 h1_1 (idx_lt hx1_2) rfl (gF fo_143_1 rfl (gY (yl isAgg37 ((hc1_1.mono hm.lez).cell (j := 1) rfl) rfl) (gM rfl (gC hm rfl call30 (laws_heldIntS_ok _ x1_1.args v1_1 (hm.now h1_2) (w64 (xs1_1 + 1))) fun r1_1 hx1_3 w hm => gA rfl (gE (gS (gR (gM rfl (gB rfl (gE (gsd 29 rfl (fun h1_4 => ?_) fun h1_4 => ?_)))))))))))))))))))))))
   ·
    exact gct rfl (gS (gR (gA rfl (gE (gRt (gLr ho0_1 hq0_1 (gr1 results163 rfl ⟨rfl, hm.below⟩)))))))
   exact gcf rfl (gSk (gR (gM rfl (gP (by omega) (by omega) rfl (gA rfl (gE (gze hm [] rfl)))))))
  repeat clear hm
  intro i0_1 xs0_1 w hm hi0_3 hi0_4
  refine gS (gS (gR (gM rfl (gM rfl ?_))))
  obtain ⟨p0_1, c0_1, rfl, hl0_1⟩ := ro_slice h1
  exact gY (yV st_101 rfl) (gB rfl (gE (go _ 9 rfl (decide_eq_false (by omega)) (gcf rfl (gXt (gHh (gS (gR (gM rfl (gA rfl (gE (gRt (gr1 results163 rfl ⟨rfl, hm.below⟩)))))))))))))

theorem laws_heldInsS_ok (w0 : World) (a_ : List Ins_) (v1 : Value) (h1 : GT.rep (hp w0) [v1] a_) (k_ : Int) :
    ConM Tryz.prog 164 [v1, (nV k_)] w0 (laws_heldInsS a_ k_) fun r v w' => v = (nV r) ∧ Below w0.heap.size w0 w' := by
  unfold laws_heldInsS
  refine gcon func164 rfl fun r => ?_
  have hm := Mem.start w0
  refine gS (gR (gA rfl (gE (gS (gS (gR (gA rfl (gE (gBk (gNf hm (fun i1_1 xs1_1 => [(0, v1), (1, (nV xs1_1)), (5, (nV i1_1))]) (fun i1_1 xs1_1 => []) [] rfl ?_ ?_))))))))))
  ·
   repeat clear hm
   intro r0_1 hq0_1 i1_1 xs1_1 w hm hi0_1 hi0_2 q0_1 ho0_1
   refine gS (gS (gR (gM rfl (gM rfl ?_))))
   obtain ⟨p1_1, c1_1, rfl, hl1_1⟩ := ro_slice h1
   refine gY (yV st_102 rfl) (gB rfl (gE (go _ 9 rfl (decide_eq_true (by omega)) (gct rfl (gSk (gS (gBk (gS (gS (gR (gM rfl (gM rfl (gg fun x1_1 h1_1 hx1_2 => ?_)))))))))))))
   obtain ⟨b1_1, o1_1, c1_2, he⟩ := idx_form' h1 hx1_2
   simp only [Value.slice.injEq, Option.some.injEq] at he; obtain ⟨rfl, _, rfl⟩ := he
   obtain ⟨v1_1, hc1_1, h1_2⟩ := rk_Ins_ h1 hx1_2
   refine gI st_102 h1_1 (idx_lt hx1_2) rfl (gF fo_106_0 rfl (gY (yl isAgg3 ((hc1_1.mono hm.lez).cell (j := 0) rfl) rfl) (gM rfl (gB rfl (gE (gsd 18 rfl (fun h1_3 => ?_) fun h1_3 => ?_))))))
   ·
    exact gct rfl (gS (gR (gA rfl (gE (gRt (gLr ho0_1 hq0_1 (gr1 results164 rfl ⟨rfl, hm.below⟩)))))))
   refine gcf rfl (gSk (gS (gR (gM rfl (gB rfl (gA rfl (gE (gS (gS (gR (gM rfl (gM rfl (gI st_102 h1_1 (idx_lt hx1_2) rfl (gF fo_106_1 rfl (gY (yl isAgg3 ((hc1_1.mono hm.lez).cell (j := 1) rfl) rfl) (gM rfl (gB rfl (gE (gsd 27 rfl (fun h1_4 => ?_) fun h1_4 => ?_)))))))))))))))))))
   ·
    exact gct rfl (gS (gR (gA rfl (gE (gRt (gLr ho0_1 hq0_1 (gr1 results164 rfl ⟨rfl, hm.below⟩)))))))
   refine gcf rfl (gSk (gS (gR (gM rfl (gB rfl (gA rfl (gE (gS (gR (gM rfl (gM rfl (gI st_102 h1_1 (idx_lt hx1_2) rfl (gF fo_106_2 rfl (gY (yl isAgg37 ((hc1_1.mono hm.lez).cell (j := 2) rfl) rfl) (gM rfl (gC hm rfl call30 (laws_heldIntS_ok _ x1_1.args v1_1 (hm.now h1_2) (w64 ((w64 (xs1_1 + 1)) + 1))) fun r1_1 hx1_3 w hm => gA rfl (gE (gS (gS (gR (gM rfl (gB rfl (gE (gsd 38 rfl (fun h1_5 => ?_) fun h1_5 => ?_))))))))))))))))))))))))
   ·
    exact gct rfl (gS (gR (gA rfl (gE (gRt (gLr ho0_1 hq0_1 (gr1 results164 rfl ⟨rfl, hm.below⟩)))))))
   refine gcf rfl (gSk (gS (gS (gR (gM rfl (gM rfl (gI st_102 h1_1 (idx_lt hx1_2) rfl (gF fo_106_3 rfl (gY (yl isAgg3 ((hc1_1.mono hm.lez).cell (j := 3) rfl) rfl) (gM rfl (gB rfl (gE (gsd 45 rfl (fun h1_6 => ?_) fun h1_6 => ?_)))))))))))))
   ·
    exact gct rfl (gS (gR (gA rfl (gE (gRt (gLr ho0_1 hq0_1 (gr1 results164 rfl ⟨rfl, hm.below⟩)))))))
   exact gcf rfl (gSk (gR (gM rfl (gB rfl (gA rfl (gE (gR (gM rfl (gP (by omega) (by omega) rfl (gA rfl (gE (gze hm [] rfl))))))))))))
  repeat clear hm
  intro i0_1 xs0_1 w hm hi0_3 hi0_4
  refine gS (gS (gR (gM rfl (gM rfl ?_))))
  obtain ⟨p0_1, c0_1, rfl, hl0_1⟩ := ro_slice h1
  exact gY (yV st_102 rfl) (gB rfl (gE (go _ 9 rfl (decide_eq_false (by omega)) (gcf rfl (gXt (gHh (gS (gR (gM rfl (gA rfl (gE (gRt (gr1 results164 rfl ⟨rfl, hm.below⟩)))))))))))))

theorem laws_heldBlockS_ok (w0 : World) (a_ : List Block_) (v1 : Value) (h1 : GT.rep (hp w0) [v1] a_) (k_ : Int) :
    ConM Tryz.prog 117 [v1, (nV k_)] w0 (laws_heldBlockS a_ k_) fun r v w' => v = (nV r) ∧ Below w0.heap.size w0 w' := by
  unfold laws_heldBlockS
  refine gcon func117 rfl fun r => ?_
  have hm := Mem.start w0
  refine gS (gR (gA rfl (gE (gS (gS (gR (gA rfl (gE (gBk (gNf hm (fun i1_1 xs1_1 => [(0, v1), (1, (nV xs1_1)), (5, (nV i1_1))]) (fun i1_1 xs1_1 => []) [] rfl ?_ ?_))))))))))
  ·
   repeat clear hm
   intro r0_1 hq0_1 i1_1 xs1_1 w hm hi0_1 hi0_2 q0_1 ho0_1
   refine gS (gS (gR (gM rfl (gM rfl ?_))))
   obtain ⟨p1_1, c1_1, rfl, hl1_1⟩ := ro_slice h1
   refine gY (yV st_55 rfl) (gB rfl (gE (go _ 9 rfl (decide_eq_true (by omega)) (gct rfl (gSk (gS (gBk (gS (gR (gM rfl (gM rfl (gg fun x1_1 h1_1 hx1_2 => ?_))))))))))))
   obtain ⟨b1_1, o1_1, c1_2, he⟩ := idx_form' h1 hx1_2
   simp only [Value.slice.injEq, Option.some.injEq] at he; obtain ⟨rfl, _, rfl⟩ := he
   obtain ⟨v1_1, v1_2, v1_3, hc1_1, h1_2, h1_3, h1_4⟩ := rk_Block_ h1 hx1_2
   refine gI st_55 h1_1 (idx_lt hx1_2) rfl (gF fo_104_0 rfl (gY (yl isAgg101 ((hc1_1.mono hm.lez).cell (j := 0) rfl) rfl) (gM rfl (gC hm rfl call163 (laws_heldPhiS_ok _ x1_1.phis v1_1 (hm.now h1_2) xs1_1) fun r1_1 hx1_3 w hm => gA rfl (gE (gS (gS (gR (gM rfl (gB rfl (gE (gsd 20 rfl (fun h1_5 => ?_) fun h1_5 => ?_))))))))))))
   ·
    exact gct rfl (gS (gR (gA rfl (gE (gRt (gLr ho0_1 hq0_1 (gr1 results117 rfl ⟨rfl, hm.below⟩)))))))
   refine gcf rfl (gSk (gS (gR (gM rfl (gM rfl (gI st_55 h1_1 (idx_lt hx1_2) rfl (gF fo_104_1 rfl (gY (yl isAgg102 ((hc1_1.mono hm.lez).cell (j := 1) rfl) rfl) (gM rfl (gC hm rfl call164 (laws_heldInsS_ok _ x1_1.ins v1_2 (hm.now h1_3) r1_1) fun r1_2 hx1_4 w hm => gA rfl (gE (gS (gS (gR (gM rfl (gB rfl (gE (gsd 29 rfl (fun h1_6 => ?_) fun h1_6 => ?_))))))))))))))))))
   ·
    exact gct rfl (gS (gR (gA rfl (gE (gRt (gLr ho0_1 hq0_1 (gr1 results117 rfl ⟨rfl, hm.below⟩)))))))
   refine gcf rfl (gSk (gS (gS (gR (gM rfl (gM rfl (gI st_55 h1_1 (idx_lt hx1_2) rfl (gF fo_104_2 rfl (gY (yl isAgg3 ((hc1_1.mono hm.lez).cell (j := 2) rfl) rfl) (gM rfl (gB rfl (gE (gsd 36 rfl (fun h1_7 => ?_) fun h1_7 => ?_)))))))))))))
   ·
    exact gct rfl (gS (gR (gA rfl (gE (gRt (gLr ho0_1 hq0_1 (gr1 results117 rfl ⟨rfl, hm.below⟩)))))))
   refine gcf rfl (gSk (gS (gR (gM rfl (gB rfl (gA rfl (gE (gS (gS (gR (gM rfl (gM rfl (gI st_55 h1_1 (idx_lt hx1_2) rfl (gF fo_104_3 rfl (gY (yl isAgg3 ((hc1_1.mono hm.lez).cell (j := 3) rfl) rfl) (gM rfl (gB rfl (gE (gsd 45 rfl (fun h1_8 => ?_) fun h1_8 => ?_)))))))))))))))))))
   ·
    exact gct rfl (gS (gR (gA rfl (gE (gRt (gLr ho0_1 hq0_1 (gr1 results117 rfl ⟨rfl, hm.below⟩)))))))
   refine gcf rfl (gSk (gS (gR (gM rfl (gB rfl (gA rfl (gE (gS (gR (gM rfl (gM rfl (gI st_55 h1_1 (idx_lt hx1_2) rfl (gF fo_104_4 rfl (gY (yl isAgg37 ((hc1_1.mono hm.lez).cell (j := 4) rfl) rfl) (gM rfl (gC hm rfl call30 (laws_heldIntS_ok _ x1_1.next_ v1_3 (hm.now h1_4) (w64 ((w64 (r1_2 + 1)) + 1))) fun r1_3 hx1_5 w hm => gA rfl (gE (gS (gR (gM rfl (gB rfl (gE (gsd 56 rfl (fun h1_9 => ?_) fun h1_9 => ?_)))))))))))))))))))))))
   ·
    exact gct rfl (gS (gR (gA rfl (gE (gRt (gLr ho0_1 hq0_1 (gr1 results117 rfl ⟨rfl, hm.below⟩)))))))
   exact gcf rfl (gSk (gR (gM rfl (gP (by omega) (by omega) rfl (gA rfl (gE (gze hm [] rfl)))))))
  repeat clear hm
  intro i0_1 xs0_1 w hm hi0_3 hi0_4
  refine gS (gS (gR (gM rfl (gM rfl ?_))))
  obtain ⟨p0_1, c0_1, rfl, hl0_1⟩ := ro_slice h1
  exact gY (yV st_55 rfl) (gB rfl (gE (go _ 9 rfl (decide_eq_false (by omega)) (gcf rfl (gXt (gHh (gS (gR (gM rfl (gA rfl (gE (gRt (gr1 results117 rfl ⟨rfl, hm.below⟩)))))))))))))

theorem laws_heldCodeS_ok (w0 : World) (a_ : List Code_) (v1 : Value) (h1 : GT.rep (hp w0) [v1] a_) (k_ : Int) :
    ConM Tryz.prog 74 [v1, (nV k_)] w0 (laws_heldCodeS a_ k_) fun r v w' => v = (nV r) ∧ Below w0.heap.size w0 w' := by
  unfold laws_heldCodeS
  refine gcon func74 rfl fun r => ?_
  have hm := Mem.start w0
  refine gS (gR (gA rfl (gE (gS (gS (gR (gA rfl (gE (gBk (gNf hm (fun i1_1 xs1_1 => [(0, v1), (1, (nV xs1_1)), (5, (nV i1_1))]) (fun i1_1 xs1_1 => []) [] rfl ?_ ?_))))))))))
  ·
   repeat clear hm
   intro r0_1 hq0_1 i1_1 xs1_1 w hm hi0_1 hi0_2 q0_1 ho0_1
   refine gS (gS (gR (gM rfl (gM rfl ?_))))
   obtain ⟨p1_1, c1_1, rfl, hl1_1⟩ := ro_slice h1
   refine gY (yV st_28 rfl) (gB rfl (gE (go _ 9 rfl (decide_eq_true (by omega)) (gct rfl (gSk (gS (gBk (gS (gS (gR (gM rfl (gM rfl (gg fun x1_1 h1_1 hx1_2 => ?_)))))))))))))
   obtain ⟨b1_1, o1_1, c1_2, he⟩ := idx_form' h1 hx1_2
   simp only [Value.slice.injEq, Option.some.injEq] at he; obtain ⟨rfl, _, rfl⟩ := he
   obtain ⟨v1_1, hc1_1, h1_2⟩ := rk_Code_ h1 hx1_2
   refine gI st_28 h1_1 (idx_lt hx1_2) rfl (gF fo_57_0 rfl (gY (yl isAgg3 ((hc1_1.mono hm.lez).cell (j := 0) rfl) rfl) (gM rfl (gB rfl (gE (gsd 18 rfl (fun h1_3 => ?_) fun h1_3 => ?_))))))
   ·
    exact gct rfl (gS (gR (gA rfl (gE (gRt (gLr ho0_1 hq0_1 (gr1 results74 rfl ⟨rfl, hm.below⟩)))))))
   refine gcf rfl (gSk (gS (gR (gM rfl (gB rfl (gA rfl (gE (gS (gS (gR (gM rfl (gM rfl (gI st_28 h1_1 (idx_lt hx1_2) rfl (gF fo_57_1 rfl (gY (yl isAgg3 ((hc1_1.mono hm.lez).cell (j := 1) rfl) rfl) (gM rfl (gB rfl (gE (gsd 27 rfl (fun h1_4 => ?_) fun h1_4 => ?_)))))))))))))))))))
   ·
    exact gct rfl (gS (gR (gA rfl (gE (gRt (gLr ho0_1 hq0_1 (gr1 results74 rfl ⟨rfl, hm.below⟩)))))))
   refine gcf rfl (gSk (gS (gR (gM rfl (gB rfl (gA rfl (gE (gS (gR (gM rfl (gM rfl (gI st_28 h1_1 (idx_lt hx1_2) rfl (gF fo_57_2 rfl (gY (yl isAgg55 ((hc1_1.mono hm.lez).cell (j := 2) rfl) rfl) (gM rfl (gC hm rfl call117 (laws_heldBlockS_ok _ x1_1.blocks v1_1 (hm.now h1_2) (w64 ((w64 (xs1_1 + 1)) + 1))) fun r1_1 hx1_3 w hm => gA rfl (gE (gS (gR (gM rfl (gB rfl (gE (gsd 38 rfl (fun h1_5 => ?_) fun h1_5 => ?_)))))))))))))))))))))))
   ·
    exact gct rfl (gS (gR (gA rfl (gE (gRt (gLr ho0_1 hq0_1 (gr1 results74 rfl ⟨rfl, hm.below⟩)))))))
   exact gcf rfl (gSk (gR (gM rfl (gP (by omega) (by omega) rfl (gA rfl (gE (gze hm [] rfl)))))))
  repeat clear hm
  intro i0_1 xs0_1 w hm hi0_3 hi0_4
  refine gS (gS (gR (gM rfl (gM rfl ?_))))
  obtain ⟨p0_1, c0_1, rfl, hl0_1⟩ := ro_slice h1
  exact gY (yV st_28 rfl) (gB rfl (gE (go _ 9 rfl (decide_eq_false (by omega)) (gcf rfl (gXt (gHh (gS (gR (gM rfl (gA rfl (gE (gRt (gr1 results74 rfl ⟨rfl, hm.below⟩)))))))))))))

theorem laws_heldUnit_ok (w0 : World) (a_ : Unit_) (v1 : Value) (h1 : GT.rep (hp w0) [v1] a_.codes) (k_ : Int) :
    ConM Tryz.prog 35 [(.agg #[v1]), (nV k_)] w0 (laws_heldUnit a_ k_) fun r v w' => v = (nV r) ∧ Below w0.heap.size w0 w' := by
  unfold laws_heldUnit
  refine gcon func35 rfl fun r => ?_
  have hm := Mem.start w0
  refine gS (gR (gBx hm rfl fun b0_1 w hm => gA rfl (gE (gS (gR (gF fo_30_0 rfl (gL hm 0 isAgg28 rfl (gM rfl (gC hm rfl call74 (laws_heldCodeS_ok _ a_.codes v1 (hm.now h1) k_) fun r0_1 hx0_1 w hm => gA rfl (gE (gS (gS (gR (gM rfl (gB rfl (gE (gsd 10 rfl (fun h0_1 => ?_) fun h0_1 => ?_)))))))))))))))))
  ·
   exact gct rfl (gS (gR (gA rfl (gE (gRt (gr1 results35 rfl ⟨rfl, hm.below⟩))))))
  exact gcf rfl (gSk (gS (gR (gM rfl (gA rfl (gE (gRt (gr1 results35 rfl ⟨rfl, hm.below⟩))))))))

theorem laws_FnExactSplitEdges_ok (w0 : World) (aU : Unit_) (v1 : Value) (h1 : GT.rep (hp w0) [v1] aU.codes) :
    ConM Tryz.prog 8 [(.agg #[v1])] w0 (laws_FnExactSplitEdges aU) fun r v w' => v = (.bool (r)) ∧ Below w0.heap.size w0 w' := by
  unfold laws_FnExactSplitEdges
  refine gcon func8 rfl fun r => ?_
  have hm := Mem.start w0
  refine gS (gR (gBx hm rfl fun b0_1 w hm => gA rfl (gE (gS (gR (gA rfl (gE (gS (gR (gY (yn (hm.blk_at 0 rfl) isAgg24 sizeOf24 rfl) (gM rfl (gC hm rfl call14 (laws_szUnit_ok _ aU v1 (hm.now h1) 1048576) fun r0_1 hx0_1 w hm => gA rfl (gE (gS (gS (gR (gM rfl (gB rfl (gE (gsd 18 rfl (fun h0_1 => ?_) fun h0_1 => ?_))))))))))))))))))))
  ·
   exact gct rfl (gS (gR (gA rfl (gE (gRt (gr1 results8 rfl ⟨rfl, hm.below⟩))))))
  refine gcf rfl (gSk (gS (gR (gY (yn (hm.blk_at 0 rfl) isAgg24 sizeOf24 rfl) (gCg rfl call16 (laws_toUnit_ok _ aU v1 (hm.now h1)) ?_)))))
  rintro r0_2 hx0_2 v0_2 w ⟨v0_3, rfl, hB⟩
  replace hm := hm.give hB; clear hB
  refine gCg rfl call36 (spec_SplitEdges_ok _ r0_2 v0_3 (hm.ow_rep 0 rfl)) ?_
  rintro r0_3 hx0_3 v0_4 w ⟨v0_5, rfl, hB⟩
  replace hm := hm.give hB; clear hB
  refine gM rfl (gX rfl (gX rfl (gAl hm zeroValue30 rfl fun b0_2 w hm => gSN hm 0 sizeOf30 (one_cons (rep_one (hm.ow_rep 1 rfl)) one_nil) rfl fun w hm => gA rfl (gE (gS (gR (gY (yn (hm.blk_at 3 rfl) isAgg24 sizeOf24 rfl) (gCg rfl call16 (laws_toUnit_ok _ aU v1 (hm.now h1)) ?_))))))))
  rintro r0_4 hx0_4 v0_6 w ⟨v0_7, rfl, hB⟩
  replace hm := hm.give hB; clear hB
  refine gAl hm zeroValue30 rfl fun b0_3 w hm => gSN hm 0 sizeOf30 (one_cons (rep_one (hm.ow_rep 1 rfl)) one_nil) rfl fun w hm => gE (gS (gR (gY (yn (hm.blk_at 0 rfl) isAgg30 sizeOf30 rfl) (gCg rfl call37 (impl_SplitEdges_ok _ r0_4 v0_7 (hm.ow_rep 1 rfl)) ?_))))
  rintro r0_5 hx0_5 v0_8 w ⟨v0_9, rfl, hB⟩
  replace hm := hm.give hB; clear hB
  refine gM rfl (gX rfl (gX rfl (gAl hm zeroValue30 rfl fun b0_4 w hm => gSN hm 0 sizeOf30 (one_cons (rep_one (hm.ow_rep 1 rfl)) one_nil) rfl fun w hm => gA rfl (gE (gS (gS (gJ hm (fun s0_1 => [(1, (pV b0_1)), (4, (pV b0_2)), (5, (.bool (r0_3.2))), (6, (pV b0_3)), (7, (pV b0_4)), (8, (.bool (r0_5.2))), (40, (.bool (s0_1)))]) (fun s0_1 => [blk b0_1 [v1] 24, blk b0_2 [v0_5] 30, ow [v0_5] r0_3.1.codes, blk b0_3 [v0_7] 30, ow [v0_7] r0_4.codes, blk b0_4 [v0_9] 30, ow [v0_9] r0_5.1.codes]) (fun s0_1 => ?_) ?_)))))))
  ·
   refine gR (gY (yn (hm.blk_at 0 rfl) isAgg30 sizeOf30 rfl) (gY (yn (hm.blk_at 4 rfl) isAgg30 sizeOf30 rfl) (gC hm rfl call19 (laws_eqUnit_ok _ r0_5.1 v0_9 (hm.ow_rep 1 rfl) r0_3.1 v0_5 (hm.ow_rep 5 rfl)) fun r1_1 hx1_1 w hm => gN rfl (gM rfl (gsn 36 rfl (fun h1_1 => ?_) fun h1_1 => ?_)))))
   ·
    exact gO rfl (gO rfl (gO rfl (gKt rfl (gE (gz hm [7, 4, 5, 2, 3, 0, 1] rfl)))))
   exact gM rfl (gM rfl (gY (yG rfl (y_neqb underlying4 rfl rfl rfl)) (gKf rfl (gE (gz hm [7, 4, 5, 2, 3, 0, 1] rfl)))))
  repeat clear hm
  intro s0_1 w hm
  refine gs 40 rfl (fun h0_2 => ?_) fun h0_2 => ?_
  ·
   exact gct rfl (gS (gR (gA rfl (gE (gRt (gr1 results8 rfl ⟨rfl, hm.below⟩))))))
  refine gcf rfl (gSk (gS (gS (gW (.q 0 (.e 1 (.e 2 (.e 3 (.p 4 .fin) .nil) .nil) .nil)) [1, 2] [4] hm [0, 1, 2, 3, 4, 5, 6] [blk b0_1 [v1] 24, blk b0_2 [v0_5] 30, ow [v0_5] r0_3.1.codes, blk b0_3 [v0_7] 30, ow [v0_7] r0_4.codes, blk b0_4 [v0_9] 30, ow [v0_9] r0_5.1.codes] rfl mxo (by kernel_rfl) (fun _ _ _ h => h.2) fun w hm hS => tQ rfl hS (fun w hm => yn (hm.blk_at 3 rfl) isAgg30 sizeOf30 rfl) (tO (tY rfl (yn (hm.blk_at 0 rfl) isAgg24 sizeOf24 rfl) (tAs hS (tO (gb fun r0_6 hx0_6 => tf rfl rfl (fun a hf => e_call hf rfl call16 rfl (laws_toUnit_ok _ aU v1 (hm.now h1) _ hx0_6)) ?_)))))))))
  rintro v0_10 w ⟨v0_11, rfl, hB⟩
  replace hm := hm.give hB; clear hB
  refine tAk hm [1, 2, 3, 4, 5, 6, 7] rfl fun hS => tO (gb fun r0_7 hx0_7 => tf rfl rfl (fun a hf => e_call hf rfl call19 rfl (laws_eqUnit_ok _ r0_4 v0_7 (hm.ow_rep 5 rfl) r0_6 v0_11 (hm.ow_rep 0 rfl) _ hx0_7)) ?_)
  rintro v0_12 w ⟨rfl, hB⟩
  replace hm := hm.below' hB; clear hB
  refine tAn rfl (tP rfl (fun w => yN rfl) (tE (gsn 45 rfl (fun h0_3 => ?_) fun h0_3 => ?_)))
  ·
   exact gct rfl (gS (gR (gA rfl (gE (gRt (gr1 results8 rfl ⟨rfl, hm.below⟩))))))
  refine gcf rfl (gSk (gS (gR (gA rfl (gE (gS (gR (gY (yn (hm.blk_at 4 rfl) isAgg30 sizeOf30 rfl) (gM rfl ?_)))))))))
  obtain ⟨hz0_6, hle, hm1, hsub, hk0_1⟩ := hm.take2 (L1 := [ow [v0_7] r0_4.codes]) (L2 := [ow [v0_11] r0_6.codes, blk b0_1 [v1] 24, blk b0_2 [v0_5] 30, ow [v0_5] r0_3.1.codes, blk b0_3 [v0_7] 30, blk b0_4 [v0_9] 30, ow [v0_9] r0_5.1.codes]) [5] [0, 1, 2, 3, 4, 6, 7] (by decide) rfl rfl
  refine gCg rfl call20 (laws_markUnit_ok _ hz0_6 r0_4 v0_7 1 hm1 ) ?_
  rintro r0_8 hx0_8 v0_13 w ⟨rfl, hB⟩
  replace hm := hk0_1 _ _ hB; clear hB
  refine gA rfl (gE (gS (gS (gJ hm (fun s0_2 => [(1, (pV b0_1)), (4, (pV b0_2)), (5, (.bool (r0_3.2))), (7, (pV b0_4)), (61, (.bool (s0_2)))]) (fun s0_2 => [blk b0_1 [v1] 24, blk b0_2 [v0_5] 30, ow [v0_5] r0_3.1.codes, blk b0_4 [v0_9] 30, ow [v0_9] r0_5.1.codes]) (fun s0_2 => ?_) ?_))))
  ·
   refine gR (gM rfl (gB rfl (gM rfl (gsd 51 rfl (fun h1_2 => ?_) fun h1_2 => ?_))))
   ·
    exact gO rfl (gO rfl (gO rfl (gO rfl (gKt rfl (gM rfl (gO rfl (gO rfl (gO rfl (gKt rfl (gE (gz hm [2, 3, 4, 6, 7] rfl)))))))))))
   refine gY (yn (hm.blk_at 6 rfl) isAgg30 sizeOf30 rfl) (gY (yn (hm.blk_at 3 rfl) isAgg30 sizeOf30 rfl) (gC hm rfl call19 (laws_eqUnit_ok _ r0_5.1 v0_9 (hm.ow_rep 7 rfl) r0_3.1 v0_5 (hm.ow_rep 4 rfl)) fun r1_2 hx1_2 w hm => gN rfl (gKf rfl (gM rfl (gsn 57 rfl (fun h1_3 => ?_) fun h1_3 => ?_)))))
   ·
    exact gO rfl (gO rfl (gO rfl (gKt rfl (gE (gz hm [2, 3, 4, 6, 7] rfl)))))
   exact gM rfl (gM rfl (gY (yG rfl (y_neqb underlying4 rfl rfl rfl)) (gKf rfl (gE (gz hm [2, 3, 4, 6, 7] rfl)))))
  repeat clear hm
  intro s0_2 w hm
  refine gs 61 rfl (fun h0_4 => ?_) fun h0_4 => ?_
  ·
   exact gct rfl (gS (gR (gA rfl (gE (gRt (gr1 results8 rfl ⟨rfl, hm.below⟩))))))
  refine gcf rfl (gSk (gS (gR (gA rfl (gE (gS (gR (gY (yn (hm.blk_at 3 rfl) isAgg30 sizeOf30 rfl) (gM rfl ?_)))))))))
  obtain ⟨hz0_8, hle, hm1, hsub, hk0_2⟩ := hm.take2 (L1 := [ow [v0_9] r0_5.1.codes]) (L2 := [blk b0_1 [v1] 24, blk b0_2 [v0_5] 30, ow [v0_5] r0_3.1.codes, blk b0_4 [v0_9] 30]) [4] [0, 1, 2, 3] (by decide) rfl rfl
  refine gCg rfl call20 (laws_markUnit_ok _ hz0_8 r0_5.1 v0_9 1 hm1 ) ?_
  rintro r0_9 hx0_9 v0_14 w ⟨rfl, hB⟩
  replace hm := hk0_2 _ _ hB; clear hB
  refine gA rfl (gE (gS (gR (gA rfl (gE (gS (gR (gY (yn (hm.blk_at 4 rfl) isAgg30 sizeOf30 rfl) (gM rfl (gC hm rfl call35 (laws_heldUnit_ok _ (⟨r0_9.2⟩ : Unit_) v0_9 (hm.ow_rep 0 rfl) 1) fun r0_10 hx0_10 w hm => gA rfl (gE (gS (gS (gR (gM rfl (gB rfl (gE (gsd 69 rfl (fun h0_5 => ?_) fun h0_5 => ?_))))))))))))))))))
  ·
   exact gct rfl (gS (gR (gA rfl (gE (gRt (gr1 results8 rfl ⟨rfl, hm.below⟩))))))
  refine gcf rfl (gSk (gS (gS (gR (gM rfl (gM rfl (gB rfl (gE (gsd 72 rfl (fun h0_6 => ?_) fun h0_6 => ?_)))))))))
  ·
   exact gct rfl (gS (gR (gA rfl (gE (gRt (gr1 results8 rfl ⟨rfl, hm.below⟩))))))
  refine gcf rfl (gSk (gS (gR (gY (yn (hm.blk_at 1 rfl) isAgg24 sizeOf24 rfl) (gCg rfl call16 (laws_toUnit_ok _ aU v1 (hm.now h1)) ?_)))))
  rintro r0_11 hx0_11 v0_16 w ⟨v0_17, rfl, hB⟩
  replace hm := hm.give hB; clear hB
  refine gCg rfl call37 (impl_SplitEdges_ok _ r0_11 v0_17 (hm.ow_rep 0 rfl)) ?_
  rintro r0_12 hx0_12 v0_18 w ⟨v0_19, rfl, hB⟩
  replace hm := hm.give hB; clear hB
  refine gM rfl (gX rfl (gX rfl (gAl hm zeroValue30 rfl fun b0_5 w hm => gSN hm 0 sizeOf30 (one_cons (rep_one (hm.ow_rep 1 rfl)) one_nil) rfl fun w hm => gA rfl (gE (gS (gS (gJ hm (fun s0_3 => [(7, (pV b0_4)), (10, (nV r0_9.1)), (87, (.bool (s0_3)))]) (fun s0_3 => [blk b0_4 [v0_9] 30, ow [v0_9] r0_9.2]) (fun s0_3 => ?_) ?_)))))))
  ·
   refine gR (gY (yn (hm.blk_at 0 rfl) isAgg30 sizeOf30 rfl) (gY (yn (hm.blk_at 5 rfl) isAgg30 sizeOf30 rfl) (gC hm rfl call19 (laws_eqUnit_ok _ r0_12.1 v0_19 (hm.ow_rep 1 rfl) r0_3.1 v0_5 (hm.ow_rep 6 rfl)) fun r1_3 hx1_3 w hm => gN rfl (gM rfl (gsn 83 rfl (fun h1_4 => ?_) fun h1_4 => ?_)))))
   ·
    exact gO rfl (gO rfl (gO rfl (gKt rfl (gE (gz hm [7, 3] rfl)))))
   exact gM rfl (gM rfl (gY (yG rfl (y_neqb underlying4 rfl rfl rfl)) (gKf rfl (gE (gz hm [7, 3] rfl)))))
  repeat clear hm
  intro s0_3 w hm
  refine gs 87 rfl (fun h0_7 => ?_) fun h0_7 => ?_
  ·
   exact gct rfl (gS (gR (gA rfl (gE (gRt (gr1 results8 rfl ⟨rfl, hm.below⟩))))))
  refine gcf rfl (gSk (gS (gR (gA rfl (gE (gS (gR (gY (yn (hm.blk_at 0 rfl) isAgg30 sizeOf30 rfl) (gM rfl (gC hm rfl call35 (laws_heldUnit_ok _ (⟨r0_9.2⟩ : Unit_) v0_9 (hm.ow_rep 1 rfl) 1) fun r0_13 hx0_13 w hm => gA rfl (gE (gS (gS (gR (gM rfl (gB rfl (gE (gsd 92 rfl (fun h0_8 => ?_) fun h0_8 => ?_))))))))))))))))))
  ·
   exact gct rfl (gS (gR (gA rfl (gE (gRt (gr1 results8 rfl ⟨rfl, hm.below⟩))))))
  refine gcf rfl (gSk (gS (gS (gR (gM rfl (gM rfl (gB rfl (gE (gsd 95 rfl (fun h0_9 => ?_) fun h0_9 => ?_)))))))))
  ·
   exact gct rfl (gS (gR (gA rfl (gE (gRt (gr1 results8 rfl ⟨rfl, hm.below⟩))))))
  exact gcf rfl (gSk (gS (gR (gA rfl (gE (gRt (gr1 results8 rfl ⟨rfl, hm.below⟩)))))))

end Go.Proofs.YtpllkdbmgcmklaaGreat
