/- A part of the proof of FnExactSkipEmptySaid. -/
import Derived.Test.YtjkdjdicpfjifaaGreatSkWalksA
namespace Go.Proofs.YtjkdjdicpfjifaaGreat
open Go Go.Wk Go.RowKit
set_option maxRecDepth 4000
set_option maxHeartbeats 4000000

open Tryz
theorem spec_l10Pick_ok (w0 : World) (c_ : Code_) (v1 : Value) (h1 : GT.rep (hp w0) [v1] c_.blocks) (list : List Int) (v2 : Value) (h2 : GT.rep (hp w0) [v2] list) :
    ConM Tryz.prog 78 [(.agg #[(nV c_.params), (nV c_.regs), v1]), v2] w0 (spec_l10Pick c_ list) fun r v w' => ∃ (x1 : Value), v = (.agg #[(nV r.params), (nV r.regs), x1]) ∧ Mem w0 (hp w0) w' [ow [x1] r.blocks] := by
  unfold spec_l10Pick
  refine gcon func78 rfl fun r => ?_
  have hm := Mem.start w0
  refine gS (gR (gBx hm rfl fun b0_1 w hm => gAl hm zeroValue45 rfl fun b0_2 w hm => gE (gS (gR (gF fo_45_2 rfl (gL hm 1 isAgg43 rfl ?_))))))
  obtain ⟨p0_1, c0_1, rfl, hl0_1⟩ := ro_slice h1
  refine gY (yV st_43 rfl) (gM rfl (gCg rfl call127 (spec_l10Place_ok _ (c_.blocks.length : Int) list v2 (hm.now h2)) ?_))
  rintro r0_1 hx0_1 v0_1 w ⟨_, rfl, hB⟩
  replace hm := hm.give hB; clear hB
  refine gA rfl (gE (gS (gR (gF fo_45_0 rfl (gL hm 2 isAgg3 rfl (gF fo_45_1 rfl (gL hm 2 isAgg3 rfl (gY (yG rfl (y_build (vs := [(0, (nV c_.params)), (1, (nV c_.regs))]) (cs := #[(nV c_.params), (nV c_.regs), (.slice none 0 0)]) rfl rfl (by kernel_rfl))) (gAl hm zeroValue45 rfl fun b0_3 w hm => gSN hm 0 sizeOf45 (one_cons rfl (one_cons rfl (one_cons rfl one_nil))) rfl fun w hm => gE (gS (gS (gR (gA rfl (gE ?_))))))))))))))
  obtain ⟨p0_2, c0_2, rfl, hl0_2⟩ := ro_slice (hm.ow_rep 1 rfl)
  refine gBk ?_
  replace hm := hm.nilow (α := Block_)
  refine gNg (fun i1_1 xs1_1 a w => ∃ (v1_1 : Value), St 134 [(1, v2), (2, (pV b0_1)), (4, (pV b0_2)), (5, (.slice p0_2 r0_1.length c0_2)), (6, (pV b0_3)), (7, (nV i1_1))] w0 (hp w0) [blk b0_1 [(nV c_.params), (nV c_.regs), (.slice p0_1 c_.blocks.length c0_1)] 45, blk b0_2 [(nV 0), (nV 0), (.slice none 0 0)] 45, ow [(.slice p0_2 r0_1.length c0_2)] r0_1, blk b0_3 [(nV c_.params), (nV c_.regs), v1_1] 45, ow [v1_1] xs1_1] a w) (fun a hf => ⟨(.slice none 0 0), hf.sb rfl, hm.pk [4, 3, 2, 1, 0] rfl rfl⟩) ?_ ?_
  ·
   repeat clear hm
   rintro _ _ i1_1 xs1_1 a w ⟨v1_1, hf, hm⟩ hi0_1 hi0_2 q0_1 _
   refine gv hf (gS (gS (gR (gM rfl (gM rfl ?_)))))
   obtain ⟨p1_1, c1_1, rfl, hl1_1⟩ := ro_slice h2
   refine gY (yV st_47 rfl) (gB rfl (gE (go _ 29 rfl (decide_eq_true (by omega)) (gct rfl (gSk (gS (gBk (gS (gJg (fun s1_1 a w => ∃ (b1_1 : Nat) (v1_2 : Value) (v1_3 : Value) (v1_4 : Value), St 134 [(1, (.slice p1_1 list.length c1_1)), (2, (pV b0_1)), (4, (pV b0_2)), (5, (.slice p0_2 r0_1.length c0_2)), (6, (pV b0_3)), (7, (nV i1_1)), (8, (pV b1_1))] w0 (hp w0) [blk b0_1 [(nV c_.params), (nV c_.regs), (.slice p0_1 c_.blocks.length c0_1)] 45, blk b0_2 [(nV 0), (nV 0), (.slice none 0 0)] 45, ow [(.slice p0_2 r0_1.length c0_2)] r0_1, blk b0_3 [(nV c_.params), (nV c_.regs), v1_1] 45, ow [v1_1] xs1_1, blk b1_1 [v1_2, v1_3, (nV s1_1.2.2.1), (nV s1_1.2.2.2.1), v1_4] 61, ow [v1_2] s1_1.1, ow [v1_3] s1_1.2.1, ow [v1_4] s1_1.2.2.2.2] a w) (fun s1_1 => ?_) ?_)))))))))
   ·
    refine gW (.p 0 (.p 2 (.p 3 (.p 4 (.q 1 (.q 5 (.p 6 (.e 7 (.e 8 (.e 9 (.e 10 .fin .nil) .nil) (.e 9 (.e 8 (.e 10 .fin .nil) .nil) .nil)) (.e 9 (.e 7 (.e 8 (.e 10 .fin .nil) .nil) .nil) .nil))))))))) [1, 5, 9] [0, 2, 3, 4, 6] hm [0, 1, 2, 3, 4] [blk b0_1 [(nV c_.params), (nV c_.regs), (.slice p0_1 c_.blocks.length c0_1)] 45, blk b0_2 [(nV 0), (nV 0), (.slice none 0 0)] 45, ow [(.slice p0_2 r0_1.length c0_2)] r0_1, blk b0_3 [(nV c_.params), (nV c_.regs), v1_1] 45, ow [v1_1] xs1_1] rfl mxo (by kernel_rfl) (fun _ _ _ h => h.2) fun w hm hS => tP rfl (fun w => yF fo_45_2 rfl) (tP rfl (fun w => yM rfl) (tP rfl (fun w => yM rfl) (gg fun x2_1 h2_1 hx2_2 => ?_)))
    obtain ⟨b2_1, o2_1, c2_1, he⟩ := idx_form h2 hx2_2
    simp only [Value.slice.injEq, Option.some.injEq] at he; obtain ⟨rfl, _, rfl⟩ := he
    refine tP rfl (fun w => yI st_47 h2_1 (idx_lt hx2_2) rfl) (tQ rfl hS (fun w hm => yL hm 0 isAgg43 rfl) (tQ rfl hS (fun w hm => yl isAgg3 ((flat_cells (cs := [(nV x2_1)]) (hm.now h2) hx2_2 rfl).cell (j := 0) rfl) rfl) (gg fun x2_2 h2_2 hx2_4 => ?_)))
    obtain ⟨b2_2, o2_2, c2_2, he⟩ := idx_form' h1 hx2_4
    simp only [Value.slice.injEq, Option.some.injEq] at he; obtain ⟨rfl, _, rfl⟩ := he
    obtain ⟨v2_1, v2_2, v2_3, hc2_1, h2_3, h2_4, h2_5⟩ := rk_Block_ h1 hx2_4
    refine tP rfl (fun w => yI st_43 h2_2 (idx_lt hx2_4) rfl) (gb fun pb2_1 hpb2_1 => tMo ?_ ?_)
    ·
     refine tY rfl (yn (hc2_1.mono hm.lez) isAgg61 sizeOf61 rfl) (tAn rfl (tMo ?_ ?_))
     ·
      refine tf rfl rfl (fun a hf => e_call hf rfl call128 rfl (spec_l7CopyBlock_ok _ x2_2 v2_1 (hm.now h2_3) v2_2 (hm.now h2_4) v2_3 (hm.now h2_5) _ hpb2_1)) ?_
      rintro v2_4 w ⟨v2_5, v2_6, v2_7, rfl, hB⟩
      replace hm := hm.give hB; clear hB
      refine tAn rfl (tO (tf rfl rfl (fun a hf => e_alloc hm zeroValue61 rfl rfl) ?_))
      rintro _ w ⟨b2_3, rfl, hm⟩
      refine tAk hm [4, 5, 6, 7, 8] rfl fun hS => tO (tf0 rfl rfl (fun a hf => e_storeN 0 hf hm rfl sizeOf61 rfl rfl rfl (one_cons (rep_one (hm.ow_rep 1 rfl)) (one_cons (rep_one (hm.ow_rep 2 rfl)) (one_cons rfl (one_cons rfl (one_cons (rep_one (hm.ow_rep 3 rfl)) one_nil))))) rfl rfl) ?_)
      rintro _ w hm
      exact tAn rfl (tE (gZ fun a hf => ⟨b2_3, v2_5, v2_6, v2_7, hf.sb rfl, hm.pk [4, 5, 6, 7, 8, 0, 1, 2, 3] rfl rfl⟩))
     refine tO (tf rfl rfl (fun a hf => e_alloc hm zeroValue61 rfl rfl) ?_)
     rintro _ w ⟨b2_4, rfl, hm⟩
     refine tAk hm [1, 2, 3, 4, 5] rfl fun hS => tO (tf rfl rfl (fun a hf => e_call hf rfl call128 rfl (spec_l7CopyBlock_ok _ x2_2 v2_1 (hm.now h2_3) v2_2 (hm.now h2_4) v2_3 (hm.now h2_5) _ hpb2_1)) ?_)
     rintro v2_8 w ⟨v2_9, v2_10, v2_11, rfl, hB⟩
     replace hm := hm.give hB; clear hB
     refine tAn rfl (tO (tf0 rfl rfl (fun a hf => e_storeN 3 hf hm rfl sizeOf61 rfl rfl rfl (one_cons (rep_one (hm.ow_rep 0 rfl)) (one_cons (rep_one (hm.ow_rep 1 rfl)) (one_cons rfl (one_cons rfl (one_cons (rep_one (hm.ow_rep 2 rfl)) one_nil))))) rfl rfl) ?_))
     rintro _ w hm
     exact tAn rfl (tE (gZ fun a hf => ⟨b2_4, v2_9, v2_10, v2_11, hf.sb rfl, hm.pk [4, 5, 6, 7, 8, 3, 0, 1, 2] rfl rfl⟩))
    refine tO (tf rfl rfl (fun a hf => e_alloc hm zeroValue61 rfl rfl) ?_)
    rintro _ w ⟨b2_5, rfl, hm⟩
    refine tAk hm [1, 2, 3, 4, 5] rfl fun hS => tO (tY rfl (yn (hc2_1.mono hm.lez) isAgg61 sizeOf61 rfl) (tAn rfl (tO (tf rfl rfl (fun a hf => e_call hf rfl call128 rfl (spec_l7CopyBlock_ok _ x2_2 v2_1 (hm.now h2_3) v2_2 (hm.now h2_4) v2_3 (hm.now h2_5) _ hpb2_1)) ?_))))
    rintro v2_12 w ⟨v2_13, v2_14, v2_15, rfl, hB⟩
    replace hm := hm.give hB; clear hB
    refine tAn rfl (tO (tf0 rfl rfl (fun a hf => e_storeN 3 hf hm rfl sizeOf61 rfl rfl rfl (one_cons (rep_one (hm.ow_rep 0 rfl)) (one_cons (rep_one (hm.ow_rep 1 rfl)) (one_cons rfl (one_cons rfl (one_cons (rep_one (hm.ow_rep 2 rfl)) one_nil))))) rfl rfl) ?_))
    rintro _ w hm
    exact tAn rfl (tE (gZ fun a hf => ⟨b2_5, v2_13, v2_14, v2_15, hf.sb rfl, hm.pk [4, 5, 6, 7, 8, 3, 0, 1, 2] rfl rfl⟩))
   repeat clear hm
   rintro s1_1 a w ⟨b1_1, v1_2, v1_3, v1_4, hf, hm⟩
   refine gv hf (gS (gS (gR (gA rfl (gE ?_)))))
   obtain ⟨p1_2, c1_2, rfl, hl1_2⟩ := ro_slice (hm.ow_rep 4 rfl)
   obtain ⟨p1_3, c1_3, rfl, hl1_3⟩ := ro_slice (hm.ow_rep 6 rfl)
   obtain ⟨p1_4, c1_4, rfl, hl1_4⟩ := ro_slice (hm.ow_rep 7 rfl)
   obtain ⟨p1_5, c1_5, rfl, hl1_5⟩ := ro_slice (hm.ow_rep 8 rfl)
   refine gBk (gNf hm (fun i2_1 xs2_1 => [(1, (.slice p1_1 list.length c1_1)), (2, (pV b0_1)), (4, (pV b0_2)), (5, (.slice p0_2 r0_1.length c0_2)), (6, (pV b0_3)), (7, (nV i1_1)), (8, (pV b1_1)), (9, (nV i2_1))]) (fun i2_1 xs2_1 => [blk b0_1 [(nV c_.params), (nV c_.regs), (.slice p0_1 c_.blocks.length c0_1)] 45, blk b0_2 [(nV 0), (nV 0), (.slice none 0 0)] 45, ow [(.slice p0_2 r0_1.length c0_2)] r0_1, blk b0_3 [(nV c_.params), (nV c_.regs), (.slice p1_2 xs1_1.length c1_2)] 45, ow [(.slice p1_2 xs1_1.length c1_2)] xs1_1, blk b1_1 [(.slice p1_3 s1_1.1.length c1_3), (.slice p1_4 s1_1.2.1.length c1_4), (nV s1_1.2.2.1), (nV s1_1.2.2.2.1), (.slice p1_5 s1_1.2.2.2.2.length c1_5)] 61, ow [(.slice p1_3 s1_1.1.length c1_3)] s1_1.1, ow [(.slice p1_4 s1_1.2.1.length c1_4)] s1_1.2.1, ow [(.slice p1_5 s1_1.2.2.2.2.length c1_5)] xs2_1]) [0, 1, 2, 3, 4, 5, 6, 7, 8] rfl ?_ ?_)
   ·
    repeat clear hm
    intro _ _ i2_1 xs2_1 w hm hi1_1 hi1_2 q1_1 _
    refine gS (gS (gR (gM rfl (gF fo_61_4 rfl (gL hm 5 isAgg47 rfl ?_)))))
    have hl2_1 := rep_len (hm.ow_rep 8 rfl)
    refine gY (yV st_47 rfl) (gB rfl (gE (go _ 45 rfl (decide_eq_true (by omega)) (gct rfl (gSk (gS (gBk (gW (.p 0 (.p 2 (.p 3 (.p 4 (.p 6 (.q 1 (.e 5 (.p 7 (.e 8 (.p 9 (.e 10 (.p 11 (.e 12 .fin .nil)) .nil)) .nil)) .nil))))))) [5, 8, 10] [0, 2, 3, 4, 6, 7, 9, 11] hm [0, 1, 2, 3, 4, 5, 6, 7, 8] [blk b0_1 [(nV c_.params), (nV c_.regs), (.slice p0_1 c_.blocks.length c0_1)] 45, blk b0_2 [(nV 0), (nV 0), (.slice none 0 0)] 45, ow [(.slice p0_2 r0_1.length c0_2)] r0_1, blk b0_3 [(nV c_.params), (nV c_.regs), (.slice p1_2 xs1_1.length c1_2)] 45, ow [(.slice p1_2 xs1_1.length c1_2)] xs1_1, blk b1_1 [(.slice p1_3 s1_1.1.length c1_3), (.slice p1_4 s1_1.2.1.length c1_4), (nV s1_1.2.2.1), (nV s1_1.2.2.2.1), (.slice p1_5 s1_1.2.2.2.2.length c1_5)] 61, ow [(.slice p1_3 s1_1.1.length c1_3)] s1_1.1, ow [(.slice p1_4 s1_1.2.1.length c1_4)] s1_1.2.1, ow [(.slice p1_5 s1_1.2.2.2.2.length c1_5)] xs2_1] rfl mxo (by kernel_rfl) (fun _ _ _ h => h.2) fun w hm hS => tP rfl (fun w => yF fo_61_4 rfl) (tP rfl (fun w => yM rfl) (tP rfl (fun w => yM rfl) (tP rfl (fun w => yF fo_61_4 rfl) (tP rfl (fun w => yM rfl) (tQ rfl hS (fun w hm => yL hm 5 isAgg47 rfl) (tO (tY rfl (yL hm 5 isAgg47 rfl) (tAs hS (gg fun x2_3 h2_6 hx2_6 => ?_)))))))))))))))))
    obtain ⟨b2_6, o2_3, c2_3, he⟩ := idx_form (hm.ow_rep 8 rfl) hx2_6
    simp only [Value.slice.injEq, Option.some.injEq] at he; obtain ⟨rfl, _, rfl⟩ := he
    have hL2_1 := rep_slice_len (hm.ow_rep 8 rfl)
    refine tP rfl (fun w => yI st_47 h2_6 (idx_lt2 hx2_6 hL2_1) rfl) (tO (tY rfl (yl isAgg3 ((flat_cells (cs := [(nV x2_3)]) (hm.ow_rep 8 rfl) hx2_6 rfl).cell (j := 0) rfl) rfl) (tAs hS (gg fun x2_4 h2_7 hx2_8 => ?_))))
    obtain ⟨b2_7, o2_4, c2_4, he⟩ := idx_form (hm.ow_rep 2 rfl) hx2_8
    simp only [Value.slice.injEq, Option.some.injEq] at he; obtain ⟨rfl, _, rfl⟩ := he
    refine tP rfl (fun w => yI st_47 h2_7 (idx_lt hx2_8) rfl) (tO (tY rfl (yl isAgg3 ((flat_cells (cs := [(nV x2_4)]) (hm.ow_rep 2 rfl) hx2_8 rfl).cell (j := 0) rfl) rfl) (tAs hS ?_)))
    have hL2_2 := rep_slice_len (hm.ow_rep 8 rfl)
    refine tP rfl (fun w => yI st_47 h2_6 (idx_lt2 hx2_6 hL2_2) rfl) (tO (tf0 rfl rfl (fun a hf => e_setElem (x1 := x2_4) (j := 0) (vs := [(nV x2_4)]) 8 hf hm rfl hx2_6 rfl sizeOf3 rfl rfl rfl (one_cons rfl one_nil) rfl rfl) ?_))
    rintro _ w hm
    have hx2_9 := List.getElem?_set_self (a := x2_4) (idx_lt hx2_6)
    exact tAn rfl (tE (gR (gM rfl (gP (by omega) (by omega) rfl (gA rfl (gE (gze hm [0, 1, 2, 3, 4, 5, 6, 7, 8] rfl)))))))
   repeat clear hm
   intro i1_2 xs1_2 w hm hi1_3 hi1_4
   refine gS (gS (gR (gM rfl (gF fo_61_4 rfl (gL hm 5 isAgg47 rfl ?_)))))
   have hl1_6 := rep_len (hm.ow_rep 8 rfl)
   refine gY (yV st_47 rfl) (gB rfl (gE (go _ 45 rfl (decide_eq_false (by omega)) (gcf rfl (gXt (gHh (gR (gF fo_45_2 rfl (gL hm 3 isAgg43 rfl (gY (yn (hm.blk_at 5 rfl) isAgg61 sizeOf61 rfl) (gf rfl (fun a hf => e_build (vs := #[(0, (.agg #[(.slice p1_3 s1_1.1.length c1_3), (.slice p1_4 s1_1.2.1.length c1_4), (nV s1_1.2.2.1), (nV s1_1.2.2.2.1), (.slice p1_5 s1_1.2.2.2.2.length c1_5)]))]) (cs := [(.slice p1_3 s1_1.1.length c1_3), (.slice p1_4 s1_1.2.1.length c1_4), (nV s1_1.2.2.1), (nV s1_1.2.2.2.1), (.slice p1_5 s1_1.2.2.2.2.length c1_5)]) et_43 hf hm rfl rfl (by kernel_rfl) rfl rfl) ?_)))))))))))
   rintro _ w ⟨b1_2, rfl, hm⟩
   replace hm := hm.els_nil (α := Block_)
   replace hm := (mk_Block_ s1_1.2.2.1 s1_1.2.2.2.1 hm 8 9 10 rfl).pk (L' := [els [] ([] : List Block_), blk b1_2 [(.slice p1_3 s1_1.1.length c1_3), (.slice p1_4 s1_1.2.1.length c1_4), (nV s1_1.2.2.1), (nV s1_1.2.2.2.1), (.slice p1_5 s1_1.2.2.2.2.length c1_5)] 61, blk b0_1 [(nV c_.params), (nV c_.regs), (.slice p0_1 c_.blocks.length c0_1)] 45, blk b0_2 [(nV 0), (nV 0), (.slice none 0 0)] 45, ow [(.slice p0_2 r0_1.length c0_2)] r0_1, blk b0_3 [(nV c_.params), (nV c_.regs), (.slice p1_2 xs1_1.length c1_2)] 45, ow [(.slice p1_2 xs1_1.length c1_2)] xs1_1, blk b1_1 [(.slice p1_3 s1_1.1.length c1_3), (.slice p1_4 s1_1.2.1.length c1_4), (nV s1_1.2.2.1), (nV s1_1.2.2.2.1), (.slice p1_5 s1_1.2.2.2.2.length c1_5)] 61, ow [(.slice p1_3 s1_1.1.length c1_3), (.slice p1_4 s1_1.2.1.length c1_4), (nV s1_1.2.2.1), (nV s1_1.2.2.2.1), (.slice p1_5 s1_1.2.2.2.2.length c1_5)] ((⟨s1_1.1, s1_1.2.1, s1_1.2.2.1, s1_1.2.2.2.1, xs1_2⟩ : Block_) : Block_)]) [0, 1, 2, 3, 4, 5, 6, 7, 8] rfl rfl
   replace hm := (hm.els_cons 0 8 (by decide) rfl rfl).pk (L' := [els [(.slice p1_3 s1_1.1.length c1_3), (.slice p1_4 s1_1.2.1.length c1_4), (nV s1_1.2.2.1), (nV s1_1.2.2.2.1), (.slice p1_5 s1_1.2.2.2.2.length c1_5)] ([(⟨s1_1.1, s1_1.2.1, s1_1.2.2.1, s1_1.2.2.2.1, xs1_2⟩ : Block_)] : List Block_), blk b1_2 [(.slice p1_3 s1_1.1.length c1_3), (.slice p1_4 s1_1.2.1.length c1_4), (nV s1_1.2.2.1), (nV s1_1.2.2.2.1), (.slice p1_5 s1_1.2.2.2.2.length c1_5)] 61, blk b0_1 [(nV c_.params), (nV c_.regs), (.slice p0_1 c_.blocks.length c0_1)] 45, blk b0_2 [(nV 0), (nV 0), (.slice none 0 0)] 45, ow [(.slice p0_2 r0_1.length c0_2)] r0_1, blk b0_3 [(nV c_.params), (nV c_.regs), (.slice p1_2 xs1_1.length c1_2)] 45, ow [(.slice p1_2 xs1_1.length c1_2)] xs1_1, blk b1_1 [(.slice p1_3 s1_1.1.length c1_3), (.slice p1_4 s1_1.2.1.length c1_4), (nV s1_1.2.2.1), (nV s1_1.2.2.2.1), (.slice p1_5 s1_1.2.2.2.2.length c1_5)] 61]) [0, 1, 2, 3, 4, 5, 6, 7] rfl rfl
   replace hm := (hm.lit_els 1 0 (by decide) rfl rfl rfl rfl).pk (L' := [ow [(sV b1_2 0 1 1)] ([(⟨s1_1.1, s1_1.2.1, s1_1.2.2.1, s1_1.2.2.2.1, xs1_2⟩ : Block_)] : List Block_), blk b0_1 [(nV c_.params), (nV c_.regs), (.slice p0_1 c_.blocks.length c0_1)] 45, blk b0_2 [(nV 0), (nV 0), (.slice none 0 0)] 45, ow [(.slice p0_2 r0_1.length c0_2)] r0_1, blk b0_3 [(nV c_.params), (nV c_.regs), (.slice p1_2 xs1_1.length c1_2)] 45, ow [(.slice p1_2 xs1_1.length c1_2)] xs1_1, blk b1_1 [(.slice p1_3 s1_1.1.length c1_3), (.slice p1_4 s1_1.2.1.length c1_4), (nV s1_1.2.2.1), (nV s1_1.2.2.2.1), (.slice p1_5 s1_1.2.2.2.2.length c1_5)] 61]) [1, 2, 3, 4, 5, 6, 7] rfl rfl
   refine gb fun ys1_1 hx1_1 => ?_
   obtain ⟨h1_1, h1_1e⟩ := appM_some.1 hx1_1
   replace hm := (hm.both 5 0 (by decide) rfl rfl).pk (L' := [blk b0_1 [(nV c_.params), (nV c_.regs), (.slice p0_1 c_.blocks.length c0_1)] 45, blk b0_2 [(nV 0), (nV 0), (.slice none 0 0)] 45, ow [(.slice p0_2 r0_1.length c0_2)] r0_1, blk b0_3 [(nV c_.params), (nV c_.regs), (.slice p1_2 xs1_1.length c1_2)] 45, both (ow [(.slice p1_2 xs1_1.length c1_2)] xs1_1) (ow [(sV b1_2 0 1 1)] ([(⟨s1_1.1, s1_1.2.1, s1_1.2.2.1, s1_1.2.2.2.1, xs1_2⟩ : Block_)] : List Block_)), blk b1_1 [(.slice p1_3 s1_1.1.length c1_3), (.slice p1_4 s1_1.2.1.length c1_4), (nV s1_1.2.2.1), (nV s1_1.2.2.2.1), (.slice p1_5 s1_1.2.2.2.2.length c1_5)] 61]) [1, 2, 3, 4, 5, 6] rfl rfl
   refine gf rfl (fun a hf => e_appendD (xs := xs1_1) (ys := ([(⟨s1_1.1, s1_1.2.1, s1_1.2.2.1, s1_1.2.2.2.1, xs1_2⟩ : Block_)] : List Block_)) 4 et_43 hf hm rfl rfl rfl rfl h1_1) ?_
   rintro v1_5 w hm
   rw [h1_1e] at hm
   exact gF fo_45_2 rfl (gS1 hm 3 sizeOf43 (rep_one (hm.ow_rep 4 rfl)) rfl fun w hm => gE (gR (gM rfl (gP (by omega) (by omega) rfl (gA rfl (gE (gZe fun a hf => ⟨v1_5, hf.sb rfl, hm.pk [0, 1, 2, 3, 4] rfl rfl⟩)))))))
  repeat clear hm
  rintro i0_1 xs0_1 a w ⟨v0_3, hf, hm⟩ hi0_3 hi0_4
  refine gv hf (gS (gS (gR (gM rfl (gM rfl ?_)))))
  obtain ⟨p0_3, c0_3, rfl, hl0_3⟩ := ro_slice h2
  refine gY (yV st_47 rfl) (gB rfl (gE (go _ 29 rfl (decide_eq_false (by omega)) (gcf rfl (gXt (gHh (gS (gS (gR (gA rfl (gE ?_)))))))))))
  obtain ⟨p0_4, c0_4, rfl, hl0_4⟩ := ro_slice (hm.ow_rep 4 rfl)
  refine gBk (gNf hm (fun i1_3 xs1_3 => [(1, (.slice p0_3 list.length c0_3)), (2, (pV b0_1)), (4, (pV b0_2)), (6, (pV b0_3)), (10, (nV i1_3))]) (fun i1_3 xs1_3 => [blk b0_1 [(nV c_.params), (nV c_.regs), (.slice p0_1 c_.blocks.length c0_1)] 45, blk b0_2 [(nV 0), (nV 0), (.slice none 0 0)] 45, blk b0_3 [(nV c_.params), (nV c_.regs), (.slice p0_4 xs0_1.length c0_4)] 45, ow [(.slice p0_4 xs0_1.length c0_4)] xs1_3]) [0, 1, 3, 4] rfl ?_ ?_)
  ·
   repeat clear hm
   intro _ _ i1_3 xs1_3 w hm hi0_5 hi0_6 q0_2 _
   refine gS (gS (gR (gM rfl (gM rfl (gY (yV st_47 rfl) (gB rfl (gE (go _ 69 rfl (decide_eq_true (by omega)) (gct rfl (gSk (gS (gBk (gS (gW (.p 1 (.p 2 (.p 3 (.q 0 (.e 4 (.e 5 (.p 6 .fin) .nil) .nil))))) [4] [1, 2, 3, 6] hm [0, 1, 2, 3] [blk b0_1 [(nV c_.params), (nV c_.regs), (.slice p0_1 c_.blocks.length c0_1)] 45, blk b0_2 [(nV 0), (nV 0), (.slice none 0 0)] 45, blk b0_3 [(nV c_.params), (nV c_.regs), (.slice p0_4 xs0_1.length c0_4)] 45, ow [(.slice p0_4 xs0_1.length c0_4)] xs1_3] rfl mxo (by kernel_rfl) (fun _ _ _ h => h.2) fun w hm hS => tP rfl (fun w => yM rfl) (tP rfl (fun w => yM rfl) (gg fun x1_1 h1_2 hx1_3 => ?_))))))))))))))))
   obtain ⟨b1_3, o1_1, c1_6, he⟩ := idx_form h2 hx1_3
   simp only [Value.slice.injEq, Option.some.injEq] at he; obtain ⟨rfl, _, rfl⟩ := he
   refine tP rfl (fun w => yI st_47 h1_2 (idx_lt hx1_3) rfl) (tQ rfl hS (fun w hm => yn (hm.blk_at 0 rfl) isAgg45 sizeOf45 rfl) (tO (tY rfl (yl isAgg3 ((flat_cells (cs := [(nV x1_1)]) (hm.now h2) hx1_3 rfl).cell (j := 0) rfl) rfl) (tAs hS (tO (gb fun r1_2 hx1_4 => tf rfl rfl (fun a hf => e_call hf rfl call124 rfl (spec_l7Preds_ok _ c_ (.slice p0_1 c_.blocks.length c0_1) (hm.now h1) x1_1 _ hx1_4)) ?_))))))
   rintro v1_6 w ⟨_, rfl, hB⟩
   replace hm := hm.give hB; clear hB
   refine tAn rfl (tP rfl (fun w => yA rfl) (tE (gS (gR (gY (yn (hm.blk_at 3 rfl) isAgg45 sizeOf45 rfl) (gM rfl (gCg rfl call124 (spec_l7Preds_ok _ (⟨c_.params, c_.regs, xs1_3⟩ : Code_) (.slice p0_4 xs0_1.length c0_4) (hm.ow_rep 4 rfl) i1_3) ?_)))))))
   rintro r1_3 hx1_5 v1_8 w ⟨_, rfl, hB⟩
   replace hm := hm.give hB; clear hB
   refine gA rfl (gE (gS (gR (gA rfl (gE ?_)))))
   obtain ⟨p1_6, c1_7, rfl, hl1_7⟩ := ro_slice (hm.ow_rep 1 rfl)
   obtain ⟨p1_7, c1_8, rfl, hl1_8⟩ := ro_slice (hm.ow_rep 0 rfl)
   refine gJ hm (fun s1_2 => [(1, (sV b1_3 o1_1 list.length c0_3)), (2, (pV b0_1)), (4, (pV b0_2)), (6, (pV b0_3)), (10, (nV i1_3))]) (fun s1_2 => [blk b0_1 [(nV c_.params), (nV c_.regs), (.slice p0_1 c_.blocks.length c0_1)] 45, blk b0_2 [(nV 0), (nV 0), (.slice none 0 0)] 45, blk b0_3 [(nV c_.params), (nV c_.regs), (.slice p0_4 xs0_1.length c0_4)] 45, ow [(.slice p0_4 xs0_1.length c0_4)] s1_2]) (fun s1_2 => ?_) ?_
   ·
    refine gBk (gMf hm (fun xs3_1 => [(1, (sV b1_3 o1_1 list.length c0_3)), (2, (pV b0_1)), (4, (pV b0_2)), (6, (pV b0_3)), (10, (nV i1_3)), (11, (.slice p1_6 r1_2.length c1_7)), (12, (.slice p1_7 r1_3.length c1_8)), (13, (nV xs3_1.2))]) (fun xs3_1 => [blk b0_1 [(nV c_.params), (nV c_.regs), (.slice p0_1 c_.blocks.length c0_1)] 45, blk b0_2 [(nV 0), (nV 0), (.slice none 0 0)] 45, blk b0_3 [(nV c_.params), (nV c_.regs), (.slice p0_4 xs0_1.length c0_4)] 45, ow [(.slice p0_4 xs0_1.length c0_4)] xs3_1.1, ow [(.slice p1_6 r1_2.length c1_7)] r1_2, ow [(.slice p1_7 r1_3.length c1_8)] r1_3]) [2, 3, 4, 5, 1, 0] rfl ?_)
    repeat clear hm
    intro r2_1 hq2_1 xs3_1 w hm q2_1 ho2_4
    refine gS (gS (gR (gM rfl (gF fo_45_2 rfl (gL hm 2 isAgg43 rfl (gM rfl (gg fun x3_1 h3_1 hx3_2 => ?_)))))))
    obtain ⟨b3_1, o3_1, c3_1, he⟩ := idx_form' (hm.ow_rep 3 rfl) hx3_2
    simp only [Value.slice.injEq, Option.some.injEq] at he; obtain ⟨rfl, _, rfl⟩ := he
    obtain ⟨v3_1, v3_2, v3_3, hc3_1, h3_2, h3_3, h3_4⟩ := rk_Block_ (hm.ow_rep 3 rfl) hx3_2
    have hL3_1 := rep_slice_len (hm.ow_rep 3 rfl)
    refine gI st_43 h3_1 (idx_lt2 hx3_2 hL3_1) rfl (gF fo_61_0 rfl ?_)
    obtain ⟨v3_4, v3_5, v3_6, hm⟩ := pin_Block_ hm 3 rfl hx3_2
    refine gY (yl isAgg58 ((hm.holeE_at 6 rfl).cell (j := 0) rfl) rfl) ?_
    obtain ⟨p3_1, c3_2, rfl, hl3_1⟩ := ro_slice (hm.ow_rep 2 rfl)
    refine gY (yV st_58 rfl) (gB rfl (gE (gsd 89 rfl (fun h3_5 => ?_) fun h3_5 => ?_)))
    ·
     refine gct rfl (gSk (gS (gBk (gS ?_))))
     replace hm := (mk_Block_ x3_1.jump x3_1.on hm 2 1 0 rfl).pk (L' := [ow [(.slice p3_1 x3_1.phis.length c3_2), v3_5, (nV x3_1.jump), (nV x3_1.on), v3_6] (x3_1 : Block_), blk b0_1 [(nV c_.params), (nV c_.regs), (.slice p0_1 c_.blocks.length c0_1)] 45, blk b0_2 [(nV 0), (nV 0), (.slice none 0 0)] 45, blk b0_3 [(nV c_.params), (nV c_.regs), (sV b3_1 o3_1 xs0_1.length c0_4)] 45, holeE b3_1 o3_1 xs0_1.length c0_4 (xs3_1.1 : List Block_) (i1_3).toNat [(.slice p3_1 x3_1.phis.length c3_2), v3_5, (nV x3_1.jump), (nV x3_1.on), v3_6], ow [(.slice p1_6 r1_2.length c1_7)] r1_2, ow [(.slice p1_7 r1_3.length c1_8)] r1_3]) [2, 3, 4, 5, 6, 7, 8] rfl rfl
     replace hm := (hm.shutE (y := (x3_1 : Block_)) 4 0 (by decide) rfl rfl).pk (L' := [blk b0_1 [(nV c_.params), (nV c_.regs), (.slice p0_1 c_.blocks.length c0_1)] 45, blk b0_2 [(nV 0), (nV 0), (.slice none 0 0)] 45, blk b0_3 [(nV c_.params), (nV c_.regs), (sV b3_1 o3_1 xs0_1.length c0_4)] 45, ow [(sV b3_1 o3_1 xs0_1.length c0_4)] (xs3_1.1.set (i1_3).toNat x3_1), ow [(.slice p1_6 r1_2.length c1_7)] r1_2, ow [(.slice p1_7 r1_3.length c1_8)] r1_3]) [1, 2, 3, 4, 5, 6] rfl rfl
     rw [set_same hx3_2] at hm
     refine gR (gf rfl (fun a hf => e_build0 (α := Int) et_47 hm rfl) ?_)
     rintro v3_7 w hm
     refine gA rfl (gE (gS (gS (gR (gA rfl (gE ?_))))))
     obtain ⟨p3_2, c3_3, rfl, hl3_2⟩ := ro_slice (hm.ow_rep 0 rfl)
     refine gBk (gNg (fun i4_1 xs4_1 a w => ∃ (v4_1 : Value), St 134 [(1, (sV b1_3 o1_1 list.length c0_3)), (2, (pV b0_1)), (4, (pV b0_2)), (6, (pV b0_3)), (10, (nV i1_3)), (11, (.slice p1_6 r1_2.length c1_7)), (12, (.slice p1_7 r1_3.length c1_8)), (13, (nV xs3_1.2)), (14, v4_1), (15, (nV i4_1))] w0 (hp w0) [blk b0_1 [(nV c_.params), (nV c_.regs), (.slice p0_1 c_.blocks.length c0_1)] 45, blk b0_2 [(nV 0), (nV 0), (.slice none 0 0)] 45, blk b0_3 [(nV c_.params), (nV c_.regs), (sV b3_1 o3_1 xs0_1.length c0_4)] 45, ow [(sV b3_1 o3_1 xs0_1.length c0_4)] xs3_1.1, ow [(.slice p1_6 r1_2.length c1_7)] r1_2, ow [(.slice p1_7 r1_3.length c1_8)] r1_3, ow [v4_1] xs4_1] a w) (fun a hf => ⟨(.slice p3_2 ([] : List Int).length c3_3), hf.sb rfl, hm.pk [1, 2, 3, 4, 5, 6, 0] rfl rfl⟩) ?_ ?_)
     ·
      repeat clear hm
      rintro _ _ i4_1 xs4_1 a w ⟨v4_1, hf, hm⟩ hi3_1 hi3_2 q3_1 _
      refine gv hf (gS (gS (gR (gM rfl (gM rfl (gY (yV st_47 rfl) (gB rfl (gE (go _ 96 rfl (decide_eq_true (by omega)) (gct rfl (gSk (gS (gBk (gJg (fun s4_1 a w => ∃ (v4_2 : Value), St 134 [(1, (sV b1_3 o1_1 list.length c0_3)), (2, (pV b0_1)), (4, (pV b0_2)), (6, (pV b0_3)), (10, (nV i1_3)), (11, (.slice p1_6 r1_2.length c1_7)), (12, (.slice p1_7 r1_3.length c1_8)), (13, (nV xs3_1.2)), (14, v4_2), (15, (nV i4_1))] w0 (hp w0) [blk b0_1 [(nV c_.params), (nV c_.regs), (.slice p0_1 c_.blocks.length c0_1)] 45, blk b0_2 [(nV 0), (nV 0), (.slice none 0 0)] 45, blk b0_3 [(nV c_.params), (nV c_.regs), (sV b3_1 o3_1 xs0_1.length c0_4)] 45, ow [(sV b3_1 o3_1 xs0_1.length c0_4)] xs3_1.1, ow [(.slice p1_6 r1_2.length c1_7)] r1_2, ow [(.slice p1_7 r1_3.length c1_8)] r1_3, ow [v4_2] s4_1] a w) (fun s4_1 => ?_) ?_))))))))))))))
      ·
       refine gW (.p 0 (.p 1 (.p 3 (.p 7 (.p 11 (.p 12 (.p 13 (.p 14 (.p 15 (.q 2 (.p 4 (.p 5 (.q 16 (.p 17 (.q 18 (.e 6 (.p 8 (.p 9 (.e 10 (.e 19 (.p 20 (.e 21 (.e 22 (.e 23 (.p 24 .fin) .nil) .nil) .nil)) .nil) (.e 19 (.e 10 (.p 20 (.e 21 (.e 22 (.e 23 (.p 24 .fin) .nil) .nil) .nil)) .nil) .nil)))) (.e 19 (.e 6 (.p 8 (.p 9 (.e 10 (.p 20 (.e 21 (.e 22 (.e 23 (.p 24 .fin) .nil) .nil) .nil)) .nil))) .nil) .nil))))))))))))))))) [2, 6, 10, 16, 18, 19] [0, 1, 3, 4, 5, 7, 8, 9, 11, 12, 13, 14, 15, 17, 20, 24] hm [0, 1, 2, 4, 5, 6] [blk b0_1 [(nV c_.params), (nV c_.regs), (.slice p0_1 c_.blocks.length c0_1)] 45, blk b0_2 [(nV 0), (nV 0), (.slice none 0 0)] 45, blk b0_3 [(nV c_.params), (nV c_.regs), (sV b3_1 o3_1 xs0_1.length c0_4)] 45, ow [(.slice p1_6 r1_2.length c1_7)] r1_2, ow [(.slice p1_7 r1_3.length c1_8)] r1_3, ow [v4_1] xs4_1] rfl mxo (by kernel_rfl) (fun _ _ _ h => h.2) fun w hm hS => tP rfl (fun w => yM rfl) (tP rfl (fun w => yF fo_45_2 rfl) (tP rfl (fun w => yM rfl) (tP rfl (fun w => yM rfl) (tP rfl (fun w => yM rfl) (tP rfl (fun w => yM rfl) (tP rfl (fun w => yM rfl) (tP rfl (fun w => yM rfl) (gg fun x5_1 h5_1 hx5_2 => ?_))))))))
       obtain ⟨b5_1, o5_1, c5_1, he⟩ := idx_form (hm.ow_rep 5 rfl) hx5_2
       simp only [Value.slice.injEq, Option.some.injEq] at he; obtain ⟨rfl, _, rfl⟩ := he
       refine tP rfl (fun w => yI st_47 h5_1 (idx_lt hx5_2) rfl) (tQ rfl hS (fun w hm => yL hm 2 isAgg43 rfl) (gg fun x5_2 h5_2 hx5_4 => ?_))
       obtain ⟨v5_1, v5_2, v5_3, hc5_1, h5_3, h5_4, h5_5⟩ := rk_Block_ (hm.ow_rep 3 rfl) hx5_4
       have hL5_1 := rep_slice_len (hm.ow_rep 3 rfl)
       refine tP rfl (fun w => yI st_43 h5_2 (idx_lt2 hx5_4 hL5_1) rfl) (tP rfl (fun w => yF fo_61_0 rfl) (tQ rfl hS (fun w hm => yl isAgg3 ((flat_cells (cs := [(nV x5_1)]) (hm.ow_rep 4 rfl) hx5_2 rfl).cell (j := 0) rfl) rfl) (gg fun x5_3 h5_6 hx5_6 => tP rfl (fun w => yI st_47 h5_6 (idx_lt hx5_6) rfl) (tQ rfl hS (fun w hm => yl isAgg3 ((flat_cells (cs := [(nV x5_3)]) (hm.now h2) hx5_6 rfl).cell (j := 0) rfl) rfl) (gb fun pb5_1 hpb5_1 => gb fun pb5_2 hpb5_2 => gb fun pb5_3 hpb5_3 => gb fun pb5_4 hpb5_4 => tMo ?_ ?_)))))
       ·
        obtain ⟨v5_4, v5_5, v5_6, hm⟩ := pin_Block_ hm 3 rfl hx5_4
        refine tY rfl (yl isAgg58 ((hm.holeE_at 6 rfl).cell (j := 0) rfl) rfl) (tAk hm [3, 4, 5, 7, 8, 9] rfl fun hS => ?_)
        obtain ⟨h5_7, hx5_7⟩ := getI_some.1 hpb5_1
        obtain ⟨b5_2, o5_2, c5_2, he⟩ := idx_form' (hm.ow_rep 2 rfl) hx5_7
        subst he
        obtain ⟨v5_7, hc5_2, h5_8⟩ := rk_Phi_ (hm.ow_rep 2 rfl) hx5_7
        refine tP rfl (fun w => yI st_58 h5_7 (idx_lt hx5_7) rfl) (tP rfl (fun w => yF fo_86_1 rfl) (tMo ?_ ?_))
        ·
         obtain ⟨v5_8, hm⟩ := pin_Phi_ hm 2 rfl hx5_7
         refine tY rfl (yl isAgg47 ((hm.holeE_at 3 rfl).cell (j := 1) rfl) rfl) (tAk hm [4, 5, 6, 8, 9, 10] rfl fun hS => tO (tf rfl rfl (fun a hf => e_call hf rfl call129 rfl (spec_l10At_ok _ r1_2 (.slice p1_6 r1_2.length c1_7) (hm.ow_rep 8 rfl) x5_3 _ hpb5_2)) ?_))
         rintro v5_9 w ⟨rfl, hB⟩
         replace hm := hm.below' hB; clear hB
         refine tAk hm [4, 5, 6, 8, 9, 10] rfl fun hS => ?_
         obtain ⟨h5_9, hx5_8⟩ := getI_some.1 hpb5_3
         obtain ⟨b5_3, o5_3, c5_3, he⟩ := idx_form (hm.ow_rep 0 rfl) hx5_8
         subst he
         refine tP rfl (fun w => yI st_47 h5_9 (idx_lt hx5_8) rfl) (tO (tY rfl (yl isAgg3 ((flat_cells (cs := [(nV pb5_3)]) (hm.ow_rep 0 rfl) hx5_8 rfl).cell (j := 0) rfl) rfl) (tAn rfl (tO (tf rfl rfl (fun a hf => e_build (vs := #[(0, (nV pb5_3))]) (cs := [(nV pb5_3)]) et_47 hf hm rfl rfl (by kernel_rfl) rfl rfl) ?_)))))
         rintro _ w ⟨b5_4, rfl, hm⟩
         replace hm := hm.lit (xs := ([pb5_3] : List Int)) 0 rfl rfl rfl rfl
         refine tAn rfl (tO ?_)
         obtain ⟨h5_10, h5_10e⟩ := appM_some.1 hpb5_4
         refine tf rfl rfl (fun a hf => e_append 11 et_47 hf hm rfl (hm.ow_rep 0 rfl) rfl rfl rfl h5_10) ?_
         rintro v5_10 w hm
         rw [h5_10e] at hm
         refine tAn rfl (tP rfl (fun w => yA rfl) (tE ?_))
         replace hm : Mem w0 (hp w0) _ [ow [(sV b5_4 0 1 1)] ([pb5_3] : List Int), ow [(nV pb5_1.to), (sV b5_3 o5_3 pb5_1.args.length c5_3)] (pb5_1 : Phi_), ow [v5_6] x5_2.next_, ow [v5_5] x5_2.ins, holeE b5_2 o5_2 x5_2.phis.length c5_2 (x5_2.phis : List Phi_) (xs3_1.2).toNat [(nV pb5_1.to), (sV b5_3 o5_3 pb5_1.args.length c5_3)], blk b0_1 [(nV c_.params), (nV c_.regs), (.slice p0_1 c_.blocks.length c0_1)] 45, blk b0_2 [(nV 0), (nV 0), (.slice none 0 0)] 45, blk b0_3 [(nV c_.params), (nV c_.regs), (sV b3_1 o3_1 xs0_1.length c0_4)] 45, holeE b3_1 o3_1 xs0_1.length c0_4 (xs3_1.1 : List Block_) (i1_3).toNat [(sV b5_2 o5_2 x5_2.phis.length c5_2), v5_5, (nV x5_2.jump), (nV x5_2.on), v5_6], ow [(.slice p1_6 r1_2.length c1_7)] r1_2, ow [(sV b5_1 o5_1 r1_3.length c1_8)] r1_3, ow [v5_10] pb5_4] := mk_Phi_ pb5_1.to hm 1 rfl
         replace hm := (hm.shutE (y := (pb5_1 : Phi_)) 4 1 (by decide) rfl rfl).pk (L' := [ow [(sV b5_4 0 1 1)] ([pb5_3] : List Int), ow [v5_6] x5_2.next_, ow [v5_5] x5_2.ins, ow [(sV b5_2 o5_2 x5_2.phis.length c5_2)] (x5_2.phis.set (xs3_1.2).toNat pb5_1), blk b0_1 [(nV c_.params), (nV c_.regs), (.slice p0_1 c_.blocks.length c0_1)] 45, blk b0_2 [(nV 0), (nV 0), (.slice none 0 0)] 45, blk b0_3 [(nV c_.params), (nV c_.regs), (sV b3_1 o3_1 xs0_1.length c0_4)] 45, holeE b3_1 o3_1 xs0_1.length c0_4 (xs3_1.1 : List Block_) (i1_3).toNat [(sV b5_2 o5_2 x5_2.phis.length c5_2), v5_5, (nV x5_2.jump), (nV x5_2.on), v5_6], ow [(.slice p1_6 r1_2.length c1_7)] r1_2, ow [(sV b5_1 o5_1 r1_3.length c1_8)] r1_3, ow [v5_10] pb5_4]) [0, 2, 3, 4, 5, 6, 7, 8, 9, 10, 11] rfl rfl
         rw [set_same hx5_7] at hm
         replace hm := (mk_Block_ x5_2.jump x5_2.on hm 3 2 1 rfl).pk (L' := [ow [(sV b5_4 0 1 1)] ([pb5_3] : List Int), ow [(sV b5_2 o5_2 x5_2.phis.length c5_2), v5_5, (nV x5_2.jump), (nV x5_2.on), v5_6] (x5_2 : Block_), blk b0_1 [(nV c_.params), (nV c_.regs), (.slice p0_1 c_.blocks.length c0_1)] 45, blk b0_2 [(nV 0), (nV 0), (.slice none 0 0)] 45, blk b0_3 [(nV c_.params), (nV c_.regs), (sV b3_1 o3_1 xs0_1.length c0_4)] 45, holeE b3_1 o3_1 xs0_1.length c0_4 (xs3_1.1 : List Block_) (i1_3).toNat [(sV b5_2 o5_2 x5_2.phis.length c5_2), v5_5, (nV x5_2.jump), (nV x5_2.on), v5_6], ow [(.slice p1_6 r1_2.length c1_7)] r1_2, ow [(sV b5_1 o5_1 r1_3.length c1_8)] r1_3, ow [v5_10] pb5_4]) [0, 3, 4, 5, 6, 7, 8, 9, 10] rfl rfl
         replace hm := (hm.shutE (y := (x5_2 : Block_)) 5 1 (by decide) rfl rfl).pk (L' := [ow [(sV b5_4 0 1 1)] ([pb5_3] : List Int), blk b0_1 [(nV c_.params), (nV c_.regs), (.slice p0_1 c_.blocks.length c0_1)] 45, blk b0_2 [(nV 0), (nV 0), (.slice none 0 0)] 45, blk b0_3 [(nV c_.params), (nV c_.regs), (sV b3_1 o3_1 xs0_1.length c0_4)] 45, ow [(sV b3_1 o3_1 xs0_1.length c0_4)] (xs3_1.1.set (i1_3).toNat x5_2), ow [(.slice p1_6 r1_2.length c1_7)] r1_2, ow [(sV b5_1 o5_1 r1_3.length c1_8)] r1_3, ow [v5_10] pb5_4]) [0, 2, 3, 4, 5, 6, 7, 8] rfl rfl
         rw [set_same hx5_4] at hm
         exact gZ fun a hf => ⟨v5_10, hf.sb rfl, hm.pk [1, 2, 3, 4, 5, 6, 7] rfl rfl⟩
        refine tO (tf rfl rfl (fun a hf => e_call hf rfl call129 rfl (spec_l10At_ok _ r1_2 (.slice p1_6 r1_2.length c1_7) (hm.ow_rep 7 rfl) x5_3 _ hpb5_2)) ?_)
        rintro v5_11 w ⟨rfl, hB⟩
        replace hm := hm.below' hB; clear hB
        refine tAk hm [3, 4, 5, 7, 8, 9] rfl fun hS => tO ?_
        obtain ⟨v5_12, hm⟩ := pin_Phi_ hm 2 rfl hx5_7
        refine tY rfl (yl isAgg47 ((hm.holeE_at 3 rfl).cell (j := 1) rfl) rfl) (tAk hm [4, 5, 6, 8, 9, 10] rfl fun hS => ?_)
        obtain ⟨h5_11, hx5_9⟩ := getI_some.1 hpb5_3
        obtain ⟨b5_5, o5_4, c5_4, he⟩ := idx_form (hm.ow_rep 0 rfl) hx5_9
        subst he
        refine tP rfl (fun w => yI st_47 h5_11 (idx_lt hx5_9) rfl) (tO (tY rfl (yl isAgg3 ((flat_cells (cs := [(nV pb5_3)]) (hm.ow_rep 0 rfl) hx5_9 rfl).cell (j := 0) rfl) rfl) (tAn rfl (tO (tf rfl rfl (fun a hf => e_build (vs := #[(0, (nV pb5_3))]) (cs := [(nV pb5_3)]) et_47 hf hm rfl rfl (by kernel_rfl) rfl rfl) ?_)))))
        rintro _ w ⟨b5_6, rfl, hm⟩
        replace hm := hm.lit (xs := ([pb5_3] : List Int)) 0 rfl rfl rfl rfl
        refine tAn rfl (tO ?_)
        obtain ⟨h5_12, h5_12e⟩ := appM_some.1 hpb5_4
        refine tf rfl rfl (fun a hf => e_append 11 et_47 hf hm rfl (hm.ow_rep 0 rfl) rfl rfl rfl h5_12) ?_
        rintro v5_13 w hm
        rw [h5_12e] at hm
        refine tAn rfl (tP rfl (fun w => yA rfl) (tE ?_))
        replace hm : Mem w0 (hp w0) _ [ow [(sV b5_6 0 1 1)] ([pb5_3] : List Int), ow [(nV pb5_1.to), (sV b5_5 o5_4 pb5_1.args.length c5_4)] (pb5_1 : Phi_), ow [v5_6] x5_2.next_, ow [v5_5] x5_2.ins, holeE b5_2 o5_2 x5_2.phis.length c5_2 (x5_2.phis : List Phi_) (xs3_1.2).toNat [(nV pb5_1.to), (sV b5_5 o5_4 pb5_1.args.length c5_4)], blk b0_1 [(nV c_.params), (nV c_.regs), (.slice p0_1 c_.blocks.length c0_1)] 45, blk b0_2 [(nV 0), (nV 0), (.slice none 0 0)] 45, blk b0_3 [(nV c_.params), (nV c_.regs), (sV b3_1 o3_1 xs0_1.length c0_4)] 45, holeE b3_1 o3_1 xs0_1.length c0_4 (xs3_1.1 : List Block_) (i1_3).toNat [(sV b5_2 o5_2 x5_2.phis.length c5_2), v5_5, (nV x5_2.jump), (nV x5_2.on), v5_6], ow [(.slice p1_6 r1_2.length c1_7)] r1_2, ow [(sV b5_1 o5_1 r1_3.length c1_8)] r1_3, ow [v5_13] pb5_4] := mk_Phi_ pb5_1.to hm 1 rfl
        replace hm := (hm.shutE (y := (pb5_1 : Phi_)) 4 1 (by decide) rfl rfl).pk (L' := [ow [(sV b5_6 0 1 1)] ([pb5_3] : List Int), ow [v5_6] x5_2.next_, ow [v5_5] x5_2.ins, ow [(sV b5_2 o5_2 x5_2.phis.length c5_2)] (x5_2.phis.set (xs3_1.2).toNat pb5_1), blk b0_1 [(nV c_.params), (nV c_.regs), (.slice p0_1 c_.blocks.length c0_1)] 45, blk b0_2 [(nV 0), (nV 0), (.slice none 0 0)] 45, blk b0_3 [(nV c_.params), (nV c_.regs), (sV b3_1 o3_1 xs0_1.length c0_4)] 45, holeE b3_1 o3_1 xs0_1.length c0_4 (xs3_1.1 : List Block_) (i1_3).toNat [(sV b5_2 o5_2 x5_2.phis.length c5_2), v5_5, (nV x5_2.jump), (nV x5_2.on), v5_6], ow [(.slice p1_6 r1_2.length c1_7)] r1_2, ow [(sV b5_1 o5_1 r1_3.length c1_8)] r1_3, ow [v5_13] pb5_4]) [0, 2, 3, 4, 5, 6, 7, 8, 9, 10, 11] rfl rfl
        rw [set_same hx5_7] at hm
        replace hm := (mk_Block_ x5_2.jump x5_2.on hm 3 2 1 rfl).pk (L' := [ow [(sV b5_6 0 1 1)] ([pb5_3] : List Int), ow [(sV b5_2 o5_2 x5_2.phis.length c5_2), v5_5, (nV x5_2.jump), (nV x5_2.on), v5_6] (x5_2 : Block_), blk b0_1 [(nV c_.params), (nV c_.regs), (.slice p0_1 c_.blocks.length c0_1)] 45, blk b0_2 [(nV 0), (nV 0), (.slice none 0 0)] 45, blk b0_3 [(nV c_.params), (nV c_.regs), (sV b3_1 o3_1 xs0_1.length c0_4)] 45, holeE b3_1 o3_1 xs0_1.length c0_4 (xs3_1.1 : List Block_) (i1_3).toNat [(sV b5_2 o5_2 x5_2.phis.length c5_2), v5_5, (nV x5_2.jump), (nV x5_2.on), v5_6], ow [(.slice p1_6 r1_2.length c1_7)] r1_2, ow [(sV b5_1 o5_1 r1_3.length c1_8)] r1_3, ow [v5_13] pb5_4]) [0, 3, 4, 5, 6, 7, 8, 9, 10] rfl rfl
        replace hm := (hm.shutE (y := (x5_2 : Block_)) 5 1 (by decide) rfl rfl).pk (L' := [ow [(sV b5_6 0 1 1)] ([pb5_3] : List Int), blk b0_1 [(nV c_.params), (nV c_.regs), (.slice p0_1 c_.blocks.length c0_1)] 45, blk b0_2 [(nV 0), (nV 0), (.slice none 0 0)] 45, blk b0_3 [(nV c_.params), (nV c_.regs), (sV b3_1 o3_1 xs0_1.length c0_4)] 45, ow [(sV b3_1 o3_1 xs0_1.length c0_4)] (xs3_1.1.set (i1_3).toNat x5_2), ow [(.slice p1_6 r1_2.length c1_7)] r1_2, ow [(sV b5_1 o5_1 r1_3.length c1_8)] r1_3, ow [v5_13] pb5_4]) [0, 2, 3, 4, 5, 6, 7, 8] rfl rfl
        rw [set_same hx5_4] at hm
        exact gZ fun a hf => ⟨v5_13, hf.sb rfl, hm.pk [1, 2, 3, 4, 5, 6, 7] rfl rfl⟩
       refine tO (tf rfl rfl (fun a hf => e_call hf rfl call129 rfl (spec_l10At_ok _ r1_2 (.slice p1_6 r1_2.length c1_7) (hm.ow_rep 4 rfl) x5_3 _ hpb5_2)) ?_)
       rintro v5_14 w ⟨rfl, hB⟩
       replace hm := hm.below' hB; clear hB
       refine tAk hm [0, 1, 2, 4, 5, 6] rfl fun hS => tO ?_
       obtain ⟨v5_15, v5_16, v5_17, hm⟩ := pin_Block_ hm 3 rfl hx5_4
       refine tY rfl (yl isAgg58 ((hm.holeE_at 6 rfl).cell (j := 0) rfl) rfl) (tAk hm [3, 4, 5, 7, 8, 9] rfl fun hS => ?_)
       obtain ⟨h5_13, hx5_10⟩ := getI_some.1 hpb5_1
       obtain ⟨b5_7, o5_5, c5_5, he⟩ := idx_form' (hm.ow_rep 2 rfl) hx5_10
       subst he
       obtain ⟨v5_18, hc5_3, h5_14⟩ := rk_Phi_ (hm.ow_rep 2 rfl) hx5_10
       refine tP rfl (fun w => yI st_58 h5_13 (idx_lt hx5_10) rfl) (tP rfl (fun w => yF fo_86_1 rfl) (tO ?_))
       obtain ⟨v5_19, hm⟩ := pin_Phi_ hm 2 rfl hx5_10
       refine tY rfl (yl isAgg47 ((hm.holeE_at 3 rfl).cell (j := 1) rfl) rfl) (tAk hm [4, 5, 6, 8, 9, 10] rfl fun hS => ?_)
       obtain ⟨h5_15, hx5_11⟩ := getI_some.1 hpb5_3
       obtain ⟨b5_8, o5_6, c5_6, he⟩ := idx_form (hm.ow_rep 0 rfl) hx5_11
       subst he
       refine tP rfl (fun w => yI st_47 h5_15 (idx_lt hx5_11) rfl) (tO (tY rfl (yl isAgg3 ((flat_cells (cs := [(nV pb5_3)]) (hm.ow_rep 0 rfl) hx5_11 rfl).cell (j := 0) rfl) rfl) (tAn rfl (tO (tf rfl rfl (fun a hf => e_build (vs := #[(0, (nV pb5_3))]) (cs := [(nV pb5_3)]) et_47 hf hm rfl rfl (by kernel_rfl) rfl rfl) ?_)))))
       rintro _ w ⟨b5_9, rfl, hm⟩
       replace hm := hm.lit (xs := ([pb5_3] : List Int)) 0 rfl rfl rfl rfl
       refine tAn rfl (tO ?_)
       obtain ⟨h5_16, h5_16e⟩ := appM_some.1 hpb5_4
       refine tf rfl rfl (fun a hf => e_append 11 et_47 hf hm rfl (hm.ow_rep 0 rfl) rfl rfl rfl h5_16) ?_
       rintro v5_20 w hm
       rw [h5_16e] at hm
       refine tAn rfl (tP rfl (fun w => yA rfl) (tE ?_))
       replace hm : Mem w0 (hp w0) _ [ow [(sV b5_9 0 1 1)] ([pb5_3] : List Int), ow [(nV pb5_1.to), (sV b5_8 o5_6 pb5_1.args.length c5_6)] (pb5_1 : Phi_), ow [v5_17] x5_2.next_, ow [v5_16] x5_2.ins, holeE b5_7 o5_5 x5_2.phis.length c5_5 (x5_2.phis : List Phi_) (xs3_1.2).toNat [(nV pb5_1.to), (sV b5_8 o5_6 pb5_1.args.length c5_6)], blk b0_1 [(nV c_.params), (nV c_.regs), (.slice p0_1 c_.blocks.length c0_1)] 45, blk b0_2 [(nV 0), (nV 0), (.slice none 0 0)] 45, blk b0_3 [(nV c_.params), (nV c_.regs), (sV b3_1 o3_1 xs0_1.length c0_4)] 45, holeE b3_1 o3_1 xs0_1.length c0_4 (xs3_1.1 : List Block_) (i1_3).toNat [(sV b5_7 o5_5 x5_2.phis.length c5_5), v5_16, (nV x5_2.jump), (nV x5_2.on), v5_17], ow [(.slice p1_6 r1_2.length c1_7)] r1_2, ow [(sV b5_1 o5_1 r1_3.length c1_8)] r1_3, ow [v5_20] pb5_4] := mk_Phi_ pb5_1.to hm 1 rfl
       replace hm := (hm.shutE (y := (pb5_1 : Phi_)) 4 1 (by decide) rfl rfl).pk (L' := [ow [(sV b5_9 0 1 1)] ([pb5_3] : List Int), ow [v5_17] x5_2.next_, ow [v5_16] x5_2.ins, ow [(sV b5_7 o5_5 x5_2.phis.length c5_5)] (x5_2.phis.set (xs3_1.2).toNat pb5_1), blk b0_1 [(nV c_.params), (nV c_.regs), (.slice p0_1 c_.blocks.length c0_1)] 45, blk b0_2 [(nV 0), (nV 0), (.slice none 0 0)] 45, blk b0_3 [(nV c_.params), (nV c_.regs), (sV b3_1 o3_1 xs0_1.length c0_4)] 45, holeE b3_1 o3_1 xs0_1.length c0_4 (xs3_1.1 : List Block_) (i1_3).toNat [(sV b5_7 o5_5 x5_2.phis.length c5_5), v5_16, (nV x5_2.jump), (nV x5_2.on), v5_17], ow [(.slice p1_6 r1_2.length c1_7)] r1_2, ow [(sV b5_1 o5_1 r1_3.length c1_8)] r1_3, ow [v5_20] pb5_4]) [0, 2, 3, 4, 5, 6, 7, 8, 9, 10, 11] rfl rfl
       rw [set_same hx5_10] at hm
       replace hm := (mk_Block_ x5_2.jump x5_2.on hm 3 2 1 rfl).pk (L' := [ow [(sV b5_9 0 1 1)] ([pb5_3] : List Int), ow [(sV b5_7 o5_5 x5_2.phis.length c5_5), v5_16, (nV x5_2.jump), (nV x5_2.on), v5_17] (x5_2 : Block_), blk b0_1 [(nV c_.params), (nV c_.regs), (.slice p0_1 c_.blocks.length c0_1)] 45, blk b0_2 [(nV 0), (nV 0), (.slice none 0 0)] 45, blk b0_3 [(nV c_.params), (nV c_.regs), (sV b3_1 o3_1 xs0_1.length c0_4)] 45, holeE b3_1 o3_1 xs0_1.length c0_4 (xs3_1.1 : List Block_) (i1_3).toNat [(sV b5_7 o5_5 x5_2.phis.length c5_5), v5_16, (nV x5_2.jump), (nV x5_2.on), v5_17], ow [(.slice p1_6 r1_2.length c1_7)] r1_2, ow [(sV b5_1 o5_1 r1_3.length c1_8)] r1_3, ow [v5_20] pb5_4]) [0, 3, 4, 5, 6, 7, 8, 9, 10] rfl rfl
       replace hm := (hm.shutE (y := (x5_2 : Block_)) 5 1 (by decide) rfl rfl).pk (L' := [ow [(sV b5_9 0 1 1)] ([pb5_3] : List Int), blk b0_1 [(nV c_.params), (nV c_.regs), (.slice p0_1 c_.blocks.length c0_1)] 45, blk b0_2 [(nV 0), (nV 0), (.slice none 0 0)] 45, blk b0_3 [(nV c_.params), (nV c_.regs), (sV b3_1 o3_1 xs0_1.length c0_4)] 45, ow [(sV b3_1 o3_1 xs0_1.length c0_4)] (xs3_1.1.set (i1_3).toNat x5_2), ow [(.slice p1_6 r1_2.length c1_7)] r1_2, ow [(sV b5_1 o5_1 r1_3.length c1_8)] r1_3, ow [v5_20] pb5_4]) [0, 2, 3, 4, 5, 6, 7, 8] rfl rfl
       rw [set_same hx5_4] at hm
       exact gZ fun a hf => ⟨v5_20, hf.sb rfl, hm.pk [1, 2, 3, 4, 5, 6, 7] rfl rfl⟩
      repeat clear hm
      rintro s4_1 a w ⟨v4_2, hf, hm⟩
      exact gv hf (gR (gM rfl (gP (by omega) (by omega) rfl (gA rfl (gE (gZe fun a hf => ⟨v4_2, hf.sb rfl, hm.pk [0, 1, 2, 3, 4, 5, 6] rfl rfl⟩))))))
     repeat clear hm
     rintro i3_2 xs3_2 a w ⟨v3_8, hf, hm⟩ hi3_3 hi3_4
     refine gv hf (gS (gS (gR (gM rfl (gM rfl (gY (yV st_47 rfl) (gB rfl (gE (go _ 96 rfl (decide_eq_false (by omega)) (gcf rfl (gXt (gHh (gR (gF fo_45_2 rfl (gL hm 2 isAgg43 rfl (gM rfl (gg fun x3_2 h3_6 hx3_4 => ?_)))))))))))))))))
     obtain ⟨v3_9, v3_10, v3_11, hc3_2, h3_7, h3_8, h3_9⟩ := rk_Block_ (hm.ow_rep 3 rfl) hx3_4
     have hL3_2 := rep_slice_len (hm.ow_rep 3 rfl)
     refine gI st_43 h3_6 (idx_lt2 hx3_4 hL3_2) rfl (gF fo_61_0 rfl ?_)
     obtain ⟨v3_12, v3_13, v3_14, hm⟩ := pin_Block_ hm 3 rfl hx3_4
     refine gY (yl isAgg58 ((hm.holeE_at 6 rfl).cell (j := 0) rfl) rfl) (gM rfl (gM rfl (gg fun x3_3 h3_10 hx3_6 => ?_)))
     obtain ⟨b3_2, o3_2, c3_4, he⟩ := idx_form' (hm.ow_rep 2 rfl) hx3_6
     subst he
     obtain ⟨v3_15, hc3_3, h3_11⟩ := rk_Phi_ (hm.ow_rep 2 rfl) hx3_6
     refine gI st_58 h3_10 (idx_lt hx3_6) rfl (gF fo_86_1 rfl ?_)
     obtain ⟨v3_16, hm⟩ := pin_Phi_ hm 2 rfl hx3_6
     have h13_1 : ∀ u ∈ ([v3_8] : List Value), u.oneCell' = true := (one_cons (rep_one (hm.ow_rep 10 rfl)) one_nil)
     refine gf0 rfl (fun a hf => e_storeH (j := 1) (vs := [v3_8]) 3 hf hm rfl rfl rfl sizeOf47 rfl rfl (cells_one (h13_1 _ (List.mem_singleton.2 rfl))) h13_1 rfl) ?_
     rintro _ w hm
     replace hm : Mem w0 (hp w0) _ [ow [v3_16] x3_3.args, ow [v3_14] x3_2.next_, ow [v3_13] x3_2.ins, holeE b3_2 o3_2 x3_2.phis.length c3_4 (x3_2.phis : List Phi_) (xs3_1.2).toNat [(nV x3_3.to), v3_8], blk b0_1 [(nV c_.params), (nV c_.regs), (.slice p0_1 c_.blocks.length c0_1)] 45, blk b0_2 [(nV 0), (nV 0), (.slice none 0 0)] 45, blk b0_3 [(nV c_.params), (nV c_.regs), (sV b3_1 o3_1 xs0_1.length c0_4)] 45, holeE b3_1 o3_1 xs0_1.length c0_4 (xs3_1.1 : List Block_) (i1_3).toNat [(sV b3_2 o3_2 x3_2.phis.length c3_4), v3_13, (nV x3_2.jump), (nV x3_2.on), v3_14], ow [(.slice p1_6 r1_2.length c1_7)] r1_2, ow [(.slice p1_7 r1_3.length c1_8)] r1_3, ow [v3_8] xs3_2] := hm
     refine gE ?_
     replace hm : Mem w0 (hp w0) _ [ow [v3_16] x3_3.args, ow [v3_14] x3_2.next_, ow [v3_13] x3_2.ins, holeE b3_2 o3_2 x3_2.phis.length c3_4 (x3_2.phis : List Phi_) (xs3_1.2).toNat [(nV x3_3.to), v3_8], blk b0_1 [(nV c_.params), (nV c_.regs), (.slice p0_1 c_.blocks.length c0_1)] 45, blk b0_2 [(nV 0), (nV 0), (.slice none 0 0)] 45, blk b0_3 [(nV c_.params), (nV c_.regs), (sV b3_1 o3_1 xs0_1.length c0_4)] 45, holeE b3_1 o3_1 xs0_1.length c0_4 (xs3_1.1 : List Block_) (i1_3).toNat [(sV b3_2 o3_2 x3_2.phis.length c3_4), v3_13, (nV x3_2.jump), (nV x3_2.on), v3_14], ow [(.slice p1_6 r1_2.length c1_7)] r1_2, ow [(.slice p1_7 r1_3.length c1_8)] r1_3, ow [(nV x3_3.to), v3_8] ((⟨x3_3.to, xs3_2⟩ : Phi_) : Phi_)] := mk_Phi_ x3_3.to hm 10 rfl
     replace hm := (hm.shutE (y := ((⟨x3_3.to, xs3_2⟩ : Phi_) : Phi_)) 3 10 (by decide) rfl rfl).pk (L' := [ow [v3_16] x3_3.args, ow [v3_14] x3_2.next_, ow [v3_13] x3_2.ins, ow [(sV b3_2 o3_2 x3_2.phis.length c3_4)] (x3_2.phis.set (xs3_1.2).toNat (⟨x3_3.to, xs3_2⟩ : Phi_)), blk b0_1 [(nV c_.params), (nV c_.regs), (.slice p0_1 c_.blocks.length c0_1)] 45, blk b0_2 [(nV 0), (nV 0), (.slice none 0 0)] 45, blk b0_3 [(nV c_.params), (nV c_.regs), (sV b3_1 o3_1 xs0_1.length c0_4)] 45, holeE b3_1 o3_1 xs0_1.length c0_4 (xs3_1.1 : List Block_) (i1_3).toNat [(sV b3_2 o3_2 x3_2.phis.length c3_4), v3_13, (nV x3_2.jump), (nV x3_2.on), v3_14], ow [(.slice p1_6 r1_2.length c1_7)] r1_2, ow [(.slice p1_7 r1_3.length c1_8)] r1_3]) [0, 1, 2, 3, 4, 5, 6, 7, 8, 9] rfl rfl
     have hx3_7 := List.getElem?_set_self (a := ((⟨x3_3.to, xs3_2⟩ : Phi_) : Phi_)) (idx_lt hx3_6)
     replace hm := (mk_Block_ x3_2.jump x3_2.on hm 3 2 1 rfl).pk (L' := [ow [v3_16] x3_3.args, ow [(sV b3_2 o3_2 x3_2.phis.length c3_4), v3_13, (nV x3_2.jump), (nV x3_2.on), v3_14] ((⟨(x3_2.phis.set (xs3_1.2).toNat (⟨x3_3.to, xs3_2⟩ : Phi_)), x3_2.ins, x3_2.jump, x3_2.on, x3_2.next_⟩ : Block_) : Block_), blk b0_1 [(nV c_.params), (nV c_.regs), (.slice p0_1 c_.blocks.length c0_1)] 45, blk b0_2 [(nV 0), (nV 0), (.slice none 0 0)] 45, blk b0_3 [(nV c_.params), (nV c_.regs), (sV b3_1 o3_1 xs0_1.length c0_4)] 45, holeE b3_1 o3_1 xs0_1.length c0_4 (xs3_1.1 : List Block_) (i1_3).toNat [(sV b3_2 o3_2 x3_2.phis.length c3_4), v3_13, (nV x3_2.jump), (nV x3_2.on), v3_14], ow [(.slice p1_6 r1_2.length c1_7)] r1_2, ow [(.slice p1_7 r1_3.length c1_8)] r1_3]) [0, 3, 4, 5, 6, 7, 8, 9] rfl rfl
     replace hm := (hm.shutE (y := ((⟨(x3_2.phis.set (xs3_1.2).toNat (⟨x3_3.to, xs3_2⟩ : Phi_)), x3_2.ins, x3_2.jump, x3_2.on, x3_2.next_⟩ : Block_) : Block_)) 5 1 (by decide) rfl rfl).pk (L' := [ow [v3_16] x3_3.args, blk b0_1 [(nV c_.params), (nV c_.regs), (.slice p0_1 c_.blocks.length c0_1)] 45, blk b0_2 [(nV 0), (nV 0), (.slice none 0 0)] 45, blk b0_3 [(nV c_.params), (nV c_.regs), (sV b3_1 o3_1 xs0_1.length c0_4)] 45, ow [(sV b3_1 o3_1 xs0_1.length c0_4)] (xs3_1.1.set (i1_3).toNat (⟨(x3_2.phis.set (xs3_1.2).toNat (⟨x3_3.to, xs3_2⟩ : Phi_)), x3_2.ins, x3_2.jump, x3_2.on, x3_2.next_⟩ : Block_)), ow [(.slice p1_6 r1_2.length c1_7)] r1_2, ow [(.slice p1_7 r1_3.length c1_8)] r1_3]) [0, 2, 3, 4, 5, 6, 7] rfl rfl
     have hx3_8 := List.getElem?_set_self (a := ((⟨(x3_2.phis.set (xs3_1.2).toNat (⟨x3_3.to, xs3_2⟩ : Phi_)), x3_2.ins, x3_2.jump, x3_2.on, x3_2.next_⟩ : Block_) : Block_)) (idx_lt hx3_4)
     exact gR (gM rfl (gB rfl (gA rfl (gE (gze hm [1, 2, 3, 4, 5, 6] rfl)))))
    refine gcf rfl (gXt (gHh ?_))
    replace hm := (mk_Block_ x3_1.jump x3_1.on hm 2 1 0 rfl).pk (L' := [ow [(.slice p3_1 x3_1.phis.length c3_2), v3_5, (nV x3_1.jump), (nV x3_1.on), v3_6] (x3_1 : Block_), blk b0_1 [(nV c_.params), (nV c_.regs), (.slice p0_1 c_.blocks.length c0_1)] 45, blk b0_2 [(nV 0), (nV 0), (.slice none 0 0)] 45, blk b0_3 [(nV c_.params), (nV c_.regs), (sV b3_1 o3_1 xs0_1.length c0_4)] 45, holeE b3_1 o3_1 xs0_1.length c0_4 (xs3_1.1 : List Block_) (i1_3).toNat [(.slice p3_1 x3_1.phis.length c3_2), v3_5, (nV x3_1.jump), (nV x3_1.on), v3_6], ow [(.slice p1_6 r1_2.length c1_7)] r1_2, ow [(.slice p1_7 r1_3.length c1_8)] r1_3]) [2, 3, 4, 5, 6, 7, 8] rfl rfl
    replace hm := (hm.shutE (y := (x3_1 : Block_)) 4 0 (by decide) rfl rfl).pk (L' := [blk b0_1 [(nV c_.params), (nV c_.regs), (.slice p0_1 c_.blocks.length c0_1)] 45, blk b0_2 [(nV 0), (nV 0), (.slice none 0 0)] 45, blk b0_3 [(nV c_.params), (nV c_.regs), (sV b3_1 o3_1 xs0_1.length c0_4)] 45, ow [(sV b3_1 o3_1 xs0_1.length c0_4)] (xs3_1.1.set (i1_3).toNat x3_1), ow [(.slice p1_6 r1_2.length c1_7)] r1_2, ow [(.slice p1_7 r1_3.length c1_8)] r1_3]) [1, 2, 3, 4, 5, 6] rfl rfl
    rw [set_same hx3_2] at hm
    exact gLp ho2_4 hq2_1 (gz hm [0, 1, 2, 3] rfl)
   repeat clear hm
   intro s1_2 w hm
   exact gR (gM rfl (gP (by omega) (by omega) rfl (gA rfl (gE (gze hm [0, 1, 2, 3] rfl)))))
  repeat clear hm
  intro i0_2 xs0_2 w hm hi0_7 hi0_8
  exact gS (gS (gR (gM rfl (gM rfl (gY (yV st_47 rfl) (gB rfl (gE (go _ 69 rfl (decide_eq_false (by omega)) (gcf rfl (gXt (gHh (gS (gR (gY (yn (hm.blk_at 2 rfl) isAgg45 sizeOf45 rfl) (gSN hm 1 sizeOf45 (one_cons rfl (one_cons rfl (one_cons rfl one_nil))) rfl fun w hm => gE (gRt (grc 1 results78 hm rfl isAgg45 sizeOf45 ⟨(.slice p0_4 xs0_1.length c0_4), rfl, hm.pk [3] rfl rfl⟩)))))))))))))))))

theorem spec_l10Drop_ok (w0 : World) (c_ : Code_) (v1 : Value) (h1 : GT.rep (hp w0) [v1] c_.blocks) :
    ConM Tryz.prog 77 [(.agg #[(nV c_.params), (nV c_.regs), v1])] w0 (spec_l10Drop c_) fun r v w' => ∃ (x1 : Value), v = (.agg #[(nV r.params), (nV r.regs), x1]) ∧ Mem w0 (hp w0) w' [ow [x1] r.blocks] := by
  unfold spec_l10Drop
  refine gcon func77 rfl fun r => ?_
  have hm := Mem.start w0
  refine gS (gR (gBx hm rfl fun b0_1 w hm => gAl hm zeroValue45 rfl fun b0_2 w hm => gE (gS (gW (.q 0 (.e 1 (.e 2 (.e 3 (.e 4 .fin .nil) .nil) .nil) .nil)) [1, 2] [] hm [0, 1] [blk b0_2 [(nV 0), (nV 0), (.slice none 0 0)] 45, blk b0_1 [(nV c_.params), (nV c_.regs), v1] 45] rfl mxo (by kernel_rfl) (fun _ _ _ h => h.2) fun w hm hS => tQ rfl hS (fun w hm => yn (hm.blk_at 1 rfl) isAgg45 sizeOf45 rfl) (tO (tY rfl (yn (hm.blk_at 1 rfl) isAgg45 sizeOf45 rfl) (tAs hS (tO (gb fun r0_1 hx0_1 => tf rfl rfl (fun a hf => e_call hf rfl call126 rfl (spec_ReachedIn_ok _ _ hm.lez c_ v1 h1  _ hx0_1)) ?_)))))))))
  rintro v0_1 w ⟨_, hz0_1, rfl, hle0_1, h0_1, hB⟩
  replace hm := Mem.giveA hm hle0_1 hB; clear hB
  refine tAk (hm.thaw hle0_1) [0, 1] rfl fun hS => tO (gb fun r0_2 hx0_2 => tf rfl rfl (fun a hf => e_call hf rfl call78 rfl (spec_l10Pick_ok _ c_ v1 (hm.now (GT.mono hle0_1 h1)) r0_1 v0_1 (hm.now h0_1) _ hx0_2)) ?_)
  rintro v0_3 w ⟨v0_4, rfl, hB⟩
  replace hm := hm.give hB; clear hB
  refine tAn rfl (tO (tf0 rfl rfl (fun a hf => e_storeN 1 hf hm rfl sizeOf45 rfl rfl rfl (one_cons rfl (one_cons rfl (one_cons (rep_one (hm.ow_rep 0 rfl)) one_nil))) rfl rfl) ?_))
  rintro _ w hm
  refine tAn rfl (tE (gRt ?_))
  replace hm := hm.thaw hle0_1
  exact grc 1 results77 hm rfl isAgg45 sizeOf45 ⟨v0_4, rfl, hm.pk [0] rfl rfl⟩

theorem spec_l18Skip_ok (w0 : World) (c_ : Code_) (v1 : Value) (h1 : GT.rep (hp w0) [v1] c_.blocks) :
    ConM Tryz.prog 87 [(.agg #[(nV c_.params), (nV c_.regs), v1])] w0 (spec_l18Skip c_) fun r v w' => ∃ (x1 : Value), v = (.agg #[(nV r.params), (nV r.regs), x1]) ∧ Mem w0 (hp w0) w' [ow [x1] r.blocks] := by
  unfold spec_l18Skip
  refine gcon func87 rfl fun r => ?_
  have hm := Mem.start w0
  refine gS (gR (gBx hm rfl fun b0_1 w hm => gAl hm zeroValue45 rfl fun b0_2 w hm => gE (gS (gR (gY (yn (hm.blk_at 1 rfl) isAgg45 sizeOf45 rfl) (gCg rfl call131 (spec_l7Copy_ok _ c_ v1 (hm.now h1)) ?_))))))
  rintro r0_1 hx0_1 v0_1 w ⟨v0_2, rfl, hB⟩
  replace hm := hm.give hB; clear hB
  refine gAl hm zeroValue45 rfl fun b0_3 w hm => gSN hm 0 sizeOf45 (one_cons rfl (one_cons rfl (one_cons (rep_one (hm.ow_rep 1 rfl)) one_nil))) rfl fun w hm => gE (gS (gS (gR (gA rfl (gE ?_)))))
  obtain ⟨p0_1, c0_1, rfl, hl0_1⟩ := ro_slice (hm.ow_rep 1 rfl)
  refine gJ hm (fun s0_1 => [(2, (pV b0_2)), (3, (pV b0_3))]) (fun s0_1 => [blk b0_2 [(nV 0), (nV 0), (.slice none 0 0)] 45, blk b0_3 [(nV r0_1.params), (nV r0_1.regs), (.slice p0_1 r0_1.blocks.length c0_1)] 45, ow [(.slice p0_1 r0_1.blocks.length c0_1)] s0_1]) (fun s0_1 => ?_) ?_
  ·
   refine gBk (gMf hm (fun xs2_1 => [(2, (pV b0_2)), (3, (pV b0_3)), (4, (nV xs2_1.2))]) (fun xs2_1 => [blk b0_2 [(nV 0), (nV 0), (.slice none 0 0)] 45, blk b0_3 [(nV r0_1.params), (nV r0_1.regs), (.slice p0_1 r0_1.blocks.length c0_1)] 45, ow [(.slice p0_1 r0_1.blocks.length c0_1)] xs2_1.1]) [2, 0, 1] rfl ?_)
   repeat clear hm
   intro r1_1 hq1_1 xs2_1 w hm q1_1 ho1_1
   refine gS (gS (gR (gM rfl (gF fo_45_2 rfl (gL hm 1 isAgg43 rfl ?_)))))
   have hl2_1 := rep_len (hm.ow_rep 2 rfl)
   refine gY (yV st_43 rfl) (gB rfl (gE (gsd 14 rfl (fun h2_1 => ?_) fun h2_1 => ?_)))
   ·
    refine gct rfl (gSk (gS (gJ hm (fun s2_1 => [(2, (pV b0_2)), (3, (pV b0_3)), (4, (nV s2_1.2))]) (fun s2_1 => [blk b0_2 [(nV 0), (nV 0), (.slice none 0 0)] 45, blk b0_3 [(nV r0_1.params), (nV r0_1.regs), (.slice p0_1 r0_1.blocks.length c0_1)] 45, ow [(.slice p0_1 r0_1.blocks.length c0_1)] s2_1.1]) (fun s2_1 => ?_) ?_)))
    ·
     refine gBk (gS (gS (gR (gY (yn (hm.blk_at 1 rfl) isAgg45 sizeOf45 rfl) (gM rfl (gC hm rfl call148 (spec_l18Empty_ok _ (⟨r0_1.params, r0_1.regs, xs2_1.1⟩ : Code_) (.slice p0_1 r0_1.blocks.length c0_1) (hm.ow_rep 2 rfl) xs2_1.2) fun r3_1 hx3_1 w hm => gN rfl (gE (gsn 20 rfl (fun h3_1 => ?_) fun h3_1 => ?_))))))))
     ·
      exact gct rfl (gXt (gHh (gz hm [0, 1, 2] rfl)))
     refine gcf rfl (gSk (gS (gR (gF fo_45_2 rfl (gL hm 1 isAgg43 rfl (gM rfl (gg fun x3_1 h3_2 hx3_3 => ?_)))))))
     obtain ⟨b3_1, o3_1, c3_1, he⟩ := idx_form' (hm.ow_rep 2 rfl) hx3_3
     simp only [Value.slice.injEq, Option.some.injEq] at he; obtain ⟨rfl, _, rfl⟩ := he
     obtain ⟨v3_2, v3_3, v3_4, hc3_1, h3_3, h3_4, h3_5⟩ := rk_Block_ (hm.ow_rep 2 rfl) hx3_3
     have hL3_1 := rep_slice_len (hm.ow_rep 2 rfl)
     refine gI st_43 h3_2 (idx_lt2 hx3_3 hL3_1) rfl (gF fo_61_4 rfl ?_)
     obtain ⟨v3_5, v3_6, v3_7, hm⟩ := pin_Block_ hm 2 rfl hx3_3
     refine gY (yl isAgg47 ((hm.holeE_at 5 rfl).cell (j := 4) rfl) rfl) (gg fun x3_2 h3_6 hx3_5 => ?_)
     obtain ⟨b3_2, o3_2, c3_2, he⟩ := idx_form (hm.ow_rep 0 rfl) hx3_5
     subst he
     refine gI st_47 h3_6 (idx_lt hx3_5) rfl (gY (yl isAgg3 ((flat_cells (cs := [(nV x3_2)]) (hm.ow_rep 0 rfl) hx3_5 rfl).cell (j := 0) rfl) rfl) (gA rfl (gE (gS (gS ?_)))))
     replace hm := (mk_Block_ x3_1.jump x3_1.on hm 2 1 0 rfl).pk (L' := [ow [v3_5, v3_6, (nV x3_1.jump), (nV x3_1.on), (sV b3_2 o3_2 x3_1.next_.length c3_2)] (x3_1 : Block_), blk b0_2 [(nV 0), (nV 0), (.slice none 0 0)] 45, blk b0_3 [(nV r0_1.params), (nV r0_1.regs), (sV b3_1 o3_1 r0_1.blocks.length c0_1)] 45, holeE b3_1 o3_1 r0_1.blocks.length c0_1 (xs2_1.1 : List Block_) (xs2_1.2).toNat [v3_5, v3_6, (nV x3_1.jump), (nV x3_1.on), (sV b3_2 o3_2 x3_1.next_.length c3_2)]]) [2, 3, 4, 5] rfl rfl
     replace hm := (hm.shutE (y := (x3_1 : Block_)) 3 0 (by decide) rfl rfl).pk (L' := [blk b0_2 [(nV 0), (nV 0), (.slice none 0 0)] 45, blk b0_3 [(nV r0_1.params), (nV r0_1.regs), (sV b3_1 o3_1 r0_1.blocks.length c0_1)] 45, ow [(sV b3_1 o3_1 r0_1.blocks.length c0_1)] (xs2_1.1.set (xs2_1.2).toNat x3_1)]) [1, 2, 3] rfl rfl
     rw [set_same hx3_3] at hm
     refine gR (gA rfl (gE (gBk (gNf hm (fun i4_1 xs4_1 => [(2, (pV b0_2)), (3, (pV b0_3)), (4, (nV xs2_1.2)), (5, (nV x3_2)), (6, (nV i4_1))]) (fun i4_1 xs4_1 => [blk b0_2 [(nV 0), (nV 0), (.slice none 0 0)] 45, blk b0_3 [(nV r0_1.params), (nV r0_1.regs), (sV b3_1 o3_1 r0_1.blocks.length c0_1)] 45, ow [(sV b3_1 o3_1 r0_1.blocks.length c0_1)] xs4_1]) [0, 1, 2] rfl ?_ ?_))))
     ·
      repeat clear hm
      intro _ _ i4_1 xs4_1 w hm hi3_1 hi3_2 q3_1 _
      refine gS (gS (gR (gM rfl (gF fo_45_2 rfl (gL hm 1 isAgg43 rfl ?_)))))
      have hl4_1 := rep_len (hm.ow_rep 2 rfl)
      refine gY (yV st_43 rfl) (gB rfl (gE (go _ 33 rfl (decide_eq_true (by omega)) (gct rfl (gSk (gS (gBk (gS (gR (gA rfl (gE (gJ hm (fun s4_1 => [(2, (pV b0_2)), (3, (pV b0_3)), (4, (nV xs2_1.2)), (5, (nV x3_2)), (6, (nV i4_1))]) (fun s4_1 => [blk b0_2 [(nV 0), (nV 0), (.slice none 0 0)] 45, blk b0_3 [(nV r0_1.params), (nV r0_1.regs), (sV b3_1 o3_1 r0_1.blocks.length c0_1)] 45, ow [(sV b3_1 o3_1 r0_1.blocks.length c0_1)] s4_1]) (fun s4_1 => ?_) ?_))))))))))))
      ·
       refine gBk (gMf hm (fun xs6_1 => [(2, (pV b0_2)), (3, (pV b0_3)), (4, (nV xs2_1.2)), (5, (nV x3_2)), (6, (nV i4_1)), (7, (nV xs6_1.2))]) (fun xs6_1 => [blk b0_2 [(nV 0), (nV 0), (.slice none 0 0)] 45, blk b0_3 [(nV r0_1.params), (nV r0_1.regs), (sV b3_1 o3_1 r0_1.blocks.length c0_1)] 45, ow [(sV b3_1 o3_1 r0_1.blocks.length c0_1)] xs6_1.1]) [0, 1, 2] rfl ?_)
       repeat clear hm
       intro r5_1 hq5_1 xs6_1 w hm q5_1 ho5_1
       refine gS (gS (gR (gM rfl (gF fo_45_2 rfl (gL hm 1 isAgg43 rfl (gM rfl (gg fun x6_1 h6_1 hx6_2 => ?_)))))))
       obtain ⟨v6_1, v6_2, v6_3, hc6_1, h6_2, h6_3, h6_4⟩ := rk_Block_ (hm.ow_rep 2 rfl) hx6_2
       have hL6_1 := rep_slice_len (hm.ow_rep 2 rfl)
       refine gI st_43 h6_1 (idx_lt2 hx6_2 hL6_1) rfl (gF fo_61_4 rfl ?_)
       obtain ⟨v6_4, v6_5, v6_6, hm⟩ := pin_Block_ hm 2 rfl hx6_2
       refine gY (yl isAgg47 ((hm.holeE_at 5 rfl).cell (j := 4) rfl) rfl) ?_
       obtain ⟨p6_1, c6_1, rfl, hl6_1⟩ := ro_slice (hm.ow_rep 0 rfl)
       refine gY (yV st_47 rfl) (gB rfl (gE (gsd 44 rfl (fun h6_5 => ?_) fun h6_5 => ?_)))
       ·
        refine gct rfl (gSk (gS (gJ hm (fun s6_1 => [(2, (pV b0_2)), (3, (pV b0_3)), (4, (nV xs2_1.2)), (5, (nV x3_2)), (6, (nV i4_1)), (7, (nV xs6_1.2))]) (fun s6_1 => [blk b0_2 [(nV 0), (nV 0), (.slice none 0 0)] 45, blk b0_3 [(nV r0_1.params), (nV r0_1.regs), (sV b3_1 o3_1 r0_1.blocks.length c0_1)] 45, ow [(sV b3_1 o3_1 r0_1.blocks.length c0_1)] s6_1]) (fun s6_1 => ?_) ?_)))
        ·
         refine gBk (gS ?_)
         replace hm := (mk_Block_ x6_1.jump x6_1.on hm 2 1 0 rfl).pk (L' := [ow [v6_4, v6_5, (nV x6_1.jump), (nV x6_1.on), (.slice p6_1 x6_1.next_.length c6_1)] (x6_1 : Block_), blk b0_2 [(nV 0), (nV 0), (.slice none 0 0)] 45, blk b0_3 [(nV r0_1.params), (nV r0_1.regs), (sV b3_1 o3_1 r0_1.blocks.length c0_1)] 45, holeE b3_1 o3_1 r0_1.blocks.length c0_1 (xs6_1.1 : List Block_) (i4_1).toNat [v6_4, v6_5, (nV x6_1.jump), (nV x6_1.on), (.slice p6_1 x6_1.next_.length c6_1)]]) [2, 3, 4, 5] rfl rfl
         replace hm := (hm.shutE (y := (x6_1 : Block_)) 3 0 (by decide) rfl rfl).pk (L' := [blk b0_2 [(nV 0), (nV 0), (.slice none 0 0)] 45, blk b0_3 [(nV r0_1.params), (nV r0_1.regs), (sV b3_1 o3_1 r0_1.blocks.length c0_1)] 45, ow [(sV b3_1 o3_1 r0_1.blocks.length c0_1)] (xs6_1.1.set (i4_1).toNat x6_1)]) [1, 2, 3] rfl rfl
         rw [set_same hx6_2] at hm
         refine gR (gF fo_45_2 rfl (gL hm 1 isAgg43 rfl (gM rfl ?_)))
         obtain ⟨v7_1, v7_2, v7_3, hc7_1, h7_1, h7_2, h7_3⟩ := rk_Block_ (hm.ow_rep 2 rfl) hx6_2
         have hL7_1 := rep_slice_len (hm.ow_rep 2 rfl)
         refine gI st_43 h6_1 (idx_lt2 hx6_2 hL7_1) rfl (gF fo_61_4 rfl ?_)
         obtain ⟨v7_4, v7_5, v7_6, hm⟩ := pin_Block_ hm 2 rfl hx6_2
         refine gY (yl isAgg47 ((hm.holeE_at 5 rfl).cell (j := 4) rfl) rfl) (gM rfl (gg fun x7_1 h7_4 hx7_2 => ?_))
         obtain ⟨b7_1, o7_1, c7_1, he⟩ := idx_form (hm.ow_rep 0 rfl) hx7_2
         subst he
         refine gI st_47 h7_4 (idx_lt hx7_2) rfl (gY (yl isAgg3 ((flat_cells (cs := [(nV x7_1)]) (hm.ow_rep 0 rfl) hx7_2 rfl).cell (j := 0) rfl) rfl) (gM rfl (gB rfl (gE (gJ hm (fun s7_1 => [(2, (pV b0_2)), (3, (pV b0_3)), (4, (nV xs2_1.2)), (5, (nV x3_2)), (6, (nV i4_1)), (7, (nV xs6_1.2))]) (fun s7_1 => [blk b0_2 [(nV 0), (nV 0), (.slice none 0 0)] 45, blk b0_3 [(nV r0_1.params), (nV r0_1.regs), (sV b3_1 o3_1 r0_1.blocks.length c0_1)] 45, ow [(sV b3_1 o3_1 r0_1.blocks.length c0_1)] s7_1]) (fun s7_1 => ?_) ?_)))))
         ·
          refine gsd 57 rfl (fun h8_1 => ?_) fun h8_1 => ?_
          ·
           refine gct rfl ?_
           replace hm := (mk_Block_ x6_1.jump x6_1.on hm 2 1 0 rfl).pk (L' := [ow [v7_4, v7_5, (nV x6_1.jump), (nV x6_1.on), (sV b7_1 o7_1 x6_1.next_.length c7_1)] (x6_1 : Block_), blk b0_2 [(nV 0), (nV 0), (.slice none 0 0)] 45, blk b0_3 [(nV r0_1.params), (nV r0_1.regs), (sV b3_1 o3_1 r0_1.blocks.length c0_1)] 45, holeE b3_1 o3_1 r0_1.blocks.length c0_1 (xs6_1.1 : List Block_) (i4_1).toNat [v7_4, v7_5, (nV x6_1.jump), (nV x6_1.on), (sV b7_1 o7_1 x6_1.next_.length c7_1)]]) [2, 3, 4, 5] rfl rfl
           replace hm := (hm.shutE (y := (x6_1 : Block_)) 3 0 (by decide) rfl rfl).pk (L' := [blk b0_2 [(nV 0), (nV 0), (.slice none 0 0)] 45, blk b0_3 [(nV r0_1.params), (nV r0_1.regs), (sV b3_1 o3_1 r0_1.blocks.length c0_1)] 45, ow [(sV b3_1 o3_1 r0_1.blocks.length c0_1)] (xs6_1.1.set (i4_1).toNat x6_1)]) [1, 2, 3] rfl rfl
           rw [set_same hx6_2] at hm
           refine gR (gF fo_45_2 rfl (gL hm 1 isAgg43 rfl (gM rfl ?_)))
           obtain ⟨v8_1, v8_2, v8_3, hc8_1, h8_2, h8_3, h8_4⟩ := rk_Block_ (hm.ow_rep 2 rfl) hx6_2
           have hL8_1 := rep_slice_len (hm.ow_rep 2 rfl)
           refine gI st_43 h6_1 (idx_lt2 hx6_2 hL8_1) rfl (gF fo_61_4 rfl ?_)
           obtain ⟨v8_4, v8_5, v8_6, hm⟩ := pin_Block_ hm 2 rfl hx6_2
           refine gY (yl isAgg47 ((hm.holeE_at 5 rfl).cell (j := 4) rfl) rfl) (gM rfl (gM rfl (gg fun x8_1 h8_5 hx8_2 => ?_)))
           obtain ⟨b8_1, o8_1, c8_1, he⟩ := idx_form (hm.ow_rep 0 rfl) hx8_2
           subst he
           refine gI st_47 h8_5 (idx_lt hx8_2) rfl (gf0 rfl (fun a hf => e_setElem (x1 := x3_2) (j := 0) (vs := [(nV x3_2)]) 0 hf hm rfl hx8_2 rfl sizeOf3 rfl rfl rfl (one_cons rfl one_nil) rfl rfl) ?_)
           rintro _ w hm
           have hx8_3 := List.getElem?_set_self (a := x3_2) (idx_lt hx8_2)
           refine gE ?_
           replace hm := (mk_Block_ x6_1.jump x6_1.on hm 2 1 0 rfl).pk (L' := [ow [v8_4, v8_5, (nV x6_1.jump), (nV x6_1.on), (sV b8_1 o8_1 x6_1.next_.length c8_1)] ((⟨x6_1.phis, x6_1.ins, x6_1.jump, x6_1.on, (x6_1.next_.set (xs6_1.2).toNat x3_2)⟩ : Block_) : Block_), blk b0_2 [(nV 0), (nV 0), (.slice none 0 0)] 45, blk b0_3 [(nV r0_1.params), (nV r0_1.regs), (sV b3_1 o3_1 r0_1.blocks.length c0_1)] 45, holeE b3_1 o3_1 r0_1.blocks.length c0_1 (xs6_1.1 : List Block_) (i4_1).toNat [v8_4, v8_5, (nV x6_1.jump), (nV x6_1.on), (sV b8_1 o8_1 x6_1.next_.length c8_1)]]) [2, 3, 4, 5] rfl rfl
           replace hm := (hm.shutE (y := ((⟨x6_1.phis, x6_1.ins, x6_1.jump, x6_1.on, (x6_1.next_.set (xs6_1.2).toNat x3_2)⟩ : Block_) : Block_)) 3 0 (by decide) rfl rfl).pk (L' := [blk b0_2 [(nV 0), (nV 0), (.slice none 0 0)] 45, blk b0_3 [(nV r0_1.params), (nV r0_1.regs), (sV b3_1 o3_1 r0_1.blocks.length c0_1)] 45, ow [(sV b3_1 o3_1 r0_1.blocks.length c0_1)] (xs6_1.1.set (i4_1).toNat (⟨x6_1.phis, x6_1.ins, x6_1.jump, x6_1.on, (x6_1.next_.set (xs6_1.2).toNat x3_2)⟩ : Block_))]) [1, 2, 3] rfl rfl
           have hx8_4 := List.getElem?_set_self (a := ((⟨x6_1.phis, x6_1.ins, x6_1.jump, x6_1.on, (x6_1.next_.set (xs6_1.2).toNat x3_2)⟩ : Block_) : Block_)) (idx_lt hx6_2)
           exact gz hm [0, 1, 2] rfl
          refine gcf rfl (gSk ?_)
          replace hm := (mk_Block_ x6_1.jump x6_1.on hm 2 1 0 rfl).pk (L' := [ow [v7_4, v7_5, (nV x6_1.jump), (nV x6_1.on), (sV b7_1 o7_1 x6_1.next_.length c7_1)] (x6_1 : Block_), blk b0_2 [(nV 0), (nV 0), (.slice none 0 0)] 45, blk b0_3 [(nV r0_1.params), (nV r0_1.regs), (sV b3_1 o3_1 r0_1.blocks.length c0_1)] 45, holeE b3_1 o3_1 r0_1.blocks.length c0_1 (xs6_1.1 : List Block_) (i4_1).toNat [v7_4, v7_5, (nV x6_1.jump), (nV x6_1.on), (sV b7_1 o7_1 x6_1.next_.length c7_1)]]) [2, 3, 4, 5] rfl rfl
          replace hm := (hm.shutE (y := (x6_1 : Block_)) 3 0 (by decide) rfl rfl).pk (L' := [blk b0_2 [(nV 0), (nV 0), (.slice none 0 0)] 45, blk b0_3 [(nV r0_1.params), (nV r0_1.regs), (sV b3_1 o3_1 r0_1.blocks.length c0_1)] 45, ow [(sV b3_1 o3_1 r0_1.blocks.length c0_1)] (xs6_1.1.set (i4_1).toNat x6_1)]) [1, 2, 3] rfl rfl
          rw [set_same hx6_2] at hm
          exact gz hm [0, 1, 2] rfl
         repeat clear hm
         intro s7_1 w hm
         exact gz hm [0, 1, 2] rfl
        repeat clear hm
        intro s6_1 w hm
        exact gR (gM rfl (gB rfl (gA rfl (gE (gze hm [0, 1, 2] rfl)))))
       refine gcf rfl (gXt (gHh ?_))
       replace hm := (mk_Block_ x6_1.jump x6_1.on hm 2 1 0 rfl).pk (L' := [ow [v6_4, v6_5, (nV x6_1.jump), (nV x6_1.on), (.slice p6_1 x6_1.next_.length c6_1)] (x6_1 : Block_), blk b0_2 [(nV 0), (nV 0), (.slice none 0 0)] 45, blk b0_3 [(nV r0_1.params), (nV r0_1.regs), (sV b3_1 o3_1 r0_1.blocks.length c0_1)] 45, holeE b3_1 o3_1 r0_1.blocks.length c0_1 (xs6_1.1 : List Block_) (i4_1).toNat [v6_4, v6_5, (nV x6_1.jump), (nV x6_1.on), (.slice p6_1 x6_1.next_.length c6_1)]]) [2, 3, 4, 5] rfl rfl
       replace hm := (hm.shutE (y := (x6_1 : Block_)) 3 0 (by decide) rfl rfl).pk (L' := [blk b0_2 [(nV 0), (nV 0), (.slice none 0 0)] 45, blk b0_3 [(nV r0_1.params), (nV r0_1.regs), (sV b3_1 o3_1 r0_1.blocks.length c0_1)] 45, ow [(sV b3_1 o3_1 r0_1.blocks.length c0_1)] (xs6_1.1.set (i4_1).toNat x6_1)]) [1, 2, 3] rfl rfl
       rw [set_same hx6_2] at hm
       exact gLp ho5_1 hq5_1 (gz hm [0, 1, 2] rfl)
      repeat clear hm
      intro s4_1 w hm
      exact gR (gM rfl (gP (by omega) (by omega) rfl (gA rfl (gE (gze hm [0, 1, 2] rfl)))))
     repeat clear hm
     intro i3_1 xs3_1 w hm hi3_3 hi3_4
     refine gS (gS (gR (gM rfl (gF fo_45_2 rfl (gL hm 1 isAgg43 rfl ?_)))))
     have hl3_1 := rep_len (hm.ow_rep 2 rfl)
     exact gY (yV st_43 rfl) (gB rfl (gE (go _ 33 rfl (decide_eq_false (by omega)) (gcf rfl (gXt (gHh (gR (gA rfl (gE (gz hm [0, 1, 2] rfl))))))))))
    repeat clear hm
    intro s2_1 w hm
    exact gR (gM rfl (gB rfl (gA rfl (gE (gze hm [0, 1, 2] rfl)))))
   exact gcf rfl (gXt (gHh (gLp ho1_1 hq1_1 (gz hm [0, 1, 2] rfl))))
  repeat clear hm
  intro s0_1 w hm
  refine gS (gR (gY (yn (hm.blk_at 1 rfl) isAgg45 sizeOf45 rfl) (gCg rfl call77 (spec_l10Drop_ok _ (⟨r0_1.params, r0_1.regs, s0_1⟩ : Code_) (.slice p0_1 r0_1.blocks.length c0_1) (hm.ow_rep 2 rfl)) ?_)))
  rintro r0_2 hx0_2 v0_3 w ⟨v0_4, rfl, hB⟩
  replace hm := hm.give hB; clear hB
  exact gSN hm 1 sizeOf45 (one_cons rfl (one_cons rfl (one_cons (rep_one (hm.ow_rep 0 rfl)) one_nil))) rfl fun w hm => gE (gRt (grc 1 results87 hm rfl isAgg45 sizeOf45 ⟨v0_4, rfl, hm.pk [0] rfl rfl⟩))

theorem spec_l10Turn_ok (w0 : World) (c_ : Code_) (v1 : Value) (h1 : GT.rep (hp w0) [v1] c_.blocks) (pass : Str) :
    ConM Tryz.prog 48 [(.agg #[(nV c_.params), (nV c_.regs), v1]), (.string ⟨(pass).b.toArray⟩)] w0 (spec_l10Turn c_ pass) fun r v w' => ∃ (x1 : Value), v = (.agg #[(nV r.params), (nV r.regs), x1]) ∧ Mem w0 (hp w0) w' [ow [x1] r.blocks] := by
  unfold spec_l10Turn
  refine gcon func48 rfl fun r => ?_
  have hm := Mem.start w0
  refine gS (gR (gBx hm rfl fun b0_1 w hm => gAl hm zeroValue45 rfl fun b0_2 w hm => gE (gS (gS (gR (gM rfl (gE (gBk (gS (gR (gY (yG rfl (y_eqls (p := pass) (q := (mkS [114, 101, 97, 99, 104])) rfl rfl rfl)) (gA rfl (gE (gsd 6 rfl (fun h0_1 => ?_) fun h0_1 => ?_))))))))))))))
  ·
   refine gct rfl (gS (gR (gY (yn (hm.blk_at 1 rfl) isAgg45 sizeOf45 rfl) (gCg rfl call77 (spec_l10Drop_ok _ c_ v1 (hm.now h1)) ?_))))
   rintro r0_1 hx0_1 v0_1 w ⟨v0_2, rfl, hB⟩
   replace hm := hm.give hB; clear hB
   exact gSN hm 1 sizeOf45 (one_cons rfl (one_cons rfl (one_cons (rep_one (hm.ow_rep 0 rfl)) one_nil))) rfl fun w hm => gE (gRt (grc 1 results48 hm rfl isAgg45 sizeOf45 ⟨v0_2, rfl, hm.pk [0] rfl rfl⟩))
  refine gcf rfl (gS (gR (gY (yG rfl (y_eqls (p := pass) (q := (mkS [111, 114, 100, 101, 114])) rfl rfl rfl)) (gA rfl (gE (gsd 10 rfl (fun h0_2 => ?_) fun h0_2 => ?_))))))
  ·
   refine gct rfl (gS (gW (.q 0 (.e 1 (.e 2 (.e 3 (.e 4 .fin .nil) .nil) .nil) .nil)) [1, 2] [] hm [0, 1] [blk b0_2 [(nV 0), (nV 0), (.slice none 0 0)] 45, blk b0_1 [(nV c_.params), (nV c_.regs), v1] 45] rfl mxo (by kernel_rfl) (fun _ _ _ h => h.2) fun w hm hS => tQ rfl hS (fun w hm => yn (hm.blk_at 1 rfl) isAgg45 sizeOf45 rfl) (tO (tY rfl (yn (hm.blk_at 1 rfl) isAgg45 sizeOf45 rfl) (tAs hS (tO (gb fun r0_2 hx0_2 => tf rfl rfl (fun a hf => e_call hf rfl call79 rfl (spec_l10Order_ok _ c_ v1 (hm.now h1) _ hx0_2)) ?_)))))))
   rintro v0_3 w ⟨_, rfl, hB⟩
   replace hm := hm.give hB; clear hB
   refine tAk hm [1, 2] rfl fun hS => tO (gb fun r0_3 hx0_3 => tf rfl rfl (fun a hf => e_call hf rfl call78 rfl (spec_l10Pick_ok _ c_ v1 (hm.now h1) r0_2 v0_3 (hm.ow_rep 0 rfl) _ hx0_3)) ?_)
   rintro v0_5 w ⟨v0_6, rfl, hB⟩
   replace hm := hm.give hB; clear hB
   refine tAn rfl (tO (tf0 rfl rfl (fun a hf => e_storeN 2 hf hm rfl sizeOf45 rfl rfl rfl (one_cons rfl (one_cons rfl (one_cons (rep_one (hm.ow_rep 0 rfl)) one_nil))) rfl rfl) ?_))
   rintro _ w hm
   exact tAn rfl (tE (gRt (grc 2 results48 hm rfl isAgg45 sizeOf45 ⟨v0_6, rfl, hm.pk [0] rfl rfl⟩)))
  refine gcf rfl (gS (gR (gY (yG rfl (y_eqls (p := pass) (q := (mkS [115, 112, 108, 105, 116])) rfl rfl rfl)) (gA rfl (gE (gsd 16 rfl (fun h0_3 => ?_) fun h0_3 => ?_))))))
  ·
   exact gno
  refine gcf rfl (gS (gR (gY (yG rfl (y_eqls (p := pass) (q := (mkS [105, 100, 108, 101])) rfl rfl rfl)) (gA rfl (gE (gsd 20 rfl (fun h0_4 => ?_) fun h0_4 => ?_))))))
  ·
   exact gno
  refine gcf rfl (gS (gR (gY (yG rfl (y_eqls (p := pass) (q := (mkS [115, 105, 110, 103, 108, 101])) rfl rfl rfl)) (gA rfl (gE (gsd 24 rfl (fun h0_5 => ?_) fun h0_5 => ?_))))))
  ·
   exact gno
  refine gcf rfl (gS (gR (gY (yG rfl (y_eqls (p := pass) (q := (mkS [107, 110, 111, 119, 110])) rfl rfl rfl)) (gA rfl (gE (gsd 28 rfl (fun h0_6 => ?_) fun h0_6 => ?_))))))
  ·
   exact gno
  refine gcf rfl (gS (gR (gY (yG rfl (y_eqls (p := pass) (q := (mkS [115, 104, 97, 114, 101])) rfl rfl rfl)) (gA rfl (gE (gsd 32 rfl (fun h0_7 => ?_) fun h0_7 => ?_))))))
  ·
   exact gno
  refine gcf rfl (gS (gR (gY (yG rfl (y_eqls (p := pass) (q := (mkS [104, 111, 105, 115, 116])) rfl rfl rfl)) (gA rfl (gE (gsd 36 rfl (fun h0_8 => ?_) fun h0_8 => ?_))))))
  ·
   exact gno
  refine gcf rfl (gS (gR (gY (yG rfl (y_eqls (p := pass) (q := (mkS [101, 118, 101, 110])) rfl rfl rfl)) (gA rfl (gE (gsd 40 rfl (fun h0_9 => ?_) fun h0_9 => ?_))))))
  ·
   exact gno
  refine gcf rfl (gS (gR (gY (yG rfl (y_eqls (p := pass) (q := (mkS [115, 107, 105, 112])) rfl rfl rfl)) (gA rfl (gE (gsd 44 rfl (fun h0_10 => ?_) fun h0_10 => ?_))))))
  ·
   refine gct rfl (gS (gR (gY (yn (hm.blk_at 1 rfl) isAgg45 sizeOf45 rfl) (gCg rfl call87 (spec_l18Skip_ok _ c_ v1 (hm.now h1)) ?_))))
   rintro r0_4 hx0_4 v0_7 w ⟨v0_8, rfl, hB⟩
   replace hm := hm.give hB; clear hB
   exact gSN hm 1 sizeOf45 (one_cons rfl (one_cons rfl (one_cons (rep_one (hm.ow_rep 0 rfl)) one_nil))) rfl fun w hm => gE (gRt (grc 1 results48 hm rfl isAgg45 sizeOf45 ⟨v0_8, rfl, hm.pk [0] rfl rfl⟩))
  refine gcf rfl (gS (gR (gY (yG rfl (y_eqls (p := pass) (q := (mkS [106, 111, 105, 110])) rfl rfl rfl)) (gA rfl (gE (gsd 48 rfl (fun h0_11 => ?_) fun h0_11 => ?_))))))
  ·
   exact gno
  exact gno

theorem spec_l10Each_ok (w0 : World) (u : Unit_) (v1 : Value) (h1 : GT.rep (hp w0) [v1] u.codes) (pass : Str) :
    ConM Tryz.prog 30 [(.agg #[v1]), (.string ⟨(pass).b.toArray⟩)] w0 (spec_l10Each u pass) fun r v w' => ∃ (x1 : Value), v = (.tuple #[(.agg #[x1]), (.bool (r.2))]) ∧ Mem w0 (hp w0) w' [ow [x1] r.1.codes] := by
  unfold spec_l10Each
  refine gcon func30 rfl fun r => ?_
  have hm := Mem.start w0
  refine gS (gR (gBx hm rfl fun b0_1 w hm => gAl hm zeroValue28 rfl fun b0_2 w hm => gA rfl (gE (gS (gS (gR (gY (yn (hm.blk_at 1 rfl) isAgg28 sizeOf28 rfl) (gC hm rfl call47 (spec_UnitValid_ok _ u v1 (hm.now h1)) fun r0_1 hx0_1 w hm => gN rfl (gE (gsn 10 rfl (fun h0_1 => ?_) fun h0_1 => ?_))))))))))
  ·
   refine gct rfl (gS (gR (gY (yG rfl (y_build (vs := []) (cs := #[(.slice none 0 0)]) rfl rfl (by kernel_rfl))) (gSN hm 0 sizeOf28 (one_cons rfl one_nil) rfl fun w hm => gA rfl (gE (gRt ?_))))))
   replace hm := hm.nilow (α := Code_)
   exact grct 1 results30 hm rfl isAgg28 sizeOf28 ⟨(.slice none 0 0), rfl, hm.pk [0] rfl rfl⟩
  refine gcf rfl (gSk (gS (gR (gY (yG rfl (y_build (vs := []) (cs := #[(.slice none 0 0)]) rfl rfl (by kernel_rfl))) (gAl hm zeroValue28 rfl fun b0_3 w hm => gSN hm 0 sizeOf28 (one_cons rfl one_nil) rfl fun w hm => gE (gS (gS (gR (gA rfl (gE (gBk ?_)))))))))))
  replace hm := hm.nilow (α := Code_)
  refine gNg (fun i1_1 xs1_1 a w => ∃ (v1_1 : Value), St 37 [(1, (.string ⟨(pass).b.toArray⟩)), (2, (pV b0_1)), (4, (pV b0_2)), (6, (pV b0_3)), (7, (nV i1_1))] w0 (hp w0) [blk b0_1 [v1] 28, blk b0_2 [(.slice none 0 0)] 28, blk b0_3 [v1_1] 28, ow [v1_1] xs1_1] a w) (fun a hf => ⟨(.slice none 0 0), hf.sb rfl, hm.pk [3, 2, 1, 0] rfl rfl⟩) ?_ ?_
  ·
   repeat clear hm
   rintro _ _ i1_1 xs1_1 a w ⟨v1_1, hf, hm⟩ hi0_1 hi0_2 q0_1 _
   refine gv hf (gS (gS (gR (gM rfl (gF fo_28_0 rfl (gL hm 0 isAgg26 rfl ?_))))))
   obtain ⟨p1_1, c1_1, rfl, hl1_1⟩ := ro_slice h1
   refine gY (yV st_26 rfl) (gB rfl (gE (go _ 17 rfl (decide_eq_true (by omega)) (gct rfl (gSk (gS (gBk (gW (.p 0 (.p 2 (.p 4 (.p 7 (.q 1 (.e 3 (.p 5 (.e 6 (.e 8 (.e 9 (.e 10 (.p 11 (.e 12 .fin .nil)) .nil) .nil) .nil) .nil)) .nil)))))) [3, 6, 8, 9] [0, 2, 4, 5, 7, 11] hm [0, 1, 2, 3] [blk b0_1 [(.slice p1_1 u.codes.length c1_1)] 28, blk b0_2 [(.slice none 0 0)] 28, blk b0_3 [v1_1] 28, ow [v1_1] xs1_1] rfl mxo (by kernel_rfl) (fun _ _ _ h => h.2) fun w hm hS => tP rfl (fun w => yF fo_28_0 rfl) (tP rfl (fun w => yF fo_28_0 rfl) (tP rfl (fun w => yM rfl) (tP rfl (fun w => yM rfl) (tQ rfl hS (fun w hm => yL hm 2 isAgg26 rfl) (tO (tY rfl (yL hm 0 isAgg26 rfl) (tAs hS (gg fun x1_1 h1_1 hx1_2 => ?_))))))))))))))))
   obtain ⟨b1_1, o1_1, c1_2, he⟩ := idx_form' h1 hx1_2
   simp only [Value.slice.injEq, Option.some.injEq] at he; obtain ⟨rfl, _, rfl⟩ := he
   obtain ⟨v1_2, hc1_1, h1_2⟩ := rk_Code_ h1 hx1_2
   refine tP rfl (fun w => yI st_26 h1_1 (idx_lt hx1_2) rfl) (tO (tY rfl (yn (hc1_1.mono hm.lez) isAgg45 sizeOf45 rfl) (tAs hS (tO (gb fun r1_1 hx1_3 => tf rfl rfl (fun a hf => e_call hf rfl call48 rfl (spec_l10Turn_ok _ x1_1 v1_2 (hm.now h1_2) pass _ hx1_3)) ?_)))))
   rintro v1_3 w ⟨v1_4, rfl, hB⟩
   replace hm := hm.give hB; clear hB
   refine tAk hm [1, 2, 3, 4] rfl fun hS => tO (tf rfl rfl (fun a hf => e_build (vs := #[(0, (.agg #[(nV r1_1.params), (nV r1_1.regs), v1_4]))]) (cs := [(nV r1_1.params), (nV r1_1.regs), v1_4]) et_26 hf hm rfl rfl (by kernel_rfl) rfl rfl) ?_)
   rintro _ w ⟨b1_2, rfl, hm⟩
   replace hm := hm.els_nil (α := Code_)
   replace hm : Mem w0 (hp w0) _ [els [] ([] : List Code_), blk b1_2 [(nV r1_1.params), (nV r1_1.regs), v1_4] 45, ow [(nV r1_1.params), (nV r1_1.regs), v1_4] (r1_1 : Code_), blk b0_1 [(sV b1_1 o1_1 u.codes.length c1_1)] 28, blk b0_2 [(.slice none 0 0)] 28, blk b0_3 [v1_1] 28, ow [v1_1] xs1_1] := mk_Code_ r1_1.params r1_1.regs hm 2 rfl
   replace hm := (hm.els_cons 0 2 (by decide) rfl rfl).pk (L' := [els [(nV r1_1.params), (nV r1_1.regs), v1_4] ([r1_1] : List Code_), blk b1_2 [(nV r1_1.params), (nV r1_1.regs), v1_4] 45, blk b0_1 [(sV b1_1 o1_1 u.codes.length c1_1)] 28, blk b0_2 [(.slice none 0 0)] 28, blk b0_3 [v1_1] 28, ow [v1_1] xs1_1]) [0, 1, 3, 4, 5, 6] rfl rfl
   replace hm := (hm.lit_els 1 0 (by decide) rfl rfl rfl rfl).pk (L' := [ow [(sV b1_2 0 1 1)] ([r1_1] : List Code_), blk b0_1 [(sV b1_1 o1_1 u.codes.length c1_1)] 28, blk b0_2 [(.slice none 0 0)] 28, blk b0_3 [v1_1] 28, ow [v1_1] xs1_1]) [1, 2, 3, 4, 5] rfl rfl
   refine tAk hm [1, 2, 3, 4] rfl fun hS => tO (gb fun ys1_1 hx1_4 => ?_)
   obtain ⟨h1_3, h1_3e⟩ := appM_some.1 hx1_4
   replace hm := (hm.both 4 0 (by decide) rfl rfl).pk (L' := [blk b0_1 [(sV b1_1 o1_1 u.codes.length c1_1)] 28, blk b0_2 [(.slice none 0 0)] 28, blk b0_3 [v1_1] 28, both (ow [v1_1] xs1_1) (ow [(sV b1_2 0 1 1)] ([r1_1] : List Code_))]) [1, 2, 3, 4] rfl rfl
   refine tf rfl rfl (fun a hf => e_appendD (xs := xs1_1) (ys := ([r1_1] : List Code_)) 3 et_26 hf hm rfl rfl rfl rfl h1_3) ?_
   rintro v1_5 w hm
   rw [h1_3e] at hm
   refine tAn rfl (tP rfl (fun w => yF fo_28_0 rfl) (tO (tf0 rfl rfl (fun a hf => e_store1 2 hf hm rfl sizeOf26 rfl rfl rfl (rep_one (hm.ow_rep 3 rfl)) rfl) ?_)))
   rintro _ w hm
   exact tAn rfl (tE (gR (gM rfl (gP (by omega) (by omega) rfl (gA rfl (gE (gZe fun a hf => ⟨v1_5, hf.sb rfl, hm.pk [0, 1, 2, 3] rfl rfl⟩)))))))
  repeat clear hm
  rintro i0_1 xs0_1 a w ⟨v0_2, hf, hm⟩ hi0_3 hi0_4
  refine gv hf (gS (gS (gR (gM rfl (gF fo_28_0 rfl (gL hm 0 isAgg26 rfl ?_))))))
  obtain ⟨p0_1, c0_1, rfl, hl0_1⟩ := ro_slice h1
  refine gY (yV st_26 rfl) (gB rfl (gE (go _ 17 rfl (decide_eq_false (by omega)) (gcf rfl (gXt (gHh (gS (gS (gR (gY (yn (hm.blk_at 2 rfl) isAgg28 sizeOf28 rfl) (gC hm rfl call47 (spec_UnitValid_ok _ (⟨xs0_1⟩ : Unit_) v0_2 (hm.ow_rep 3 rfl)) fun r0_3 hx0_2 w hm => gN rfl (gE (gsn 34 rfl (fun h0_2 => ?_) fun h0_2 => ?_)))))))))))))
  ·
   refine gct rfl (gS (gR (gY (yG rfl (y_build (vs := []) (cs := #[(.slice none 0 0)]) rfl rfl (by kernel_rfl))) (gSN hm 1 sizeOf28 (one_cons rfl one_nil) rfl fun w hm => gA rfl (gE (gRt ?_))))))
   replace hm := hm.nilow (α := Code_)
   exact grct 2 results30 hm rfl isAgg28 sizeOf28 ⟨(.slice none 0 0), rfl, hm.pk [0] rfl rfl⟩
  exact gcf rfl (gSk (gS (gR (gY (yn (hm.blk_at 2 rfl) isAgg28 sizeOf28 rfl) (gSN hm 1 sizeOf28 (one_cons (rep_one (hm.ow_rep 3 rfl)) one_nil) rfl fun w hm => gA rfl (gE (gRt (grct 1 results30 hm rfl isAgg28 sizeOf28 ⟨v0_2, rfl, hm.pk [3] rfl rfl⟩))))))))

theorem spec_SkipEmpty_ok (w0 : World) (u : Unit_) (v1 : Value) (h1 : GT.rep (hp w0) [v1] u.codes) :
    ConM Tryz.prog 23 [(.agg #[v1])] w0 (spec_SkipEmpty u) fun r v w' => ∃ (x1 : Value), v = (.tuple #[(.agg #[x1]), (.bool (r.2))]) ∧ Mem w0 (hp w0) w' [ow [x1] r.1.codes] := by
  unfold spec_SkipEmpty
  refine gcon func23 rfl fun r => ?_
  have hm := Mem.start w0
  refine gS (gR (gBx hm rfl fun b0_1 w hm => gAl hm zeroValue28 rfl fun b0_2 w hm => gA rfl (gE (gS (gR (gY (yn (hm.blk_at 1 rfl) isAgg28 sizeOf28 rfl) (gCg rfl call30 (spec_l10Each_ok _ u v1 (hm.now h1) (mkS [115, 107, 105, 112])) ?_)))))))
  rintro r0_1 hx0_1 v0_1 w ⟨v0_2, rfl, hB⟩
  replace hm := hm.give hB; clear hB
  exact gX rfl (gX rfl (gSN hm 1 sizeOf28 (one_cons (rep_one (hm.ow_rep 0 rfl)) one_nil) rfl fun w hm => gA rfl (gE (gRt (grct 1 results23 hm rfl isAgg28 sizeOf28 ⟨v0_2, rfl, hm.pk [0] rfl rfl⟩)))))

theorem impl_within_ok (w0 : World) (n_ : Int) (low : Int) (high : Int) :
    ConM Tryz.prog 91 [(nV n_), (nV low), (nV high)] w0 (impl_within n_ low high) fun r v w' => v = (.bool (r)) ∧ Below w0.heap.size w0 w' := by
  unfold impl_within
  refine gcon func91 rfl fun r => ?_
  have hm := Mem.start w0
  refine gS (gR (gA rfl (gE (gS (gJ hm (fun s0_1 => [(6, (.bool (s0_1)))]) (fun s0_1 => []) (fun s0_1 => ?_) ?_)))))
  ·
   refine gR (gM rfl (gM rfl (gB rfl (gM rfl (gsd 10 rfl (fun h1_1 => ?_) fun h1_1 => ?_)))))
   ·
    exact gM rfl (gM rfl (gB rfl (gKt rfl (gA rfl (gE (gz hm [] rfl))))))
   exact gO rfl (gO rfl (gO rfl (gKf rfl (gA rfl (gE (gz hm [] rfl))))))
  repeat clear hm
  intro s0_1 w hm
  exact gRt (gr1 results91 rfl ⟨rfl, hm.below⟩)

theorem impl_codeOk_1_ok (w0 : World) (r_ : Int) (c0_ : Code_) (v1 : Value) (h1 : GT.rep (hp w0) [v1] c0_.blocks) (bf0 : Nat) (hbf0 : w0.heap[bf0]? = some (.cells ([(nV c0_.params), (nV c0_.regs), v1] : List Value).toArray 45 (0, 0))) :
    ConM Tryz.prog 153 [(nV r_), (pV bf0)] w0 (impl_codeOk_1 r_ c0_) fun r v w' => v = (.bool (r)) ∧ Below w0.heap.size w0 w' := by
  unfold impl_codeOk_1
  refine gcon func153 rfl fun r => ?_
  have hm := Mem.start w0
  exact gS (gR (gA rfl (gE (gS (gR (gM rfl (gF fo_45_1 rfl (gY (yl isAgg3 (hm.old_cell hbf0 rfl) rfl) (gB rfl (gC hm rfl call91 (impl_within_ok _ r_ 0 (w64 (c0_.regs - 1))) fun r0_1 hx0_1 w hm => gA rfl (gE (gRt (gr1 results153 rfl ⟨rfl, hm.below⟩)))))))))))))

theorem impl_nextCount_ok (w0 : World) (jump : Int) :
    ConM Tryz.prog 154 [(nV jump)] w0 (impl_nextCount jump) fun r v w' => v = (nV r) ∧ Below w0.heap.size w0 w' := by
  unfold impl_nextCount
  refine gcon func154 rfl fun r => ?_
  have hm := Mem.start w0
  refine gS (gR (gA rfl (gE (gS (gS (gR (gM rfl (gE (gBk (gS (gR (gB rfl (gA rfl (gE (gsd 4 rfl (fun h0_1 => ?_) fun h0_1 => ?_)))))))))))))))
  ·
   exact gct rfl (gS (gR (gA rfl (gE (gRt (gr1 results154 rfl ⟨rfl, hm.below⟩))))))
  refine gcf rfl (gS (gR (gB rfl (gA rfl (gE (gsd 6 rfl (fun h0_2 => ?_) fun h0_2 => ?_))))))
  ·
   exact gct rfl (gS (gR (gA rfl (gE (gRt (gr1 results154 rfl ⟨rfl, hm.below⟩))))))
  refine gcf rfl (gS (gR (gB rfl (gA rfl (gE (gsd 8 rfl (fun h0_3 => ?_) fun h0_3 => ?_))))))
  ·
   exact gct rfl (gS (gR (gA rfl (gE (gRt (gr1 results154 rfl ⟨rfl, hm.below⟩))))))
  exact gcf rfl (gSk (gS (gR (gA rfl (gE (gRt (gr1 results154 rfl ⟨rfl, hm.below⟩)))))))

theorem impl_usesOn_ok (w0 : World) (jump : Int) :
    ConM Tryz.prog 117 [(nV jump)] w0 (impl_usesOn jump) fun r v w' => v = (.bool (r)) ∧ Below w0.heap.size w0 w' := by
  unfold impl_usesOn
  refine gcon func117 rfl fun r => ?_
  have hm := Mem.start w0
  refine gS (gR (gA rfl (gE (gS (gJ hm (fun s0_1 => [(2, (.bool (s0_1)))]) (fun s0_1 => []) (fun s0_1 => ?_) ?_)))))
  ·
   refine gR (gM rfl (gB rfl (gM rfl (gsd 5 rfl (fun h1_1 => ?_) fun h1_1 => ?_))))
   ·
    exact gO rfl (gO rfl (gKt rfl (gA rfl (gE (gz hm [] rfl)))))
   exact gM rfl (gB rfl (gKf rfl (gA rfl (gE (gz hm [] rfl)))))
  repeat clear hm
  intro s0_1 w hm
  exact gRt (gr1 results117 rfl ⟨rfl, hm.below⟩)

theorem impl_codeOk_2_ok (w0 : World) (n_ : Int) (c0_ : Code_) (v1 : Value) (h1 : GT.rep (hp w0) [v1] c0_.blocks) (bf0 : Nat) (hbf0 : w0.heap[bf0]? = some (.cells ([(nV c0_.params), (nV c0_.regs), v1] : List Value).toArray 45 (0, 0))) :
    ConM Tryz.prog 155 [(nV n_), (pV bf0)] w0 (impl_codeOk_2 n_ c0_) fun r v w' => v = (.bool (r)) ∧ Below w0.heap.size w0 w' := by
  unfold impl_codeOk_2
  refine gcon func155 rfl fun r => ?_
  have hm := Mem.start w0
  refine gS (gR (gA rfl (gE (gS (gR (gM rfl (gF fo_45_2 rfl (gY (yl isAgg43 (hm.old_cell hbf0 rfl) rfl) ?_))))))))
  obtain ⟨p0_1, c0_1, rfl, hl0_1⟩ := ro_slice h1
  exact gY (yV st_43 rfl) (gY (yS (by omega) (by omega) rfl) (gC hm rfl call91 (impl_within_ok _ n_ 1 (((c0_.blocks.length : Int)) - 1)) fun r0_1 hx0_1 w hm => gN rfl (gA rfl (gE (gRt (gr1 results155 rfl ⟨rfl, hm.below⟩))))))

theorem slices_IndexFunc_S_int_int_ok (w0 : World) (s_ : List Int) (v1 : Value) (h1 : GT.rep (hp w0) [v1] s_) (f : Int → Option Bool) (fv1 : Value) (hfn1 : ∀ (w : World) (y0 : Int) (r : Bool), Below w0.heap.size w0 w → f y0 = some r → FnOk Tryz.prog fv1 [(nV y0)] w (fun v w' => v = (.bool (r)) ∧ Below w.heap.size w w')) :
    ConM Tryz.prog 163 [v1, fv1] w0 (slices_IndexFunc_S_int_int s_ f) fun r v w' => v = (nV r) ∧ Below w0.heap.size w0 w' := by
  unfold slices_IndexFunc_S_int_int
  refine gcon func163 rfl fun r => ?_
  have hm := Mem.start w0
  refine gS (gR (gA rfl (gE (gS (gS (gR (gM rfl ?_)))))))
  obtain ⟨p0_1, c0_1, rfl, hl0_1⟩ := ro_slice h1
  refine gY (yV st_47 rfl) (gM rfl (gE (gBk (gNf hm (fun i1_1 xs1_1 => [(0, (.slice p0_1 s_.length c0_1)), (1, fv1), (7, (nV ((s_.length : Int)))), (8, (nV i1_1))]) (fun i1_1 xs1_1 => []) [] rfl ?_ ?_))))
  ·
   repeat clear hm
   intro r0_1 hq0_1 i1_1 xs1_1 w hm hi0_1 hi0_2 q0_1 ho0_1
   refine gS (gR (gB rfl (gE (gS (go _ 9 rfl (decide_eq_true (by omega)) (gct rfl (gSk (gS (gBk (gS (gR (gM rfl (gA rfl (gE (gS (gR (gM rfl (gM rfl (gM rfl (gg fun x1_1 h1_1 hx1_2 => ?_))))))))))))))))))))
   obtain ⟨b1_1, o1_1, c1_1, he⟩ := idx_form h1 hx1_2
   simp only [Value.slice.injEq, Option.some.injEq] at he; obtain ⟨rfl, _, rfl⟩ := he
   refine gI st_47 h1_1 (idx_lt hx1_2) rfl (gY (yl isAgg3 ((flat_cells (cs := [(nV x1_1)]) (hm.now h1) hx1_2 rfl).cell (j := 0) rfl) rfl) (gb fun r1_1 hx1_3 => gf rfl (fun a hf => e_callv hf rfl rfl rfl (hfn1 _ x1_1 _ hm.below hx1_3)) ?_))
   rintro v1_1 w ⟨rfl, hB⟩
   replace hm := hm.below' hB; clear hB
   refine gE (gs 16 rfl (fun h1_2 => ?_) fun h1_2 => ?_)
   ·
    exact gct rfl (gS (gR (gM rfl (gA rfl (gE (gRt (gLr ho0_1 hq0_1 (gr1 results163 rfl ⟨rfl, hm.below⟩))))))))
   exact gcf rfl (gSk (gR (gP (by omega) (by omega) rfl (gM rfl (gE (gze hm [] rfl))))))
  repeat clear hm
  intro i0_1 xs0_1 w hm hi0_3 hi0_4
  exact gS (gR (gB rfl (gE (gS (go _ 9 rfl (decide_eq_false (by omega)) (gcf rfl (gXt (gHh (gS (gR (gA rfl (gE (gRt (gr1 results163 rfl ⟨rfl, hm.below⟩))))))))))))))

theorem slices_ContainsFunc_S_int_int_ok (w0 : World) (s_ : List Int) (v1 : Value) (h1 : GT.rep (hp w0) [v1] s_) (f : Int → Option Bool) (fv1 : Value) (hfn1 : ∀ (w : World) (y0 : Int) (r : Bool), Below w0.heap.size w0 w → f y0 = some r → FnOk Tryz.prog fv1 [(nV y0)] w (fun v w' => v = (.bool (r)) ∧ Below w.heap.size w w')) :
    ConM Tryz.prog 111 [v1, fv1] w0 (slices_ContainsFunc_S_int_int s_ f) fun r v w' => v = (.bool (r)) ∧ Below w0.heap.size w0 w' := by
  unfold slices_ContainsFunc_S_int_int
  refine gcon func111 rfl fun r => ?_
  have hm := Mem.start w0
  exact gS (gR (gA rfl (gE (gS (gR (gM rfl (gM rfl (gC hm rfl call163 (slices_IndexFunc_S_int_int_ok _ s_ v1 (hm.now h1) f fv1 (fun w y0 r hB hq => hfn1 w y0 r (hm.below.trans (hB.mono hm.below.size)) hq)) fun r0_1 hx0_1 w hm => gB rfl (gA rfl (gE (gRt (gr1 results111 rfl ⟨rfl, hm.below⟩))))))))))))

theorem impl_insOk_1_ok (w0 : World) (r_ : Int) (c0_ : Code_) (v1 : Value) (h1 : GT.rep (hp w0) [v1] c0_.blocks) (bf0 : Nat) (hbf0 : w0.heap[bf0]? = some (.cells ([(nV c0_.params), (nV c0_.regs), v1] : List Value).toArray 45 (0, 0))) :
    ConM Tryz.prog 191 [(nV r_), (pV bf0)] w0 (impl_insOk_1 r_ c0_) fun r v w' => v = (.bool (r)) ∧ Below w0.heap.size w0 w' := by
  unfold impl_insOk_1
  refine gcon func191 rfl fun r => ?_
  have hm := Mem.start w0
  exact gS (gR (gA rfl (gE (gS (gR (gM rfl (gF fo_45_1 rfl (gY (yl isAgg3 (hm.old_cell hbf0 rfl) rfl) (gB rfl (gC hm rfl call91 (impl_within_ok _ r_ 0 (w64 (c0_.regs - 1))) fun r0_1 hx0_1 w hm => gA rfl (gE (gRt (gr1 results191 rfl ⟨rfl, hm.below⟩)))))))))))))

theorem impl_isIns_ok (w0 : World) (op : Int) :
    ConM Tryz.prog 192 [(nV op)] w0 (impl_isIns op) fun r v w' => v = (.bool (r)) ∧ Below w0.heap.size w0 w' := by
  unfold impl_isIns
  refine gcon func192 rfl fun r => ?_
  have hm := Mem.start w0
  exact gS (gR (gA rfl (gE (gS (gR (gM rfl (gC hm rfl call91 (impl_within_ok _ op 1 14) fun r0_1 hx0_1 w hm => gA rfl (gE (gRt (gr1 results192 rfl ⟨rfl, hm.below⟩))))))))))

theorem impl_insOk_2_ok (w0 : World) (r_ : Int) (c0_0_ : Code_) (v1 : Value) (h1 : GT.rep (hp w0) [v1] c0_0_.blocks) (bf0_0 : Nat) (hbf0_0 : w0.heap[bf0_0]? = some (.cells ([(nV c0_0_.params), (nV c0_0_.regs), v1] : List Value).toArray 45 (0, 0))) (bf0 : Nat) (hbf0 : w0.heap[bf0]? = some (.cells ([(.func (.func 191) #[] #[(pV bf0_0)])] : List Value).toArray 111 (0, 0))) :
    ConM Tryz.prog 193 [(nV r_), (pV bf0)] w0 (impl_insOk_2 r_ c0_0_) fun r v w' => v = (.bool (r)) ∧ Below w0.heap.size w0 w' := by
  unfold impl_insOk_2
  refine gcon func193 rfl fun r => ?_
  have hm := Mem.start w0
  refine gS (gR (gA rfl (gE (gS (gR (gY (yl isAgg111 (hm.old_cell hbf0 rfl) rfl) (gM rfl (gb fun r0_1 hx0_1 => gf rfl (fun a hf => e_callv hf rfl rfl rfl ⟨191, [(pV bf0_0)], rfl, call191, impl_insOk_1_ok _ r_ c0_0_ v1 (rep_later (hm.now h1) (Below.refl _ _)) bf0_0 (hm.old_later hbf0_0 (Below.refl _ _)) _ hx0_1⟩) ?_))))))))
  rintro v0_1 w ⟨rfl, hB⟩
  replace hm := hm.below' hB; clear hB
  exact gN rfl (gA rfl (gE (gRt (gr1 results193 rfl ⟨rfl, hm.below⟩))))

theorem impl_sets_ok (w0 : World) (op : Int) :
    ConM Tryz.prog 166 [(nV op)] w0 (impl_sets op) fun r v w' => v = (.bool (r)) ∧ Below w0.heap.size w0 w' := by
  unfold impl_sets
  refine gcon func166 rfl fun r => ?_
  have hm := Mem.start w0
  refine gS (gR (gA rfl (gE (gS (gJ hm (fun s0_1 => [(2, (.bool (s0_1)))]) (fun s0_1 => []) (fun s0_1 => ?_) ?_)))))
  ·
   refine gR (gM rfl (gC hm rfl call192 (impl_isIns_ok _ op) fun r1_1 hx1_1 w hm => gM rfl (gs 5 rfl (fun h1_1 => ?_) fun h1_1 => ?_)))
   ·
    refine gM rfl (gB rfl (gKt rfl (gM rfl (gsd 9 rfl (fun h1_2 => ?_) fun h1_2 => ?_))))
    ·
     exact gM rfl (gB rfl (gKt rfl (gA rfl (gE (gz hm [] rfl)))))
    exact gO rfl (gO rfl (gKf rfl (gA rfl (gE (gz hm [] rfl)))))
   exact gO rfl (gO rfl (gKf rfl (gM rfl (gO rfl (gO rfl (gKf rfl (gA rfl (gE (gz hm [] rfl)))))))))
  repeat clear hm
  intro s0_1 w hm
  exact gRt (gr1 results166 rfl ⟨rfl, hm.below⟩)

theorem impl_isByte_ok (w0 : World) (n_ : Int) :
    ConM Tryz.prog 194 [(nV n_)] w0 (impl_isByte n_) fun r v w' => v = (.bool (r)) ∧ Below w0.heap.size w0 w' := by
  unfold impl_isByte
  refine gcon func194 rfl fun r => ?_
  have hm := Mem.start w0
  exact gS (gR (gA rfl (gE (gS (gR (gM rfl (gC hm rfl call91 (impl_within_ok _ n_ 0 255) fun r0_1 hx0_1 w hm => gA rfl (gE (gRt (gr1 results194 rfl ⟨rfl, hm.below⟩))))))))))

theorem impl_insArgs_ok (w0 : World) (op : Int) :
    ConM Tryz.prog 195 [(nV op)] w0 (impl_insArgs op) fun r v w' => v = (nV r) ∧ Below w0.heap.size w0 w' := by
  unfold impl_insArgs
  refine gcon func195 rfl fun r => ?_
  have hm := Mem.start w0
  refine gS (gR (gA rfl (gE (gS (gS (gR (gM rfl (gE (gBk (gS (gR (gB rfl (gA rfl (gE (gsd 4 rfl (fun h0_1 => ?_) fun h0_1 => ?_)))))))))))))))
  ·
   exact gct rfl (gS (gR (gA rfl (gE (gRt (gr1 results195 rfl ⟨rfl, hm.below⟩))))))
  refine gcf rfl (gS (gS (gR (gB rfl (gA rfl (gE (gJ hm (fun s0_1 => [(6, (.bool (s0_1)))]) (fun s0_1 => []) (fun s0_1 => ?_) ?_)))))))
  ·
   refine gsd 6 rfl (fun h1_1 => ?_) fun h1_1 => ?_
   ·
    exact gct rfl (gSk (gz hm [] rfl))
   refine gcf rfl (gS (gR (gB rfl (gA rfl (gE (gJ hm (fun s1_1 => [(6, (.bool (s1_1)))]) (fun s1_1 => []) (fun s1_1 => ?_) ?_))))))
   ·
    refine gsd 6 rfl (fun h2_1 => ?_) fun h2_1 => ?_
    ·
     exact gct rfl (gSk (gz hm [] rfl))
    refine gcf rfl (gS (gR (gB rfl (gA rfl (gE (gJ hm (fun s2_1 => [(6, (.bool (s2_1)))]) (fun s2_1 => []) (fun s2_1 => ?_) ?_))))))
    ·
     refine gsd 6 rfl (fun h3_1 => ?_) fun h3_1 => ?_
     ·
      exact gct rfl (gSk (gz hm [] rfl))
     exact gcf rfl (gR (gB rfl (gA rfl (gE (gz hm [] rfl)))))
    repeat clear hm
    intro s2_1 w hm
    exact gz hm [] rfl
   repeat clear hm
   intro s1_1 w hm
   exact gz hm [] rfl
  repeat clear hm
  intro s0_1 w hm
  refine gs 6 rfl (fun h0_2 => ?_) fun h0_2 => ?_
  ·
   exact gct rfl (gS (gR (gA rfl (gE (gRt (gr1 results195 rfl ⟨rfl, hm.below⟩))))))
  exact gcf rfl (gSk (gS (gR (gA rfl (gE (gRt (gr1 results195 rfl ⟨rfl, hm.below⟩)))))))

theorem impl_insOk_ok (w0 : World) (u : Unit_) (v1 : Value) (h1 : GT.rep (hp w0) [v1] u.codes) (k_ : Int) (x_ : Ins_) (v2 : Value) (h2 : GT.rep (hp w0) [v2] x_.args) :
    ConM Tryz.prog 158 [(.agg #[v1]), (nV k_), (.agg #[(nV x_.op), (nV x_.to), v2, (nV x_.n_)])] w0 (impl_insOk u k_ x_) fun r v w' => v = (.bool (r)) ∧ Below w0.heap.size w0 w' := by
  unfold impl_insOk
  refine gcon func158 rfl fun r => ?_
  have hm := Mem.start w0
  refine gS (gR (gBx hm rfl fun b0_1 w hm => gBx hm rfl fun b0_2 w hm => gA rfl (gE (gS (gR (gF fo_28_0 rfl (gL hm 1 isAgg26 rfl (gM rfl (gg fun x0_1 h0_1 hx0_2 => ?_)))))))))
  obtain ⟨b0_3, o0_1, c0_1, he⟩ := idx_form' h1 hx0_2
  subst he
  obtain ⟨v0_1, hc0_1, h0_2⟩ := rk_Code_ h1 hx0_2
  refine gI st_26 h0_1 (idx_lt hx0_2) rfl (gY (yn (hc0_1.mono hm.lez) isAgg45 sizeOf45 rfl) (gAl hm zeroValue45 rfl fun b0_4 w hm => gSN hm 0 sizeOf45 (one_cons rfl (one_cons rfl (one_cons (rep_one h0_2) one_nil))) rfl fun w hm => gE (gS (gR (gY (yU rfl) (gAl hm zeroValue111 rfl fun b0_5 w hm => gS1 hm 0 sizeOf111 rfl rfl fun w hm => gE (gS (gS (gJ hm (fun s0_1 => [(1, (nV k_)), (3, (pV b0_1)), (5, (pV b0_2)), (8, (pV b0_5)), (24, (.bool (s0_1)))]) (fun s0_1 => [blk b0_1 [(sV b0_3 o0_1 u.codes.length c0_1)] 28, blk b0_2 [(nV x_.op), (nV x_.to), v2, (nV x_.n_)] 89, blk b0_5 [(.func (.func 191) #[] #[(pV b0_4)])] 111, blk b0_4 [(nV x0_1.params), (nV x0_1.regs), v0_1] 45]) (fun s0_1 => ?_) ?_)))))))))
  ·
   refine gR (gF fo_89_0 rfl (gL hm 2 isAgg3 rfl (gC hm rfl call192 (impl_isIns_ok _ x_.op) fun r1_1 hx1_1 w hm => gN rfl (gM rfl (gsn 19 rfl (fun h1_1 => ?_) fun h1_1 => ?_)))))
   ·
    exact gO rfl (gO rfl (gO rfl (gO rfl (gKt rfl (gE (gz hm [3, 2, 0, 1] rfl))))))
   exact gF fo_89_2 rfl (gL hm 2 isAgg47 rfl (gY (yU rfl) (gC hm rfl call111 (slices_ContainsFunc_S_int_int_ok _ x_.args v2 (hm.now h2) (fun y0 => impl_insOk_2 y0 x0_1) (.func (.func 193) #[] #[(pV b0_5)]) (fun w y0 r hB hq => ⟨193, [(pV b0_5)], rfl, call193, impl_insOk_2_ok w y0 x0_1 v0_1 (rep_later (hm.now h0_2) hB) b0_4 (hm.blk_later 1 rfl hB) b0_5 (hm.blk_later 0 rfl hB) r hq⟩)) fun r1_2 hx1_2 w hm => gKf rfl (gE (gz hm [3, 2, 0, 1] rfl)))))
  repeat clear hm
  intro s0_1 w hm
  refine gs 24 rfl (fun h0_3 => ?_) fun h0_3 => ?_
  ·
   exact gct rfl (gS (gR (gA rfl (gE (gRt (gr1 results158 rfl ⟨rfl, hm.below⟩))))))
  refine gcf rfl (gSk (gS (gS (gJ hm (fun s0_2 => [(1, (nV k_)), (3, (pV b0_1)), (5, (pV b0_2)), (45, (.bool (s0_2)))]) (fun s0_2 => [blk b0_1 [(sV b0_3 o0_1 u.codes.length c0_1)] 28, blk b0_2 [(nV x_.op), (nV x_.to), v2, (nV x_.n_)] 89]) (fun s0_2 => ?_) ?_))))
  ·
   refine gR (gF fo_89_0 rfl (gL hm 1 isAgg3 rfl (gC hm rfl call166 (impl_sets_ok _ x_.op) fun r1_3 hx1_3 w hm => gM rfl (gs 28 rfl (fun h1_2 => ?_) fun h1_2 => ?_))))
   ·
    refine gL hm 2 isAgg111 rfl (gF fo_89_1 rfl (gL hm 1 isAgg3 rfl (gb fun r1_4 hx1_4 => gf rfl (fun a hf => e_callv hf rfl rfl rfl ⟨191, [(pV b0_4)], rfl, call191, impl_insOk_1_ok _ x_.to x0_1 v0_1 (rep_later (hm.now h0_2) (Below.refl _ _)) b0_4 (hm.blk_later 3 rfl (Below.refl _ _)) _ hx1_4⟩) ?_)))
    rintro v1_4 w ⟨rfl, hB⟩
    replace hm := hm.below' hB; clear hB
    refine gN rfl (gKt rfl (gM rfl (gsn 35 rfl (fun h1_3 => ?_) fun h1_3 => ?_)))
    ·
     exact gO rfl (gO rfl (gO rfl (gO rfl (gO rfl (gO rfl (gO rfl (gO rfl (gO rfl (gKt rfl (gE (gz hm [0, 1] rfl)))))))))))
    refine gF fo_89_0 rfl (gL hm 1 isAgg3 rfl (gC hm rfl call166 (impl_sets_ok _ x_.op) fun r1_5 hx1_5 w hm => gN rfl (gM rfl (gsn 40 rfl (fun h1_4 => ?_) fun h1_4 => ?_))))
    ·
     exact gF fo_89_1 rfl (gL hm 1 isAgg3 rfl (gB rfl (gKt rfl (gKf rfl (gE (gz hm [0, 1] rfl))))))
    exact gO rfl (gO rfl (gO rfl (gKf rfl (gKf rfl (gE (gz hm [0, 1] rfl))))))
   refine gO rfl (gO rfl (gO rfl (gO rfl (gO rfl (gKf rfl (gM rfl (gF fo_89_0 rfl (gL hm 1 isAgg3 rfl (gC hm rfl call166 (impl_sets_ok _ x_.op) fun r1_6 hx1_6 w hm => gN rfl (gM rfl (gsn 40 rfl (fun h1_5 => ?_) fun h1_5 => ?_)))))))))))
   ·
    exact gF fo_89_1 rfl (gL hm 1 isAgg3 rfl (gB rfl (gKt rfl (gKf rfl (gE (gz hm [0, 1] rfl))))))
   exact gO rfl (gO rfl (gO rfl (gKf rfl (gKf rfl (gE (gz hm [0, 1] rfl))))))
  repeat clear hm
  intro s0_2 w hm
  refine gs 45 rfl (fun h0_4 => ?_) fun h0_4 => ?_
  ·
   exact gct rfl (gS (gR (gA rfl (gE (gRt (gr1 results158 rfl ⟨rfl, hm.below⟩))))))
  refine gcf rfl (gSk (gS (gS (gR (gF fo_89_0 rfl (gL hm 1 isAgg3 rfl (gE (gBk (gS (gR (gB rfl (gA rfl (gE (gsd 48 rfl (fun h0_5 => ?_) fun h0_5 => ?_))))))))))))))
  ·
   refine gct rfl (gS (gJ hm (fun s0_3 => [(6, (.bool (s0_3)))]) (fun s0_3 => []) (fun s0_3 => ?_) ?_))
   ·
    refine gR (gF fo_89_2 rfl (gL hm 1 isAgg47 rfl ?_))
    obtain ⟨p1_1, c1_1, rfl, hl1_1⟩ := ro_slice h2
    refine gY (yV st_47 rfl) (gB rfl (gM rfl (gsd 54 rfl (fun h1_6 => ?_) fun h1_6 => ?_)))
    ·
     exact gF fo_89_3 rfl (gL hm 1 isAgg3 rfl (gC hm rfl call194 (impl_isByte_ok _ x_.n_) fun r1_7 hx1_7 w hm => gKt rfl (gA rfl (gE (gz hm [] rfl)))))
    exact gO rfl (gO rfl (gO rfl (gKf rfl (gA rfl (gE (gz hm [] rfl))))))
   repeat clear hm
   intro s0_3 w hm
   exact gRt (gr1 results158 rfl ⟨rfl, hm.below⟩)
  refine gcf rfl (gS (gR (gB rfl (gA rfl (gE (gsd 59 rfl (fun h0_6 => ?_) fun h0_6 => ?_))))))
  ·
   refine gct rfl (gS (gJ hm (fun s0_4 => [(6, (.bool (s0_4)))]) (fun s0_4 => []) (fun s0_4 => ?_) ?_))
   ·
    refine gW (.p 0 (.p 2 (.p 3 (.e 1 (.e 4 (.p 5 (.p 6 (.p 9 (.p 11 (.q 7 (.p 8 (.q 10 (.e 12 (.p 13 (.p 14 (.e 15 (.p 16 (.p 17 (.p 18 .fin))) .nil))) .nil)))))))) .nil) .nil)))) [7, 10, 12, 15] [0, 2, 3, 5, 6, 8, 9, 11, 13, 14, 16, 17, 18] hm [0, 1] [blk b0_1 [(sV b0_3 o0_1 u.codes.length c0_1)] 28, blk b0_2 [(nV x_.op), (nV x_.to), v2, (nV x_.n_)] 89] rfl mxo (by kernel_rfl) (fun _ _ _ h => h.2) fun w hm hS => tP rfl (fun w => yF fo_89_3 rfl) (tP rfl (fun w => yM rfl) (tP rfl (fun w => yB rfl) (tO (tY rfl (yL hm 1 isAgg3 rfl) (tAn rfl (tO (gb fun r1_8 hx1_8 => tf rfl rfl (fun a hf => e_call hf rfl call91 rfl (impl_within_ok _ x_.n_ 0 (w64 (k_ - 1)) _ hx1_8)) ?_)))))))
    rintro v1_8 w ⟨rfl, hB⟩
    replace hm := hm.below' hB; clear hB
    refine tAk hm [0, 1] rfl fun hS => tP rfl (fun w => yM rfl) (gs 66 rfl (fun h1_7 => ?_) fun h1_7 => ?_)
    ·
     refine tP rfl (fun w => yF fo_89_2 rfl) (tP rfl (fun w => yF fo_28_0 rfl) (tP rfl (fun w => yF fo_89_3 rfl) (tQ rfl hS (fun w hm => yL hm 1 isAgg47 rfl) ?_)))
     obtain ⟨p1_2, c1_2, rfl, hl1_2⟩ := ro_slice h2
     refine tP rfl (fun w => yV st_47 rfl) (tQ rfl hS (fun w hm => yL hm 0 isAgg26 rfl) (tO (tY rfl (yL hm 1 isAgg3 rfl) (tAs hS (gg fun x1_1 h1_8 hx1_10 => ?_)))))
     obtain ⟨v1_9, hc1_1, h1_9⟩ := rk_Code_ h1 hx1_10
     exact tP rfl (fun w => yI st_26 h1_8 (idx_lt hx1_10) rfl) (tP rfl (fun w => yF fo_45_0 rfl) (tO (tY rfl (yl isAgg3 ((hc1_1.mono hm.lez).cell (j := 0) rfl) rfl) (tAs hS (tP rfl (fun w => yB rfl) (tP rfl (fun w => yKt rfl) (tP rfl (fun w => yA rfl) (tE (gz hm [] rfl)))))))))
    exact tPo rfl rfl (tPo rfl rfl (tPo rfl rfl (tQo rfl hS rfl (tPo rfl rfl (tQo rfl hS rfl (tO (tEo rfl rfl (tAs hS (tPo rfl rfl (tPo rfl rfl (tO (tEo rfl rfl (tAs hS (tPo rfl rfl (tP rfl (fun w => yKf rfl) (tP rfl (fun w => yA rfl) (tE (gz hm [] rfl))))))))))))))))))
   repeat clear hm
   intro s0_4 w hm
   exact gRt (gr1 results158 rfl ⟨rfl, hm.below⟩)
  refine gcf rfl (gSk (gS (gJ hm (fun s0_5 => [(6, (.bool (s0_5)))]) (fun s0_5 => []) (fun s0_5 => ?_) ?_)))
  ·
   refine gW (.p 0 (.e 1 (.p 2 (.p 3 (.p 4 (.p 7 (.q 5 (.p 6 (.e 8 (.e 9 (.p 10 (.p 11 (.p 12 .fin))) .nil) .nil))))))) .nil)) [8, 9] [0, 2, 3, 4, 6, 7, 10, 11, 12] hm [0, 1] [blk b0_1 [(sV b0_3 o0_1 u.codes.length c0_1)] 28, blk b0_2 [(nV x_.op), (nV x_.to), v2, (nV x_.n_)] 89] rfl mxo (by kernel_rfl) (fun _ _ _ h => h.2) fun w hm hS => tP rfl (fun w => yF fo_89_3 rfl) (tO (tY rfl (yL hm 1 isAgg3 rfl) (tAn rfl (tP rfl (fun w => yB rfl) (tP rfl (fun w => yM rfl) (gsd 82 rfl (fun h1_10 => ?_) fun h1_10 => ?_))))))
   ·
    refine tP rfl (fun w => yF fo_89_2 rfl) (tP rfl (fun w => yF fo_89_0 rfl) (tQ rfl hS (fun w hm => yL hm 1 isAgg47 rfl) ?_))
    obtain ⟨p1_3, c1_3, rfl, hl1_3⟩ := ro_slice h2
    refine tP rfl (fun w => yV st_47 rfl) (tO (tY rfl (yL hm 1 isAgg3 rfl) (tAs hS (tO (gb fun r1_9 hx1_11 => tf rfl rfl (fun a hf => e_call hf rfl call195 rfl (impl_insArgs_ok _ x_.op _ hx1_11)) ?_)))))
    rintro v1_10 w ⟨rfl, hB⟩
    replace hm := hm.below' hB; clear hB
    exact tAk hm [0, 1] rfl fun hS => tP rfl (fun w => yB rfl) (tP rfl (fun w => yKt rfl) (tP rfl (fun w => yA rfl) (tE (gz hm [] rfl))))
   exact tPo rfl rfl (tPo rfl rfl (tQo rfl hS rfl (tPo rfl rfl (tO (tEo rfl rfl (tAs hS (tO (tEo rfl rfl (tAs hS (tPo rfl rfl (tP rfl (fun w => yKf rfl) (tP rfl (fun w => yA rfl) (tE (gz hm [] rfl))))))))))))))
  repeat clear hm
  intro s0_5 w hm
  exact gRt (gr1 results158 rfl ⟨rfl, hm.below⟩)

theorem impl_codeOk_3_ok (w0 : World) (i_ : Ins_) (v1 : Value) (h1 : GT.rep (hp w0) [v1] i_.args) (c0_ : Unit_) (v2 : Value) (h2 : GT.rep (hp w0) [v2] c0_.codes) (bf0 : Nat) (hbf0 : w0.heap[bf0]? = some (.cells ([v2] : List Value).toArray 28 (0, 0))) (c1_ : Int) (bf1 : Nat) (hbf1 : w0.heap[bf1]? = some (.cells ([(nV c1_)] : List Value).toArray 3 (0, 0))) :
    ConM Tryz.prog 157 [(.agg #[(nV i_.op), (nV i_.to), v1, (nV i_.n_)]), (pV bf0), (pV bf1)] w0 (impl_codeOk_3 i_ c0_ c1_) fun r v w' => v = (.bool (r)) ∧ Below w0.heap.size w0 w' := by
  unfold impl_codeOk_3
  refine gcon func157 rfl fun r => ?_
  have hm := Mem.start w0
  exact gS (gR (gBx hm rfl fun b0_1 w hm => gA rfl (gE (gS (gR (gY (yn (hm.old_at hbf0) isAgg28 sizeOf28 rfl) (gY (yl isAgg3 (hm.old_cell hbf1 rfl) rfl) (gY (yn (hm.blk_at 0 rfl) isAgg89 sizeOf89 rfl) (gC hm rfl call158 (impl_insOk_ok _ c0_ v2 (hm.now h2) c1_ i_ v1 (hm.now h1)) fun r0_1 hx0_1 w hm => gN rfl (gA rfl (gE (gRt (gr1 results157 rfl ⟨rfl, hm.below⟩)))))))))))))

theorem slices_IndexFunc_S_impl_Ins_impl_Ins_ok (w0 : World) (s_ : List Ins_) (v1 : Value) (h1 : GT.rep (hp w0) [v1] s_) (f : Ins_ → Option Bool) (fv1 : Value) (hfn1 : ∀ (w : World) (y0 : Ins_) (z1 : Value) (_ : GT.rep (hp w) [z1] y0.args) (r : Bool), Below w0.heap.size w0 w → f y0 = some r → FnOk Tryz.prog fv1 [(.agg #[(nV y0.op), (nV y0.to), z1, (nV y0.n_)])] w (fun v w' => v = (.bool (r)) ∧ Below w.heap.size w w')) :
    ConM Tryz.prog 190 [v1, fv1] w0 (slices_IndexFunc_S_impl_Ins_impl_Ins s_ f) fun r v w' => v = (nV r) ∧ Below w0.heap.size w0 w' := by
  unfold slices_IndexFunc_S_impl_Ins_impl_Ins
  refine gcon func190 rfl fun r => ?_
  have hm := Mem.start w0
  refine gS (gR (gA rfl (gE (gS (gS (gR (gM rfl ?_)))))))
  obtain ⟨p0_1, c0_1, rfl, hl0_1⟩ := ro_slice h1
  refine gY (yV st_59 rfl) (gM rfl (gE (gBk (gNf hm (fun i1_1 xs1_1 => [(0, (.slice p0_1 s_.length c0_1)), (1, fv1), (7, (nV ((s_.length : Int)))), (8, (nV i1_1))]) (fun i1_1 xs1_1 => []) [] rfl ?_ ?_))))
  ·
   repeat clear hm
   intro r0_1 hq0_1 i1_1 xs1_1 w hm hi0_1 hi0_2 q0_1 ho0_1
   refine gS (gR (gB rfl (gE (gS (go _ 9 rfl (decide_eq_true (by omega)) (gct rfl (gSk (gS (gBk (gS (gR (gM rfl (gA rfl (gE (gS (gR (gM rfl (gM rfl (gM rfl (gg fun x1_1 h1_1 hx1_2 => ?_))))))))))))))))))))
   obtain ⟨b1_1, o1_1, c1_1, he⟩ := idx_form' h1 hx1_2
   simp only [Value.slice.injEq, Option.some.injEq] at he; obtain ⟨rfl, _, rfl⟩ := he
   obtain ⟨v1_1, hc1_1, h1_2⟩ := rk_Ins_ h1 hx1_2
   refine gI st_59 h1_1 (idx_lt hx1_2) rfl (gY (yn (hc1_1.mono hm.lez) isAgg89 sizeOf89 rfl) (gb fun r1_1 hx1_3 => gf rfl (fun a hf => e_callv hf rfl rfl rfl (hfn1 _ x1_1 v1_1 (hm.now h1_2) _ hm.below hx1_3)) ?_))
   rintro v1_2 w ⟨rfl, hB⟩
   replace hm := hm.below' hB; clear hB
   refine gE (gs 16 rfl (fun h1_3 => ?_) fun h1_3 => ?_)
   ·
    exact gct rfl (gS (gR (gM rfl (gA rfl (gE (gRt (gLr ho0_1 hq0_1 (gr1 results190 rfl ⟨rfl, hm.below⟩))))))))
   exact gcf rfl (gSk (gR (gP (by omega) (by omega) rfl (gM rfl (gE (gze hm [] rfl))))))
  repeat clear hm
  intro i0_1 xs0_1 w hm hi0_3 hi0_4
  exact gS (gR (gB rfl (gE (gS (go _ 9 rfl (decide_eq_false (by omega)) (gcf rfl (gXt (gHh (gS (gR (gA rfl (gE (gRt (gr1 results190 rfl ⟨rfl, hm.below⟩))))))))))))))

theorem slices_ContainsFunc_S_impl_Ins_impl_Ins_ok (w0 : World) (s_ : List Ins_) (v1 : Value) (h1 : GT.rep (hp w0) [v1] s_) (f : Ins_ → Option Bool) (fv1 : Value) (hfn1 : ∀ (w : World) (y0 : Ins_) (z1 : Value) (_ : GT.rep (hp w) [z1] y0.args) (r : Bool), Below w0.heap.size w0 w → f y0 = some r → FnOk Tryz.prog fv1 [(.agg #[(nV y0.op), (nV y0.to), z1, (nV y0.n_)])] w (fun v w' => v = (.bool (r)) ∧ Below w.heap.size w w')) :
    ConM Tryz.prog 156 [v1, fv1] w0 (slices_ContainsFunc_S_impl_Ins_impl_Ins s_ f) fun r v w' => v = (.bool (r)) ∧ Below w0.heap.size w0 w' := by
  unfold slices_ContainsFunc_S_impl_Ins_impl_Ins
  refine gcon func156 rfl fun r => ?_
  have hm := Mem.start w0
  exact gS (gR (gA rfl (gE (gS (gR (gM rfl (gM rfl (gC hm rfl call190 (slices_IndexFunc_S_impl_Ins_impl_Ins_ok _ s_ v1 (hm.now h1) f fv1 (fun w y0 z0_0 z0_1 r hB hq => hfn1 w y0 z0_0 z0_1 r (hm.below.trans (hB.mono hm.below.size)) hq)) fun r0_1 hx0_1 w hm => gB rfl (gA rfl (gE (gRt (gr1 results156 rfl ⟨rfl, hm.below⟩))))))))))))

theorem slices_Index_S_int_int_ok (w0 : World) (s_ : List Int) (v1 : Value) (h1 : GT.rep (hp w0) [v1] s_) (v_ : Int) :
    ConM Tryz.prog 161 [v1, (nV v_)] w0 (slices_Index_S_int_int s_ v_) fun r v w' => v = (nV r) ∧ Below w0.heap.size w0 w' := by
  unfold slices_Index_S_int_int
  refine gcon func161 rfl fun r => ?_
  have hm := Mem.start w0
  refine gS (gR (gA rfl (gE (gS (gS (gR (gM rfl ?_)))))))
  obtain ⟨p0_1, c0_1, rfl, hl0_1⟩ := ro_slice h1
  refine gY (yV st_47 rfl) (gM rfl (gE (gBk (gNf hm (fun i1_1 xs1_1 => [(0, (.slice p0_1 s_.length c0_1)), (1, (nV v_)), (7, (nV ((s_.length : Int)))), (8, (nV i1_1))]) (fun i1_1 xs1_1 => []) [] rfl ?_ ?_))))
  ·
   repeat clear hm
   intro r0_1 hq0_1 i1_1 xs1_1 w hm hi0_1 hi0_2 q0_1 ho0_1
   refine gS (gR (gB rfl (gE (gS (go _ 9 rfl (decide_eq_true (by omega)) (gct rfl (gSk (gS (gBk (gS (gR (gM rfl (gA rfl (gE (gS (gR (gM rfl (gM rfl (gM rfl (gg fun x1_1 h1_1 hx1_2 => ?_))))))))))))))))))))
   obtain ⟨b1_1, o1_1, c1_1, he⟩ := idx_form h1 hx1_2
   simp only [Value.slice.injEq, Option.some.injEq] at he; obtain ⟨rfl, _, rfl⟩ := he
   refine gI st_47 h1_1 (idx_lt hx1_2) rfl (gY (yl isAgg3 ((flat_cells (cs := [(nV x1_1)]) (hm.now h1) hx1_2 rfl).cell (j := 0) rfl) rfl) (gB rfl (gE (gsd 16 rfl (fun h1_2 => ?_) fun h1_2 => ?_))))
   ·
    exact gct rfl (gS (gR (gM rfl (gA rfl (gE (gRt (gLr ho0_1 hq0_1 (gr1 results161 rfl ⟨rfl, hm.below⟩))))))))
   exact gcf rfl (gSk (gR (gP (by omega) (by omega) rfl (gM rfl (gE (gze hm [] rfl))))))
  repeat clear hm
  intro i0_1 xs0_1 w hm hi0_3 hi0_4
  exact gS (gR (gB rfl (gE (gS (go _ 9 rfl (decide_eq_false (by omega)) (gcf rfl (gXt (gHh (gS (gR (gA rfl (gE (gRt (gr1 results161 rfl ⟨rfl, hm.below⟩))))))))))))))

theorem slices_Contains_S_int_int_ok (w0 : World) (s_ : List Int) (v1 : Value) (h1 : GT.rep (hp w0) [v1] s_) (v_ : Int) :
    ConM Tryz.prog 101 [v1, (nV v_)] w0 (slices_Contains_S_int_int s_ v_) fun r v w' => v = (.bool (r)) ∧ Below w0.heap.size w0 w' := by
  unfold slices_Contains_S_int_int
  refine gcon func101 rfl fun r => ?_
  have hm := Mem.start w0
  exact gS (gR (gA rfl (gE (gS (gR (gM rfl (gM rfl (gC hm rfl call161 (slices_Index_S_int_int_ok _ s_ v1 (hm.now h1) v_) fun r0_1 hx0_1 w hm => gB rfl (gA rfl (gE (gRt (gr1 results101 rfl ⟨rfl, hm.below⟩))))))))))))

theorem impl_PredsOf_ok (w0 : World) (c_ : Code_) (v1 : Value) (h1 : GT.rep (hp w0) [v1] c_.blocks) (b_ : Int) :
    ConM Tryz.prog 65 [(.agg #[(nV c_.params), (nV c_.regs), v1]), (nV b_)] w0 (impl_PredsOf c_ b_) fun r v w' => ∃ (x1 : Value), v = x1 ∧ Mem w0 (hp w0) w' [ow [x1] r] := by
  unfold impl_PredsOf
  refine gcon func65 rfl fun r => ?_
  have hm := Mem.start w0
  refine gS (gR (gBx hm rfl fun b0_1 w hm => gA rfl (gE (gS (gR (gA rfl (gE (gS (gS (gR (gM rfl (gF fo_45_2 rfl (gL hm 0 isAgg43 rfl ?_)))))))))))))
  obtain ⟨p0_1, c0_1, rfl, hl0_1⟩ := ro_slice h1
  refine gY (yV st_43 rfl) (gY (yS (by omega) (by omega) rfl) (gC hm rfl call91 (impl_within_ok _ b_ 0 (((c_.blocks.length : Int)) - 1)) fun r0_1 hx0_1 w hm => gN rfl (gE (gsn 14 rfl (fun h0_1 => ?_) fun h0_1 => ?_))))
  ·
   refine gct rfl (gS (gR (gA rfl (gE (gRt ?_)))))
   replace hm := hm.nilow (α := Int)
   exact gr1 results65 rfl ⟨(.slice none 0 0), rfl, hm.pk [0] rfl rfl⟩
  refine gcf rfl (gSk (gS (gS (gR (gF fo_45_2 rfl (gL hm 0 isAgg43 rfl (gY (yV st_43 rfl) (gM rfl (gE (gBk ?_))))))))))
  replace hm := hm.nilow (α := Int)
  refine gNg (fun i1_1 xs1_1 a w => ∃ (v1_1 : Value), St 33 [(1, (nV b_)), (5, v1_1), (16, (.slice p0_1 c_.blocks.length c0_1)), (17, (nV ((c_.blocks.length : Int)))), (18, (nV i1_1))] w0 (hp w0) [ow [v1_1] xs1_1] a w) (fun a hf => ⟨(.slice none 0 0), hf.sb rfl, hm.pk [0] rfl rfl⟩) ?_ ?_
  ·
   repeat clear hm
   rintro _ _ i1_1 xs1_1 a w ⟨v1_1, hf, hm⟩ hi0_1 hi0_2 q0_1 _
   refine gv hf (gS (gR (gB rfl (gE (gS (go _ 19 rfl (decide_eq_true (by omega)) (gct rfl (gSk (gS (gJg (fun s1_1 a w => ∃ (v1_2 : Value), St 33 [(1, (nV b_)), (5, v1_2), (16, (.slice p0_1 c_.blocks.length c0_1)), (17, (nV ((c_.blocks.length : Int)))), (18, (nV i1_1))] w0 (hp w0) [ow [v1_2] s1_1] a w) (fun s1_1 => ?_) ?_))))))))))
   ·
    refine gBk (gS (gR (gM rfl (gg fun x2_1 h2_1 hx2_2 => ?_))))
    obtain ⟨b2_1, o2_1, c2_1, he⟩ := idx_form' h1 hx2_2
    simp only [Value.slice.injEq, Option.some.injEq] at he; obtain ⟨rfl, _, rfl⟩ := he
    obtain ⟨v2_1, v2_2, v2_3, hc2_1, h2_2, h2_3, h2_4⟩ := rk_Block_ h1 hx2_2
    refine gI st_43 h2_1 (idx_lt hx2_2) rfl (gY (yn (hc2_1.mono hm.lez) isAgg61 sizeOf61 rfl) (gAl hm zeroValue61 rfl fun b2_2 w hm => gA rfl (gSN hm 0 sizeOf61 (one_cons (rep_one h2_2) (one_cons (rep_one h2_3) (one_cons rfl (one_cons rfl (one_cons (rep_one h2_4) one_nil))))) rfl fun w hm => gE (gS (gR (gF fo_61_4 rfl (gL hm 0 isAgg47 rfl (gM rfl (gC hm rfl call101 (slices_Contains_S_int_int_ok _ x2_1.next_ v2_3 (hm.now h2_4) b_) fun r2_1 hx2_3 w hm => gE (gJg (fun s2_1 a w => ∃ (v2_5 : Value), St 33 [(1, (nV b_)), (5, v2_5), (16, (sV b2_1 o2_1 c_.blocks.length c0_1)), (17, (nV ((c_.blocks.length : Int)))), (18, (nV i1_1))] w0 (hp w0) [ow [v2_5] s2_1] a w) (fun s2_1 => ?_) ?_))))))))))
    ·
     refine gs 26 rfl (fun h3_1 => ?_) fun h3_1 => ?_
     ·
      refine gct rfl (gR (gM rfl (gM rfl (gf rfl (fun a hf => e_build (vs := #[(0, (nV i1_1))]) (cs := [(nV i1_1)]) et_47 hf hm rfl rfl (by kernel_rfl) rfl rfl) ?_))))
      rintro _ w ⟨b3_1, rfl, hm⟩
      replace hm := hm.lit (xs := ([i1_1] : List Int)) 0 rfl rfl rfl rfl
      refine gb fun ys3_1 hx3_1 => ?_
      obtain ⟨h3_2, h3_2e⟩ := appM_some.1 hx3_1
      refine gf rfl (fun a hf => e_append 2 et_47 hf hm rfl (hm.ow_rep 0 rfl) rfl rfl rfl h3_2) ?_
      rintro v3_1 w hm
      rw [h3_2e] at hm
      exact gA rfl (gE (gZ fun a hf => ⟨v3_1, hf.sb rfl, hm.pk [2] rfl rfl⟩))
     exact gcf rfl (gSk (gZ fun a hf => ⟨v1_1, hf.sb rfl, hm.pk [1] rfl rfl⟩))
    repeat clear hm
    rintro s2_1 a w ⟨v2_5, hf, hm⟩
    exact gv hf (gZ fun a hf => ⟨v2_5, hf.sb rfl, hm.pk [0] rfl rfl⟩)
   repeat clear hm
   rintro s1_1 a w ⟨v1_2, hf, hm⟩
   exact gv hf (gR (gP (by omega) (by omega) rfl (gM rfl (gE (gZe fun a hf => ⟨v1_2, hf.sb rfl, hm.pk [0] rfl rfl⟩)))))
  repeat clear hm
  rintro i0_1 xs0_1 a w ⟨v0_2, hf, hm⟩ hi0_3 hi0_4
  exact gv hf (gS (gR (gB rfl (gE (gS (go _ 19 rfl (decide_eq_false (by omega)) (gcf rfl (gXt (gHh (gS (gR (gM rfl (gA rfl (gE (gRt (gr1 results65 rfl ⟨v0_2, rfl, hm.pk [0] rfl rfl⟩))))))))))))))))

theorem impl_codeOk_4_ok (w0 : World) (r_ : Int) (c0_0_ : Code_) (v1 : Value) (h1 : GT.rep (hp w0) [v1] c0_0_.blocks) (bf0_0 : Nat) (hbf0_0 : w0.heap[bf0_0]? = some (.cells ([(nV c0_0_.params), (nV c0_0_.regs), v1] : List Value).toArray 45 (0, 0))) (bf0 : Nat) (hbf0 : w0.heap[bf0]? = some (.cells ([(.func (.func 153) #[] #[(pV bf0_0)])] : List Value).toArray 111 (0, 0))) :
    ConM Tryz.prog 159 [(nV r_), (pV bf0)] w0 (impl_codeOk_4 r_ c0_0_) fun r v w' => v = (.bool (r)) ∧ Below w0.heap.size w0 w' := by
  unfold impl_codeOk_4
  refine gcon func159 rfl fun r => ?_
  have hm := Mem.start w0
  refine gS (gR (gA rfl (gE (gS (gR (gY (yl isAgg111 (hm.old_cell hbf0 rfl) rfl) (gM rfl (gb fun r0_1 hx0_1 => gf rfl (fun a hf => e_callv hf rfl rfl rfl ⟨153, [(pV bf0_0)], rfl, call153, impl_codeOk_1_ok _ r_ c0_0_ v1 (rep_later (hm.now h1) (Below.refl _ _)) bf0_0 (hm.old_later hbf0_0 (Below.refl _ _)) _ hx0_1⟩) ?_))))))))
  rintro v0_1 w ⟨rfl, hB⟩
  replace hm := hm.below' hB; clear hB
  exact gN rfl (gA rfl (gE (gRt (gr1 results159 rfl ⟨rfl, hm.below⟩))))

theorem impl_codeOk_ok (w0 : World) (u : Unit_) (v1 : Value) (h1 : GT.rep (hp w0) [v1] u.codes) (k_ : Int) :
    ConM Tryz.prog 92 [(.agg #[v1]), (nV k_)] w0 (impl_codeOk u k_) fun r v w' => v = (.bool (r)) ∧ Below w0.heap.size w0 w' := by
  unfold impl_codeOk
  refine gcon func92 rfl fun r => ?_
  have hm := Mem.start w0
  refine gS (gR (gBx hm rfl fun b0_1 w hm => gBx hm rfl fun b0_2 w hm => gA rfl (gE (gS (gR (gF fo_28_0 rfl (gL hm 1 isAgg26 rfl (gL hm 0 isAgg3 rfl (gg fun x0_1 h0_1 hx0_2 => ?_)))))))))
  obtain ⟨b0_3, o0_1, c0_1, he⟩ := idx_form' h1 hx0_2
  subst he
  obtain ⟨v0_1, hc0_1, h0_2⟩ := rk_Code_ h1 hx0_2
  refine gI st_26 h0_1 (idx_lt hx0_2) rfl (gY (yn (hc0_1.mono hm.lez) isAgg45 sizeOf45 rfl) (gAl hm zeroValue45 rfl fun b0_4 w hm => gSN hm 0 sizeOf45 (one_cons rfl (one_cons rfl (one_cons (rep_one h0_2) one_nil))) rfl fun w hm => gE (gS (gS (gJ hm (fun s0_1 => [(2, (pV b0_1)), (3, (pV b0_2)), (5, (pV b0_4)), (36, (.bool (s0_1)))]) (fun s0_1 => [blk b0_1 [(sV b0_3 o0_1 u.codes.length c0_1)] 28, blk b0_2 [(nV k_)] 3, blk b0_4 [(nV x0_1.params), (nV x0_1.regs), v0_1] 45]) (fun s0_1 => ?_) ?_)))))
  ·
   refine gR (gF fo_45_1 rfl (gL hm 0 isAgg3 rfl (gC hm rfl call91 (impl_within_ok _ x0_1.regs 0 300) fun r1_1 hx1_1 w hm => gN rfl (gM rfl (gsn 21 rfl (fun h1_1 => ?_) fun h1_1 => ?_)))))
   ·
    exact gO rfl (gO rfl (gO rfl (gO rfl (gO rfl (gO rfl (gO rfl (gKt rfl (gM rfl (gO rfl (gO rfl (gO rfl (gO rfl (gO rfl (gKt rfl (gE (gz hm [2, 1, 0] rfl))))))))))))))))
   refine gF fo_45_0 rfl (gL hm 0 isAgg3 rfl (gF fo_45_1 rfl (gL hm 0 isAgg3 rfl (gY (yG rfl (y_min rfl rfl rfl)) ?_))))
   have h1_2 : minI 3 x0_1.regs = min 3 x0_1.regs := minI_eq _ _
   refine gC hm rfl call91 (impl_within_ok _ x0_1.params 0 (minI 3 x0_1.regs)) fun r1_2 hx1_2 w hm => gN rfl (gKf rfl (gM rfl (gsn 30 rfl (fun h1_3 => ?_) fun h1_3 => ?_)))
   ·
    exact gO rfl (gO rfl (gO rfl (gO rfl (gO rfl (gKt rfl (gE (gz hm [2, 1, 0] rfl)))))))
   refine gF fo_45_2 rfl (gL hm 0 isAgg43 rfl ?_)
   obtain ⟨p1_1, c1_1, rfl, hl1_1⟩ := ro_slice h0_2
   exact gY (yV st_43 rfl) (gC hm rfl call91 (impl_within_ok _ (x0_1.blocks.length : Int) 1 160) fun r1_3 hx1_3 w hm => gN rfl (gKf rfl (gE (gz hm [2, 1, 0] rfl))))
  repeat clear hm
  intro s0_1 w hm
  refine gs 36 rfl (fun h0_3 => ?_) fun h0_3 => ?_
  ·
   exact gct rfl (gS (gR (gA rfl (gE (gRt (gr1 results92 rfl ⟨rfl, hm.below⟩))))))
  refine gcf rfl (gSk (gS (gR (gY (yU rfl) (gAl hm zeroValue111 rfl fun b0_5 w hm => gS1 hm 0 sizeOf111 rfl rfl fun w hm => gE (gS (gS (gR (gF fo_45_2 rfl (gL hm 3 isAgg43 rfl ?_))))))))))
  obtain ⟨p0_1, c0_2, rfl, hl0_1⟩ := ro_slice h0_2
  refine gY (yV st_43 rfl) (gM rfl (gE (gBk (gNf hm (fun i1_1 xs1_1 => [(2, (pV b0_1)), (3, (pV b0_2)), (5, (pV b0_4)), (6, (pV b0_5)), (39, (.slice p0_1 x0_1.blocks.length c0_2)), (40, (nV ((x0_1.blocks.length : Int)))), (41, (nV i1_1))]) (fun i1_1 xs1_1 => [blk b0_1 [(sV b0_3 o0_1 u.codes.length c0_1)] 28, blk b0_2 [(nV k_)] 3, blk b0_4 [(nV x0_1.params), (nV x0_1.regs), (.slice p0_1 x0_1.blocks.length c0_2)] 45, blk b0_5 [(.func (.func 153) #[] #[(pV b0_4)])] 111]) [1, 2, 3, 0] rfl ?_ ?_))))
  ·
   repeat clear hm
   intro r0_1 hq0_2 i1_1 xs1_1 w hm hi0_1 hi0_2 q0_1 ho0_1
   refine gS (gR (gB rfl (gE (gS (go _ 42 rfl (decide_eq_true (by omega)) (gct rfl (gSk (gS (gBk (gS (gR (gM rfl (gg fun x1_1 h1_4 hx1_5 => ?_)))))))))))))
   obtain ⟨b1_1, o1_1, c1_2, he⟩ := idx_form' h0_2 hx1_5
   simp only [Value.slice.injEq, Option.some.injEq] at he; obtain ⟨rfl, _, rfl⟩ := he
   obtain ⟨v1_4, v1_5, v1_6, hc1_1, h1_5, h1_6, h1_7⟩ := rk_Block_ h0_2 hx1_5
   refine gI st_43 h1_4 (idx_lt hx1_5) rfl (gY (yn (hc1_1.mono hm.lez) isAgg61 sizeOf61 rfl) (gAl hm zeroValue61 rfl fun b1_2 w hm => gA rfl (gSN hm 0 sizeOf61 (one_cons (rep_one h1_5) (one_cons (rep_one h1_6) (one_cons rfl (one_cons rfl (one_cons (rep_one h1_7) one_nil))))) rfl fun w hm => gE (gS (gS (gJ hm (fun s1_1 => [(2, (pV b0_1)), (3, (pV b0_2)), (5, (pV b0_4)), (6, (pV b0_5)), (7, (nV i1_1)), (8, (pV b1_2)), (39, (sV b1_1 o1_1 x0_1.blocks.length c0_2)), (40, (nV ((x0_1.blocks.length : Int)))), (41, (nV i1_1)), (75, (.bool (s1_1)))]) (fun s1_1 => [blk b0_1 [(sV b0_3 o0_1 u.codes.length c0_1)] 28, blk b0_2 [(nV k_)] 3, blk b0_4 [(nV x0_1.params), (nV x0_1.regs), (sV b1_1 o1_1 x0_1.blocks.length c0_2)] 45, blk b0_5 [(.func (.func 153) #[] #[(pV b0_4)])] 111, blk b1_2 [v1_4, v1_5, (nV x1_1.jump), (nV x1_1.on), v1_6] 61]) (fun s1_1 => ?_) ?_))))))
   ·
    refine gW (.p 0 (.p 3 (.q 1 (.p 2 (.e 4 (.e 5 (.p 6 (.p 7 (.p 8 (.e 9 (.e 10 (.p 11 (.p 13 (.q 12 (.e 14 (.e 15 (.p 16 (.p 17 (.p 18 (.p 19 (.p 20 (.e 21 (.e 22 (.p 23 (.p 24 (.p 25 (.e 26 (.p 27 (.p 28 (.p 29 .fin))) .nil)))) .nil) .nil)))))) .nil) .nil)))) .nil) .nil)))) .nil) .nil))))) [4, 5, 14] [0, 2, 3, 6, 7, 8, 11, 13, 16, 17, 18, 19, 20, 23, 24, 25, 27, 28, 29] hm [0, 1, 2, 3, 4] [blk b1_2 [v1_4, v1_5, (nV x1_1.jump), (nV x1_1.on), v1_6] 61, blk b0_1 [(sV b0_3 o0_1 u.codes.length c0_1)] 28, blk b0_2 [(nV k_)] 3, blk b0_4 [(nV x0_1.params), (nV x0_1.regs), (sV b1_1 o1_1 x0_1.blocks.length c0_2)] 45, blk b0_5 [(.func (.func 153) #[] #[(pV b0_4)])] 111] rfl mxo (by kernel_rfl) (fun _ _ _ h => h.2) fun w hm hS => tP rfl (fun w => yF fo_61_4 rfl) (tP rfl (fun w => yF fo_61_2 rfl) (tQ rfl hS (fun w hm => yL hm 0 isAgg47 rfl) ?_))
    obtain ⟨p2_1, c2_1, rfl, hl2_1⟩ := ro_slice h1_7
    refine tP rfl (fun w => yV st_47 rfl) (tO (tY rfl (yL hm 0 isAgg3 rfl) (tAs hS (tO (gb fun r2_1 hx2_1 => tf rfl rfl (fun a hf => e_call hf rfl call154 rfl (impl_nextCount_ok _ x1_1.jump _ hx2_1)) ?_)))))
    rintro v2_1 w ⟨rfl, hB⟩
    replace hm := hm.below' hB; clear hB
    refine tAk hm [0, 1, 2, 3, 4] rfl fun hS => tP rfl (fun w => yB rfl) (tP rfl (fun w => yM rfl) (gsd 53 rfl (fun h2_1 => ?_) fun h2_1 => ?_))
    ·
     refine tPo rfl rfl (tO (tEo rfl rfl (tAn rfl (tO (tEo rfl rfl (tAn rfl (tPo rfl rfl (tPo rfl rfl (tQo rfl hS rfl (tO (tEo rfl rfl (tAs hS (tO (tEo rfl rfl (tAn rfl (tPo rfl rfl (tPo rfl rfl (tP rfl (fun w => yKt rfl) (tP rfl (fun w => yM rfl) (tPo rfl rfl (tO (tEo rfl rfl (tAn rfl (tO (tEo rfl rfl (tAn rfl (tPo rfl rfl (tPo rfl rfl (tPo rfl rfl (tO ?_))))))))))))))))))))))))))))))
     exact tEo rfl rfl (tAn rfl (tPo rfl rfl (tPo rfl rfl (tP rfl (fun w => yKt rfl) (tE (gz hm [1, 2, 3, 4, 0] rfl))))))
    refine tP rfl (fun w => yF fo_61_2 rfl) (tO (tY rfl (yL hm 0 isAgg3 rfl) (tAn rfl (tO (gb fun r2_2 hx2_2 => tf rfl rfl (fun a hf => e_call hf rfl call117 rfl (impl_usesOn_ok _ x1_1.jump _ hx2_2)) ?_)))))
    rintro v2_2 w ⟨rfl, hB⟩
    replace hm := hm.below' hB; clear hB
    refine tAk hm [0, 1, 2, 3, 4] rfl fun hS => tP rfl (fun w => yM rfl) (gs 57 rfl (fun h2_2 => ?_) fun h2_2 => ?_)
    ·
     refine tP rfl (fun w => yF fo_61_3 rfl) (tQ rfl hS (fun w hm => yL hm 4 isAgg111 rfl) (tO (tY rfl (yL hm 0 isAgg3 rfl) (tAs hS (tO (gb fun r2_3 hx2_3 => tf rfl rfl (fun a hf => e_callv hf rfl rfl rfl ⟨153, [(pV b0_4)], rfl, call153, impl_codeOk_1_ok _ x1_1.on x0_1 (sV b1_1 o1_1 x0_1.blocks.length c0_2) (rep_later (hm.now h0_2) (Below.refl _ _)) b0_4 (hm.blk_later 3 rfl (Below.refl _ _)) _ hx2_3⟩) ?_))))))
     rintro v2_3 w ⟨rfl, hB⟩
     replace hm := hm.below' hB; clear hB
     refine tAn rfl (tP rfl (fun w => yN rfl) (tP rfl (fun w => yKt rfl) (tP rfl (fun w => yKf rfl) (tP rfl (fun w => yM rfl) (gsn 65 rfl (fun h2_3 => ?_) fun h2_3 => ?_)))))
     ·
      exact tPo rfl rfl (tO (tEo rfl rfl (tAn rfl (tO (tEo rfl rfl (tAn rfl (tPo rfl rfl (tPo rfl rfl (tPo rfl rfl (tO (tEo rfl rfl (tAn rfl (tPo rfl rfl (tPo rfl rfl (tP rfl (fun w => yKt rfl) (tE (gz hm [1, 2, 3, 4, 0] rfl)))))))))))))))))
     refine tP rfl (fun w => yF fo_61_2 rfl) (tO (tY rfl (yL hm 0 isAgg3 rfl) (tAn rfl (tO (gb fun r2_4 hx2_4 => tf rfl rfl (fun a hf => e_call hf rfl call117 rfl (impl_usesOn_ok _ x1_1.jump _ hx2_4)) ?_)))))
     rintro v2_4 w ⟨rfl, hB⟩
     replace hm := hm.below' hB; clear hB
     refine tAn rfl (tP rfl (fun w => yN rfl) (tP rfl (fun w => yM rfl) (gsn 70 rfl (fun h2_4 => ?_) fun h2_4 => ?_)))
     ·
      exact tP rfl (fun w => yF fo_61_3 rfl) (tO (tY rfl (yL hm 0 isAgg3 rfl) (tAn rfl (tP rfl (fun w => yB rfl) (tP rfl (fun w => yKt rfl) (tP rfl (fun w => yKf rfl) (tE (gz hm [1, 2, 3, 4, 0] rfl))))))))
     exact tPo rfl rfl (tO (tEo rfl rfl (tAn rfl (tPo rfl rfl (tP rfl (fun w => yKf rfl) (tP rfl (fun w => yKf rfl) (tE (gz hm [1, 2, 3, 4, 0] rfl))))))))
    refine tPo rfl rfl (tQo rfl hS rfl (tO (tEo rfl rfl (tAs hS (tO (tEo rfl rfl (tAn rfl (tPo rfl rfl (tP rfl (fun w => yKf rfl) (tP rfl (fun w => yKf rfl) (tP rfl (fun w => yM rfl) (tP rfl (fun w => yF fo_61_2 rfl) (tO (tY rfl (yL hm 0 isAgg3 rfl) (tAn rfl (tO (gb fun r2_5 hx2_5 => tf rfl rfl (fun a hf => e_call hf rfl call117 rfl (impl_usesOn_ok _ x1_1.jump _ hx2_5)) ?_)))))))))))))))))
    rintro v2_5 w ⟨rfl, hB⟩
    replace hm := hm.below' hB; clear hB
    refine tAn rfl (tP rfl (fun w => yN rfl) (tP rfl (fun w => yM rfl) (gsn 70 rfl (fun h2_5 => ?_) fun h2_5 => ?_)))
    ·
     exact tP rfl (fun w => yF fo_61_3 rfl) (tO (tY rfl (yL hm 0 isAgg3 rfl) (tAn rfl (tP rfl (fun w => yB rfl) (tP rfl (fun w => yKt rfl) (tP rfl (fun w => yKf rfl) (tE (gz hm [1, 2, 3, 4, 0] rfl))))))))
    exact tPo rfl rfl (tO (tEo rfl rfl (tAn rfl (tPo rfl rfl (tP rfl (fun w => yKf rfl) (tP rfl (fun w => yKf rfl) (tE (gz hm [1, 2, 3, 4, 0] rfl))))))))
   repeat clear hm
   intro s1_1 w hm
   refine gs 75 rfl (fun h1_8 => ?_) fun h1_8 => ?_
   ·
    exact gct rfl (gS (gR (gA rfl (gE (gRt (gLr ho0_1 hq0_2 (gr1 results92 rfl ⟨rfl, hm.below⟩)))))))
   refine gcf rfl (gSk (gS (gS (gJ hm (fun s1_2 => [(2, (pV b0_1)), (3, (pV b0_2)), (5, (pV b0_4)), (6, (pV b0_5)), (7, (nV i1_1)), (8, (pV b1_2)), (39, (sV b1_1 o1_1 x0_1.blocks.length c0_2)), (40, (nV ((x0_1.blocks.length : Int)))), (41, (nV i1_1)), (85, (.bool (s1_2)))]) (fun s1_2 => [blk b0_1 [(sV b0_3 o0_1 u.codes.length c0_1)] 28, blk b0_2 [(nV k_)] 3, blk b0_4 [(nV x0_1.params), (nV x0_1.regs), (sV b1_1 o1_1 x0_1.blocks.length c0_2)] 45, blk b0_5 [(.func (.func 153) #[] #[(pV b0_4)])] 111, blk b1_2 [v1_4, v1_5, (nV x1_1.jump), (nV x1_1.on), v1_6] 61]) (fun s1_2 => ?_) ?_))))
   ·
    refine gR (gF fo_61_4 rfl (gL hm 4 isAgg47 rfl (gY (yU rfl) (gC hm rfl call111 (slices_ContainsFunc_S_int_int_ok _ x1_1.next_ v1_6 (hm.now h1_7) (fun y0 => impl_codeOk_2 y0 x0_1) (.func (.func 155) #[] #[(pV b0_4)]) (fun w y0 r hB hq => ⟨155, [(pV b0_4)], rfl, call155, impl_codeOk_2_ok w y0 x0_1 (sV b1_1 o1_1 x0_1.blocks.length c0_2) (rep_later (hm.now h0_2) hB) b0_4 (hm.blk_later 2 rfl hB) r hq⟩)) fun r2_6 hx2_6 w hm => gM rfl (gs 80 rfl (fun h2_6 => ?_) fun h2_6 => ?_)))))
    ·
     exact gO rfl (gO rfl (gO rfl (gO rfl (gKt rfl (gE (gz hm [0, 1, 2, 3, 4] rfl))))))
    exact gF fo_61_1 rfl (gL hm 4 isAgg59 rfl (gY (yU rfl) (gC hm rfl call156 (slices_ContainsFunc_S_impl_Ins_impl_Ins_ok _ x1_1.ins v1_5 (hm.now h1_6) (fun y0 => impl_codeOk_3 y0 u k_) (.func (.func 157) #[] #[(pV b0_1), (pV b0_2)]) (fun w y0 z0_0 z0_1 r hB hq => ⟨157, [(pV b0_1), (pV b0_2)], rfl, call157, impl_codeOk_3_ok w y0 z0_0 z0_1 u (sV b0_3 o0_1 u.codes.length c0_1) (rep_later (hm.now h1) hB) b0_1 (hm.blk_later 0 rfl hB) k_ b0_2 (hm.blk_later 1 rfl hB) r hq⟩)) fun r2_7 hx2_7 w hm => gKf rfl (gE (gz hm [0, 1, 2, 3, 4] rfl)))))
   repeat clear hm
   intro s1_2 w hm
   refine gs 85 rfl (fun h1_9 => ?_) fun h1_9 => ?_
   ·
    exact gct rfl (gS (gR (gA rfl (gE (gRt (gLr ho0_1 hq0_2 (gr1 results92 rfl ⟨rfl, hm.below⟩)))))))
   refine gcf rfl (gSk (gS (gR (gY (yn (hm.blk_at 2 rfl) isAgg45 sizeOf45 rfl) (gM rfl (gCg rfl call65 (impl_PredsOf_ok _ x0_1 (sV b1_1 o1_1 x0_1.blocks.length c0_2) (hm.now h0_2) i1_1) ?_))))))
   rintro r1_4 hx1_6 v1_7 w ⟨_, rfl, hB⟩
   replace hm := hm.give hB; clear hB
   obtain ⟨p1_2, c1_3, rfl, hl1_2⟩ := ro_slice (hm.ow_rep 0 rfl)
   refine gY (yV st_47 rfl) (gA rfl (gE (gS (gR (gF fo_61_0 rfl (gL hm 5 isAgg58 rfl ?_))))))
   obtain ⟨p1_3, c1_4, rfl, hl1_3⟩ := ro_slice h1_5
   refine gY (yV st_58 rfl) (gM rfl (gE (gBk (gNf hm (fun i2_1 xs2_1 => [(2, (pV b0_1)), (3, (pV b0_2)), (5, (pV b0_4)), (6, (pV b0_5)), (7, (nV i1_1)), (9, (nV ((r1_4.length : Int)))), (39, (sV b1_1 o1_1 x0_1.blocks.length c0_2)), (40, (nV ((x0_1.blocks.length : Int)))), (41, (nV i1_1)), (91, (.slice p1_3 x1_1.phis.length c1_4)), (92, (nV ((x1_1.phis.length : Int)))), (93, (nV i2_1))]) (fun i2_1 xs2_1 => [blk b0_1 [(sV b0_3 o0_1 u.codes.length c0_1)] 28, blk b0_2 [(nV k_)] 3, blk b0_4 [(nV x0_1.params), (nV x0_1.regs), (sV b1_1 o1_1 x0_1.blocks.length c0_2)] 45, blk b0_5 [(.func (.func 153) #[] #[(pV b0_4)])] 111]) [1, 2, 3, 4] rfl ?_ ?_))))
   ·
    repeat clear hm
    intro r1_5 hq1_3 i2_1 xs2_1 w hm hi1_1 hi1_2 q1_1 ho1_5
    refine gS (gR (gB rfl (gE (gS (go _ 94 rfl (decide_eq_true (by omega)) (gct rfl (gSk (gS (gBk (gS (gR (gg fun x2_1 h2_7 hx2_9 => ?_))))))))))))
    obtain ⟨b2_1, o2_1, c2_2, he⟩ := idx_form' h1_5 hx2_9
    simp only [Value.slice.injEq, Option.some.injEq] at he; obtain ⟨rfl, _, rfl⟩ := he
    obtain ⟨v2_8, hc2_1, h2_8⟩ := rk_Phi_ h1_5 hx2_9
    refine gI st_58 h2_7 (idx_lt hx2_9) rfl (gY (yn (hc2_1.mono hm.lez) isAgg86 sizeOf86 rfl) (gAl hm zeroValue86 rfl fun b2_2 w hm => gSN hm 0 sizeOf86 (one_cons rfl (one_cons (rep_one h2_8) one_nil)) rfl fun w hm => gE (gS (gJ hm (fun s2_1 => [(2, (pV b0_1)), (3, (pV b0_2)), (5, (pV b0_4)), (6, (pV b0_5)), (7, (nV i1_1)), (9, (nV ((r1_4.length : Int)))), (39, (sV b1_1 o1_1 x0_1.blocks.length c0_2)), (40, (nV ((x0_1.blocks.length : Int)))), (41, (nV i1_1)), (91, (sV b2_1 o2_1 x1_1.phis.length c1_4)), (92, (nV ((x1_1.phis.length : Int)))), (93, (nV i2_1)), (118, (.bool (s2_1)))]) (fun s2_1 => [blk b0_1 [(sV b0_3 o0_1 u.codes.length c0_1)] 28, blk b0_2 [(nV k_)] 3, blk b0_4 [(nV x0_1.params), (nV x0_1.regs), (sV b1_1 o1_1 x0_1.blocks.length c0_2)] 45, blk b0_5 [(.func (.func 153) #[] #[(pV b0_4)])] 111]) (fun s2_1 => ?_) ?_))))
    ·
     refine gR (gM rfl (gB rfl (gM rfl (gsd 99 rfl (fun h3_1 => ?_) fun h3_1 => ?_))))
     ·
      exact gO rfl (gO rfl (gO rfl (gO rfl (gO rfl (gKt rfl (gM rfl (gO rfl (gO rfl (gO rfl (gO rfl (gO rfl (gKt rfl (gM rfl (gO rfl (gO rfl (gO rfl (gO rfl (gKt rfl (gE (gz hm [1, 2, 3, 4] rfl))))))))))))))))))))
     refine gL hm 4 isAgg111 rfl (gF fo_86_0 rfl (gL hm 0 isAgg3 rfl (gb fun r3_1 hx3_1 => gf rfl (fun a hf => e_callv hf rfl rfl rfl ⟨153, [(pV b0_4)], rfl, call153, impl_codeOk_1_ok _ x2_1.to x0_1 (sV b1_1 o1_1 x0_1.blocks.length c0_2) (rep_later (hm.now h0_2) (Below.refl _ _)) b0_4 (hm.blk_later 3 rfl (Below.refl _ _)) _ hx3_1⟩) ?_)))
     rintro v3_1 w ⟨rfl, hB⟩
     replace hm := hm.below' hB; clear hB
     refine gN rfl (gKf rfl (gM rfl (gsn 106 rfl (fun h3_2 => ?_) fun h3_2 => ?_)))
     ·
      exact gO rfl (gO rfl (gO rfl (gO rfl (gO rfl (gKt rfl (gM rfl (gO rfl (gO rfl (gO rfl (gO rfl (gKt rfl (gE (gz hm [1, 2, 3, 4] rfl)))))))))))))
     refine gF fo_86_1 rfl (gL hm 0 isAgg47 rfl ?_)
     obtain ⟨p3_1, c3_1, rfl, hl3_1⟩ := ro_slice h2_8
     refine gY (yV st_47 rfl) (gM rfl (gB rfl (gKf rfl (gM rfl (gsd 113 rfl (fun h3_3 => ?_) fun h3_3 => ?_)))))
     ·
      exact gO rfl (gO rfl (gO rfl (gO rfl (gKt rfl (gE (gz hm [1, 2, 3, 4] rfl))))))
     exact gF fo_86_1 rfl (gL hm 0 isAgg47 rfl (gY (yU rfl) (gC hm rfl call111 (slices_ContainsFunc_S_int_int_ok _ x2_1.args (.slice p3_1 x2_1.args.length c3_1) (hm.now h2_8) (fun y0 => impl_codeOk_4 y0 x0_1) (.func (.func 159) #[] #[(pV b0_5)]) (fun w y0 r hB hq => ⟨159, [(pV b0_5)], rfl, call159, impl_codeOk_4_ok w y0 x0_1 (sV b1_1 o1_1 x0_1.blocks.length c0_2) (rep_later (hm.now h0_2) hB) b0_4 (hm.blk_later 3 rfl hB) b0_5 (hm.blk_later 4 rfl hB) r hq⟩)) fun r3_2 hx3_2 w hm => gKf rfl (gE (gz hm [1, 2, 3, 4] rfl)))))
    repeat clear hm
    intro s2_1 w hm
    refine gs 118 rfl (fun h2_9 => ?_) fun h2_9 => ?_
    ·
     exact gct rfl (gS (gR (gA rfl (gE (gRt (gLr ho1_5 hq1_3 (gLr ho0_1 hq0_2 (gr1 results92 rfl ⟨rfl, hm.below⟩))))))))
    exact gcf rfl (gSk (gR (gP (by omega) (by omega) rfl (gM rfl (gE (gze hm [0, 1, 2, 3] rfl))))))
   repeat clear hm
   intro i1_2 xs1_2 w hm hi1_3 hi1_4
   exact gS (gR (gB rfl (gE (gS (go _ 94 rfl (decide_eq_false (by omega)) (gcf rfl (gXt (gHh (gR (gP (by omega) (by omega) rfl (gM rfl (gE (gze hm [0, 1, 2, 3] rfl)))))))))))))
  repeat clear hm
  intro i0_1 xs0_1 w hm hi0_3 hi0_4
  exact gS (gR (gB rfl (gE (gS (go _ 42 rfl (decide_eq_false (by omega)) (gcf rfl (gXt (gHh (gS (gR (gA rfl (gE (gRt (gr1 results92 rfl ⟨rfl, hm.below⟩))))))))))))))

theorem impl_codeCount_ok (w0 : World) (c_ : Code_) (v1 : Value) (h1 : GT.rep (hp w0) [v1] c_.blocks) :
    ConM Tryz.prog 73 [(.agg #[(nV c_.params), (nV c_.regs), v1])] w0 (impl_codeCount c_) fun r v w' => v = (nV r) ∧ Below w0.heap.size w0 w' := by
  unfold impl_codeCount
  refine gcon func73 rfl fun r => ?_
  have hm := Mem.start w0
  refine gS (gR (gBx hm rfl fun b0_1 w hm => gA rfl (gE (gS (gR (gA rfl (gE (gS (gS (gR (gF fo_45_2 rfl (gL hm 0 isAgg43 rfl ?_))))))))))))
  obtain ⟨p0_1, c0_1, rfl, hl0_1⟩ := ro_slice h1
  refine gY (yV st_43 rfl) (gM rfl (gE (gBk (gNf hm (fun i1_1 xs1_1 => [(3, (nV xs1_1)), (7, (.slice p0_1 c_.blocks.length c0_1)), (8, (nV ((c_.blocks.length : Int)))), (9, (nV i1_1))]) (fun i1_1 xs1_1 => []) [] rfl ?_ ?_))))
  ·
   repeat clear hm
   intro _ _ i1_1 xs1_1 w hm hi0_1 hi0_2 q0_1 _
   refine gS (gR (gB rfl (gE (gS (go _ 10 rfl (decide_eq_true (by omega)) (gct rfl (gSk (gS (gBk (gS (gR (gg fun x1_1 h1_1 hx1_2 => ?_))))))))))))
   obtain ⟨b1_1, o1_1, c1_1, he⟩ := idx_form' h1 hx1_2
   simp only [Value.slice.injEq, Option.some.injEq] at he; obtain ⟨rfl, _, rfl⟩ := he
   obtain ⟨v1_1, v1_2, v1_3, hc1_1, h1_2, h1_3, h1_4⟩ := rk_Block_ h1 hx1_2
   refine gI st_43 h1_1 (idx_lt hx1_2) rfl (gY (yn (hc1_1.mono hm.lez) isAgg61 sizeOf61 rfl) (gAl hm zeroValue61 rfl fun b1_2 w hm => gSN hm 0 sizeOf61 (one_cons (rep_one h1_2) (one_cons (rep_one h1_3) (one_cons rfl (one_cons rfl (one_cons (rep_one h1_4) one_nil))))) rfl fun w hm => gE (gR (gM rfl (gF fo_61_0 rfl (gL hm 0 isAgg58 rfl ?_))))))
   obtain ⟨p1_1, c1_2, rfl, hl1_1⟩ := ro_slice h1_2
   refine gY (yV st_58 rfl) (gF fo_61_1 rfl (gL hm 0 isAgg59 rfl ?_))
   obtain ⟨p1_2, c1_3, rfl, hl1_2⟩ := ro_slice h1_3
   exact gY (yV st_59 rfl) (gP (by omega) (by omega) rfl (gB rfl (gA rfl (gE (gR (gP (by omega) (by omega) rfl (gM rfl (gE (gze hm [] rfl)))))))))
  repeat clear hm
  intro i0_1 xs0_1 w hm hi0_3 hi0_4
  exact gS (gR (gB rfl (gE (gS (go _ 10 rfl (decide_eq_false (by omega)) (gcf rfl (gXt (gHh (gS (gR (gM rfl (gA rfl (gE (gRt (gr1 results73 rfl ⟨rfl, hm.below⟩)))))))))))))))

theorem impl_UnitValid_ok (w0 : World) (u : Unit_) (v1 : Value) (h1 : GT.rep (hp w0) [v1] u.codes) :
    ConM Tryz.prog 50 [(.agg #[v1])] w0 (impl_UnitValid u) fun r v w' => v = (.bool (r)) ∧ Below w0.heap.size w0 w' := by
  unfold impl_UnitValid
  refine gcon func50 rfl fun r => ?_
  have hm := Mem.start w0
  refine gS (gR (gBx hm rfl fun b0_1 w hm => gA rfl (gE (gS (gS (gR (gF fo_28_0 rfl (gL hm 0 isAgg26 rfl ?_))))))))
  obtain ⟨p0_1, c0_1, rfl, hl0_1⟩ := ro_slice h1
  refine gY (yV st_26 rfl) (gC hm rfl call91 (impl_within_ok _ (u.codes.length : Int) 1 4) fun r0_1 hx0_1 w hm => gN rfl (gE (gsn 10 rfl (fun h0_1 => ?_) fun h0_1 => ?_)))
  ·
   exact gct rfl (gS (gR (gA rfl (gE (gRt (gr1 results50 rfl ⟨rfl, hm.below⟩))))))
  refine gcf rfl (gSk (gS (gR (gA rfl (gE (gS (gS (gR (gF fo_28_0 rfl (gL hm 0 isAgg26 rfl (gY (yV st_26 rfl) (gM rfl (gE (gBk (gNf hm (fun i1_1 xs1_1 => [(1, (pV b0_1)), (3, (nV xs1_1)), (12, (.slice p0_1 u.codes.length c0_1)), (13, (nV ((u.codes.length : Int)))), (14, (nV i1_1))]) (fun i1_1 xs1_1 => [blk b0_1 [(.slice p0_1 u.codes.length c0_1)] 28]) [0] rfl ?_ ?_)))))))))))))))
  ·
   repeat clear hm
   intro r0_2 hq0_1 i1_1 xs1_1 w hm hi0_1 hi0_2 q0_1 ho0_2
   refine gS (gR (gB rfl (gE (gS (go _ 15 rfl (decide_eq_true (by omega)) (gct rfl (gSk (gS (gBk (gS (gR (gM rfl (gg fun x1_1 h1_1 hx1_2 => ?_)))))))))))))
   obtain ⟨b1_1, o1_1, c1_1, he⟩ := idx_form' h1 hx1_2
   simp only [Value.slice.injEq, Option.some.injEq] at he; obtain ⟨rfl, _, rfl⟩ := he
   obtain ⟨v1_1, hc1_1, h1_2⟩ := rk_Code_ h1 hx1_2
   refine gI st_26 h1_1 (idx_lt hx1_2) rfl (gY (yn (hc1_1.mono hm.lez) isAgg45 sizeOf45 rfl) (gAl hm zeroValue45 rfl fun b1_2 w hm => gA rfl (gSN hm 0 sizeOf45 (one_cons rfl (one_cons rfl (one_cons (rep_one h1_2) one_nil))) rfl fun w hm => gE (gS (gS (gR (gY (yn (hm.blk_at 1 rfl) isAgg28 sizeOf28 rfl) (gM rfl (gC hm rfl call92 (impl_codeOk_ok _ u (sV b1_1 o1_1 u.codes.length c0_1) (hm.now h1) i1_1) fun r1_1 hx1_3 w hm => gN rfl (gE (gsn 22 rfl (fun h1_3 => ?_) fun h1_3 => ?_)))))))))))
   ·
    exact gct rfl (gS (gR (gA rfl (gE (gRt (gLr ho0_2 hq0_1 (gr1 results50 rfl ⟨rfl, hm.below⟩)))))))
   exact gcf rfl (gSk (gR (gM rfl (gY (yn (hm.blk_at 0 rfl) isAgg45 sizeOf45 rfl) (gC hm rfl call73 (impl_codeCount_ok _ x1_1 v1_1 (hm.now h1_2)) fun r1_2 hx1_4 w hm => gB rfl (gA rfl (gE (gR (gP (by omega) (by omega) rfl (gM rfl (gE (gze hm [1] rfl))))))))))))
  repeat clear hm
  intro i0_1 xs0_1 w hm hi0_3 hi0_4
  exact gS (gR (gB rfl (gE (gS (go _ 15 rfl (decide_eq_false (by omega)) (gcf rfl (gXt (gHh (gS (gR (gM rfl (gB rfl (gA rfl (gE (gRt (gr1 results50 rfl ⟨rfl, hm.below⟩))))))))))))))))

theorem impl_mapped_impl_Code_impl_Code_ok (w0 : World) (list : List Code_) (v1 : Value) (h1 : GT.rep (hp w0) [v1] list) (f : Code_ → Option Code_) (fv1 : Value) (hfn1 : ∀ (w : World) (y0 : Code_) (z1 : Value) (_ : GT.rep (hp w) [z1] y0.blocks) (r : Code_), Below w0.heap.size w0 w → f y0 = some r → FnOk Tryz.prog fv1 [(.agg #[(nV y0.params), (nV y0.regs), z1])] w (fun v w' => ∃ (x1 : Value), v = (.agg #[(nV r.params), (nV r.regs), x1]) ∧ Mem w (hp w) w' [ow [x1] r.blocks])) :
    ConM Tryz.prog 51 [v1, fv1] w0 (impl_mapped_impl_Code_impl_Code list f) fun r v w' => ∃ (x1 : Value), v = x1 ∧ Mem w0 (hp w0) w' [ow [x1] r] := by
  unfold impl_mapped_impl_Code_impl_Code
  refine gcon func51 rfl fun r => ?_
  have hm := Mem.start w0
  refine gS (gR (gA rfl (gE (gS (gR (gA rfl (gE (gS (gS (gR (gM rfl ?_)))))))))))
  obtain ⟨p0_1, c0_1, rfl, hl0_1⟩ := ro_slice h1
  refine gY (yV st_26 rfl) (gM rfl (gE (gBk ?_)))
  replace hm := hm.nilow (α := Code_)
  refine gNg (fun i1_1 xs1_1 a w => ∃ (v1_1 : Value), St 22 [(1, fv1), (5, v1_1), (8, (.slice p0_1 list.length c0_1)), (9, (nV ((list.length : Int)))), (10, (nV i1_1))] w0 (hp w0) [ow [v1_1] xs1_1] a w) (fun a hf => ⟨(.slice none 0 0), hf.sb rfl, hm.pk [0] rfl rfl⟩) ?_ ?_
  ·
   repeat clear hm
   rintro _ _ i1_1 xs1_1 a w ⟨v1_1, hf, hm⟩ hi0_1 hi0_2 q0_1 _
   refine gv hf (gS (gR (gB rfl (gE (gS (go _ 11 rfl (decide_eq_true (by omega)) (gct rfl (gSk (gS (gBk (gS (gR (gg fun x1_1 h1_1 hx1_2 => ?_)))))))))))))
   obtain ⟨b1_1, o1_1, c1_1, he⟩ := idx_form' h1 hx1_2
   simp only [Value.slice.injEq, Option.some.injEq] at he; obtain ⟨rfl, _, rfl⟩ := he
   obtain ⟨v1_2, hc1_1, h1_2⟩ := rk_Code_ h1 hx1_2
   refine gI st_26 h1_1 (idx_lt hx1_2) rfl (gY (yn (hc1_1.mono hm.lez) isAgg45 sizeOf45 rfl) (gAl hm zeroValue45 rfl fun b1_2 w hm => gSN hm 0 sizeOf45 (one_cons rfl (one_cons rfl (one_cons (rep_one h1_2) one_nil))) rfl fun w hm => gE (gR (gM rfl (gM rfl (gY (yn (hm.blk_at 0 rfl) isAgg45 sizeOf45 rfl) (gb fun r1_1 hx1_3 => gf rfl (fun a hf => e_callv hf rfl rfl rfl (hfn1 _ x1_1 v1_2 (hm.now h1_2) _ hm.below hx1_3)) ?_)))))))
   rintro v1_3 w ⟨v1_4, rfl, hB⟩
   replace hm := hm.give hB; clear hB
   refine gf rfl (fun a hf => e_build (vs := #[(0, (.agg #[(nV r1_1.params), (nV r1_1.regs), v1_4]))]) (cs := [(nV r1_1.params), (nV r1_1.regs), v1_4]) et_26 hf hm rfl rfl (by kernel_rfl) rfl rfl) ?_
   rintro _ w ⟨b1_3, rfl, hm⟩
   replace hm := hm.els_nil (α := Code_)
   replace hm : Mem w0 (hp w0) _ [els [] ([] : List Code_), blk b1_3 [(nV r1_1.params), (nV r1_1.regs), v1_4] 45, ow [(nV r1_1.params), (nV r1_1.regs), v1_4] (r1_1 : Code_), blk b1_2 [(nV x1_1.params), (nV x1_1.regs), v1_2] 45, ow [v1_1] xs1_1] := mk_Code_ r1_1.params r1_1.regs hm 2 rfl
   replace hm := (hm.els_cons 0 2 (by decide) rfl rfl).pk (L' := [els [(nV r1_1.params), (nV r1_1.regs), v1_4] ([r1_1] : List Code_), blk b1_3 [(nV r1_1.params), (nV r1_1.regs), v1_4] 45, blk b1_2 [(nV x1_1.params), (nV x1_1.regs), v1_2] 45, ow [v1_1] xs1_1]) [0, 1, 3, 4] rfl rfl
   replace hm := (hm.lit_els 1 0 (by decide) rfl rfl rfl rfl).pk (L' := [ow [(sV b1_3 0 1 1)] ([r1_1] : List Code_), blk b1_2 [(nV x1_1.params), (nV x1_1.regs), v1_2] 45, ow [v1_1] xs1_1]) [1, 2, 3] rfl rfl
   refine gb fun ys1_1 hx1_4 => ?_
   obtain ⟨h1_3, h1_3e⟩ := appM_some.1 hx1_4
   replace hm := (hm.both 2 0 (by decide) rfl rfl).pk (L' := [blk b1_2 [(nV x1_1.params), (nV x1_1.regs), v1_2] 45, both (ow [v1_1] xs1_1) (ow [(sV b1_3 0 1 1)] ([r1_1] : List Code_))]) [1, 2] rfl rfl
   refine gf rfl (fun a hf => e_appendD (xs := xs1_1) (ys := ([r1_1] : List Code_)) 1 et_26 hf hm rfl rfl rfl rfl h1_3) ?_
   rintro v1_5 w hm
   rw [h1_3e] at hm
   exact gA rfl (gE (gR (gP (by omega) (by omega) rfl (gM rfl (gE (gZe fun a hf => ⟨v1_5, hf.sb rfl, hm.pk [1] rfl rfl⟩))))))
  repeat clear hm
  rintro i0_1 xs0_1 a w ⟨v0_1, hf, hm⟩ hi0_3 hi0_4
  exact gv hf (gS (gR (gB rfl (gE (gS (go _ 11 rfl (decide_eq_false (by omega)) (gcf rfl (gXt (gHh (gS (gR (gM rfl (gA rfl (gE (gRt (gr1 results51 rfl ⟨v0_1, rfl, hm.pk [0] rfl rfl⟩))))))))))))))))

theorem impl_perCode_ok (w0 : World) (u : Unit_) (v1 : Value) (h1 : GT.rep (hp w0) [v1] u.codes) (f : Code_ → Option Code_) (fv1 : Value) (hfn1 : ∀ (w : World) (y0 : Code_) (z1 : Value) (_ : GT.rep (hp w) [z1] y0.blocks) (r : Code_), Below w0.heap.size w0 w → f y0 = some r → FnOk Tryz.prog fv1 [(.agg #[(nV y0.params), (nV y0.regs), z1])] w (fun v w' => ∃ (x1 : Value), v = (.agg #[(nV r.params), (nV r.regs), x1]) ∧ Mem w (hp w) w' [ow [x1] r.blocks])) :
    ConM Tryz.prog 32 [(.agg #[v1]), fv1] w0 (impl_perCode u f) fun r v w' => ∃ (x1 : Value), v = (.tuple #[(.agg #[x1]), (.bool (r.2))]) ∧ Mem w0 (hp w0) w' [ow [x1] r.1.codes] := by
  unfold impl_perCode
  refine gcon func32 rfl fun r => ?_
  have hm := Mem.start w0
  refine gS (gR (gBx hm rfl fun b0_1 w hm => gAl hm zeroValue28 rfl fun b0_2 w hm => gA rfl (gE (gS (gS (gR (gY (yn (hm.blk_at 1 rfl) isAgg28 sizeOf28 rfl) (gC hm rfl call50 (impl_UnitValid_ok _ u v1 (hm.now h1)) fun r0_1 hx0_1 w hm => gN rfl (gE (gsn 8 rfl (fun h0_1 => ?_) fun h0_1 => ?_))))))))))
  ·
   refine gct rfl (gS (gR (gY (yG rfl (y_build (vs := []) (cs := #[(.slice none 0 0)]) rfl rfl (by kernel_rfl))) (gSN hm 0 sizeOf28 (one_cons rfl one_nil) rfl fun w hm => gA rfl (gE (gRt ?_))))))
   replace hm := hm.nilow (α := Code_)
   exact grct 1 results32 hm rfl isAgg28 sizeOf28 ⟨(.slice none 0 0), rfl, hm.pk [0] rfl rfl⟩
  refine gcf rfl (gSk (gS (gR (gF fo_28_0 rfl (gL hm 1 isAgg26 rfl (gM rfl (gCg rfl call51 (impl_mapped_impl_Code_impl_Code_ok _ u.codes v1 (hm.now h1) f fv1 (fun w y0 z0_0 z0_1 r hB hq => hfn1 w y0 z0_0 z0_1 r (hm.below.trans (hB.mono hm.below.size)) hq)) ?_)))))))
  rintro r0_2 hx0_2 v0_2 w ⟨_, rfl, hB⟩
  replace hm := hm.give hB; clear hB
  obtain ⟨p0_1, c0_1, rfl, hl0_1⟩ := ro_slice (hm.ow_rep 0 rfl)
  exact gY (yG rfl (y_build (vs := [(0, (.slice p0_1 r0_2.length c0_1))]) (cs := #[(.slice p0_1 r0_2.length c0_1)]) rfl rfl (by kernel_rfl))) (gSN hm 1 sizeOf28 (one_cons rfl one_nil) rfl fun w hm => gA rfl (gE (gRt (grct 1 results32 hm rfl isAgg28 sizeOf28 ⟨(.slice p0_1 r0_2.length c0_1), rfl, hm.pk [0] rfl rfl⟩))))

theorem impl_mapped_impl_Block_impl_Block_ok (w0 : World) (list : List Block_) (v1 : Value) (h1 : GT.rep (hp w0) [v1] list) (f : Block_ → Option Block_) (fv1 : Value) (hfn1 : ∀ (w : World) (y0 : Block_) (z1 : Value) (_ : GT.rep (hp w) [z1] y0.phis) (z2 : Value) (_ : GT.rep (hp w) [z2] y0.ins) (z3 : Value) (_ : GT.rep (hp w) [z3] y0.next_) (r : Block_), Below w0.heap.size w0 w → f y0 = some r → FnOk Tryz.prog fv1 [(.agg #[z1, z2, (nV y0.jump), (nV y0.on), z3])] w (fun v w' => ∃ (x1 : Value) (x2 : Value) (x3 : Value), v = (.agg #[x1, x2, (nV r.jump), (nV r.on), x3]) ∧ Mem w (hp w) w' [ow [x1] r.phis, ow [x2] r.ins, ow [x3] r.next_])) :
    ConM Tryz.prog 93 [v1, fv1] w0 (impl_mapped_impl_Block_impl_Block list f) fun r v w' => ∃ (x1 : Value), v = x1 ∧ Mem w0 (hp w0) w' [ow [x1] r] := by
  unfold impl_mapped_impl_Block_impl_Block
  refine gcon func93 rfl fun r => ?_
  have hm := Mem.start w0
  refine gS (gR (gA rfl (gE (gS (gR (gA rfl (gE (gS (gS (gR (gM rfl ?_)))))))))))
  obtain ⟨p0_1, c0_1, rfl, hl0_1⟩ := ro_slice h1
  refine gY (yV st_43 rfl) (gM rfl (gE (gBk ?_)))
  replace hm := hm.nilow (α := Block_)
  refine gNg (fun i1_1 xs1_1 a w => ∃ (v1_1 : Value), St 22 [(1, fv1), (5, v1_1), (8, (.slice p0_1 list.length c0_1)), (9, (nV ((list.length : Int)))), (10, (nV i1_1))] w0 (hp w0) [ow [v1_1] xs1_1] a w) (fun a hf => ⟨(.slice none 0 0), hf.sb rfl, hm.pk [0] rfl rfl⟩) ?_ ?_
  ·
   repeat clear hm
   rintro _ _ i1_1 xs1_1 a w ⟨v1_1, hf, hm⟩ hi0_1 hi0_2 q0_1 _
   refine gv hf (gS (gR (gB rfl (gE (gS (go _ 11 rfl (decide_eq_true (by omega)) (gct rfl (gSk (gS (gBk (gS (gR (gg fun x1_1 h1_1 hx1_2 => ?_)))))))))))))
   obtain ⟨b1_1, o1_1, c1_1, he⟩ := idx_form' h1 hx1_2
   simp only [Value.slice.injEq, Option.some.injEq] at he; obtain ⟨rfl, _, rfl⟩ := he
   obtain ⟨v1_2, v1_3, v1_4, hc1_1, h1_2, h1_3, h1_4⟩ := rk_Block_ h1 hx1_2
   refine gI st_43 h1_1 (idx_lt hx1_2) rfl (gY (yn (hc1_1.mono hm.lez) isAgg61 sizeOf61 rfl) (gAl hm zeroValue61 rfl fun b1_2 w hm => gSN hm 0 sizeOf61 (one_cons (rep_one h1_2) (one_cons (rep_one h1_3) (one_cons rfl (one_cons rfl (one_cons (rep_one h1_4) one_nil))))) rfl fun w hm => gE (gR (gM rfl (gM rfl (gY (yn (hm.blk_at 0 rfl) isAgg61 sizeOf61 rfl) (gb fun r1_1 hx1_3 => gf rfl (fun a hf => e_callv hf rfl rfl rfl (hfn1 _ x1_1 v1_2 (hm.now h1_2) v1_3 (hm.now h1_3) v1_4 (hm.now h1_4) _ hm.below hx1_3)) ?_)))))))
   rintro v1_5 w ⟨v1_6, v1_7, v1_8, rfl, hB⟩
   replace hm := hm.give hB; clear hB
   refine gf rfl (fun a hf => e_build (vs := #[(0, (.agg #[v1_6, v1_7, (nV r1_1.jump), (nV r1_1.on), v1_8]))]) (cs := [v1_6, v1_7, (nV r1_1.jump), (nV r1_1.on), v1_8]) et_43 hf hm rfl rfl (by kernel_rfl) rfl rfl) ?_
   rintro _ w ⟨b1_3, rfl, hm⟩
   replace hm := hm.els_nil (α := Block_)
   replace hm := (mk_Block_ r1_1.jump r1_1.on hm 2 3 4 rfl).pk (L' := [els [] ([] : List Block_), blk b1_3 [v1_6, v1_7, (nV r1_1.jump), (nV r1_1.on), v1_8] 61, ow [v1_6, v1_7, (nV r1_1.jump), (nV r1_1.on), v1_8] (r1_1 : Block_), blk b1_2 [v1_2, v1_3, (nV x1_1.jump), (nV x1_1.on), v1_4] 61, ow [v1_1] xs1_1]) [0, 1, 2, 5, 6] rfl rfl
   replace hm := (hm.els_cons 0 2 (by decide) rfl rfl).pk (L' := [els [v1_6, v1_7, (nV r1_1.jump), (nV r1_1.on), v1_8] ([r1_1] : List Block_), blk b1_3 [v1_6, v1_7, (nV r1_1.jump), (nV r1_1.on), v1_8] 61, blk b1_2 [v1_2, v1_3, (nV x1_1.jump), (nV x1_1.on), v1_4] 61, ow [v1_1] xs1_1]) [0, 1, 3, 4] rfl rfl
   replace hm := (hm.lit_els 1 0 (by decide) rfl rfl rfl rfl).pk (L' := [ow [(sV b1_3 0 1 1)] ([r1_1] : List Block_), blk b1_2 [v1_2, v1_3, (nV x1_1.jump), (nV x1_1.on), v1_4] 61, ow [v1_1] xs1_1]) [1, 2, 3] rfl rfl
   refine gb fun ys1_1 hx1_4 => ?_
   obtain ⟨h1_5, h1_5e⟩ := appM_some.1 hx1_4
   replace hm := (hm.both 2 0 (by decide) rfl rfl).pk (L' := [blk b1_2 [v1_2, v1_3, (nV x1_1.jump), (nV x1_1.on), v1_4] 61, both (ow [v1_1] xs1_1) (ow [(sV b1_3 0 1 1)] ([r1_1] : List Block_))]) [1, 2] rfl rfl
   refine gf rfl (fun a hf => e_appendD (xs := xs1_1) (ys := ([r1_1] : List Block_)) 1 et_43 hf hm rfl rfl rfl rfl h1_5) ?_
   rintro v1_9 w hm
   rw [h1_5e] at hm
   exact gA rfl (gE (gR (gP (by omega) (by omega) rfl (gM rfl (gE (gZe fun a hf => ⟨v1_9, hf.sb rfl, hm.pk [1] rfl rfl⟩))))))
  repeat clear hm
  rintro i0_1 xs0_1 a w ⟨v0_1, hf, hm⟩ hi0_3 hi0_4
  exact gv hf (gS (gR (gB rfl (gE (gS (go _ 11 rfl (decide_eq_false (by omega)) (gcf rfl (gXt (gHh (gS (gR (gM rfl (gA rfl (gE (gRt (gr1 results93 rfl ⟨v0_1, rfl, hm.pk [0] rfl rfl⟩))))))))))))))))

theorem impl_mapped_impl_Phi_impl_Phi_ok (w0 : World) (list : List Phi_) (v1 : Value) (h1 : GT.rep (hp w0) [v1] list) (f : Phi_ → Option Phi_) (fv1 : Value) (hfn1 : ∀ (w : World) (y0 : Phi_) (z1 : Value) (_ : GT.rep (hp w) [z1] y0.args) (r : Phi_), Below w0.heap.size w0 w → f y0 = some r → FnOk Tryz.prog fv1 [(.agg #[(nV y0.to), z1])] w (fun v w' => ∃ (x1 : Value), v = (.agg #[(nV r.to), x1]) ∧ Mem w (hp w) w' [ow [x1] r.args])) :
    ConM Tryz.prog 104 [v1, fv1] w0 (impl_mapped_impl_Phi_impl_Phi list f) fun r v w' => ∃ (x1 : Value), v = x1 ∧ Mem w0 (hp w0) w' [ow [x1] r] := by
  unfold impl_mapped_impl_Phi_impl_Phi
  refine gcon func104 rfl fun r => ?_
  have hm := Mem.start w0
  refine gS (gR (gA rfl (gE (gS (gR (gA rfl (gE (gS (gS (gR (gM rfl ?_)))))))))))
  obtain ⟨p0_1, c0_1, rfl, hl0_1⟩ := ro_slice h1
  refine gY (yV st_58 rfl) (gM rfl (gE (gBk ?_)))
  replace hm := hm.nilow (α := Phi_)
  refine gNg (fun i1_1 xs1_1 a w => ∃ (v1_1 : Value), St 22 [(1, fv1), (5, v1_1), (8, (.slice p0_1 list.length c0_1)), (9, (nV ((list.length : Int)))), (10, (nV i1_1))] w0 (hp w0) [ow [v1_1] xs1_1] a w) (fun a hf => ⟨(.slice none 0 0), hf.sb rfl, hm.pk [0] rfl rfl⟩) ?_ ?_
  ·
   repeat clear hm
   rintro _ _ i1_1 xs1_1 a w ⟨v1_1, hf, hm⟩ hi0_1 hi0_2 q0_1 _
   refine gv hf (gS (gR (gB rfl (gE (gS (go _ 11 rfl (decide_eq_true (by omega)) (gct rfl (gSk (gS (gBk (gS (gR (gg fun x1_1 h1_1 hx1_2 => ?_)))))))))))))
   obtain ⟨b1_1, o1_1, c1_1, he⟩ := idx_form' h1 hx1_2
   simp only [Value.slice.injEq, Option.some.injEq] at he; obtain ⟨rfl, _, rfl⟩ := he
   obtain ⟨v1_2, hc1_1, h1_2⟩ := rk_Phi_ h1 hx1_2
   refine gI st_58 h1_1 (idx_lt hx1_2) rfl (gY (yn (hc1_1.mono hm.lez) isAgg86 sizeOf86 rfl) (gAl hm zeroValue86 rfl fun b1_2 w hm => gSN hm 0 sizeOf86 (one_cons rfl (one_cons (rep_one h1_2) one_nil)) rfl fun w hm => gE (gR (gM rfl (gM rfl (gY (yn (hm.blk_at 0 rfl) isAgg86 sizeOf86 rfl) (gb fun r1_1 hx1_3 => gf rfl (fun a hf => e_callv hf rfl rfl rfl (hfn1 _ x1_1 v1_2 (hm.now h1_2) _ hm.below hx1_3)) ?_)))))))
   rintro v1_3 w ⟨v1_4, rfl, hB⟩
   replace hm := hm.give hB; clear hB
   refine gf rfl (fun a hf => e_build (vs := #[(0, (.agg #[(nV r1_1.to), v1_4]))]) (cs := [(nV r1_1.to), v1_4]) et_58 hf hm rfl rfl (by kernel_rfl) rfl rfl) ?_
   rintro _ w ⟨b1_3, rfl, hm⟩
   replace hm := hm.els_nil (α := Phi_)
   replace hm : Mem w0 (hp w0) _ [els [] ([] : List Phi_), blk b1_3 [(nV r1_1.to), v1_4] 86, ow [(nV r1_1.to), v1_4] (r1_1 : Phi_), blk b1_2 [(nV x1_1.to), v1_2] 86, ow [v1_1] xs1_1] := mk_Phi_ r1_1.to hm 2 rfl
   replace hm := (hm.els_cons 0 2 (by decide) rfl rfl).pk (L' := [els [(nV r1_1.to), v1_4] ([r1_1] : List Phi_), blk b1_3 [(nV r1_1.to), v1_4] 86, blk b1_2 [(nV x1_1.to), v1_2] 86, ow [v1_1] xs1_1]) [0, 1, 3, 4] rfl rfl
   replace hm := (hm.lit_els 1 0 (by decide) rfl rfl rfl rfl).pk (L' := [ow [(sV b1_3 0 1 1)] ([r1_1] : List Phi_), blk b1_2 [(nV x1_1.to), v1_2] 86, ow [v1_1] xs1_1]) [1, 2, 3] rfl rfl
   refine gb fun ys1_1 hx1_4 => ?_
   obtain ⟨h1_3, h1_3e⟩ := appM_some.1 hx1_4
   replace hm := (hm.both 2 0 (by decide) rfl rfl).pk (L' := [blk b1_2 [(nV x1_1.to), v1_2] 86, both (ow [v1_1] xs1_1) (ow [(sV b1_3 0 1 1)] ([r1_1] : List Phi_))]) [1, 2] rfl rfl
   refine gf rfl (fun a hf => e_appendD (xs := xs1_1) (ys := ([r1_1] : List Phi_)) 1 et_58 hf hm rfl rfl rfl rfl h1_3) ?_
   rintro v1_5 w hm
   rw [h1_3e] at hm
   exact gA rfl (gE (gR (gP (by omega) (by omega) rfl (gM rfl (gE (gZe fun a hf => ⟨v1_5, hf.sb rfl, hm.pk [1] rfl rfl⟩))))))
  repeat clear hm
  rintro i0_1 xs0_1 a w ⟨v0_1, hf, hm⟩ hi0_3 hi0_4
  exact gv hf (gS (gR (gB rfl (gE (gS (go _ 11 rfl (decide_eq_false (by omega)) (gcf rfl (gXt (gHh (gS (gR (gM rfl (gA rfl (gE (gRt (gr1 results104 rfl ⟨v0_1, rfl, hm.pk [0] rfl rfl⟩))))))))))))))))

theorem slices_Clone_S_int_int_ok (w0 : World) (s_ : List Int) (v1 : Value) (h1 : GT.rep (hp w0) [v1] s_) :
    ConM Tryz.prog 108 [v1] w0 (slices_Clone_S_int_int s_) fun r v w' => ∃ (x1 : Value), v = x1 ∧ Mem w0 (hp w0) w' [ow [x1] r] := by
  unfold slices_Clone_S_int_int
  refine gcon func108 rfl fun r => ?_
  have hm := Mem.start w0
  refine gS (gR (gA rfl (gE (gS (gS (gR (gM rfl ?_)))))))
  rcases nil_or h1 with ⟨he, h0_1⟩ | ⟨p0_1, c0_1, he⟩
  ·
   subst he; subst h0_1
   refine gcg (m' := some ([] : List Int)) (by simp [appM]) (gY (yG rfl (y_eqnil_t st_47.und rfl rfl rfl)) (gE (gct rfl (gS (gR (gA rfl (gE (gRt ?_))))))))
   replace hm := hm.nilow (α := Int)
   exact gr1 results108 rfl ⟨(.slice none 0 0), rfl, hm.pk [0] rfl rfl⟩
  subst he
  refine gY (yG rfl (y_eqnil_f st_47.und rfl rfl rfl)) (gE (gcf rfl (gSk (gS (gR (gf rfl (fun a hf => e_build0 (α := Int) et_47 hm rfl) ?_))))))
  rintro v0_1 w hm
  refine gM rfl (gb fun ys0_1 hx0_1 => ?_)
  obtain ⟨h0_2, h0_2e⟩ := appM_some.1 hx0_1
  refine gf rfl (fun a hf => e_append 0 et_47 hf hm rfl (hm.now h1) rfl rfl rfl h0_2) ?_
  rintro v0_2 w hm
  rw [h0_2e] at hm
  exact gA rfl (gE (gRt (gr1 results108 rfl ⟨v0_2, rfl, hm.pk [0] rfl rfl⟩)))

theorem impl_clonePhi_ok (w0 : World) (f : Phi_) (v1 : Value) (h1 : GT.rep (hp w0) [v1] f.args) :
    ConM Tryz.prog 105 [(.agg #[(nV f.to), v1])] w0 (impl_clonePhi f) fun r v w' => ∃ (x1 : Value), v = (.agg #[(nV r.to), x1]) ∧ Mem w0 (hp w0) w' [ow [x1] r.args] := by
  unfold impl_clonePhi
  refine gcon func105 rfl fun r => ?_
  have hm := Mem.start w0
  refine gS (gR (gBx hm rfl fun b0_1 w hm => gAl hm zeroValue86 rfl fun b0_2 w hm => gE (gS (gW (.p 0 (.p 2 (.q 1 (.e 3 (.e 4 (.p 5 (.e 6 .fin .nil)) .nil) .nil)))) [3, 4] [0, 2, 5] hm [0, 1] [blk b0_2 [(nV 0), (.slice none 0 0)] 86, blk b0_1 [(nV f.to), v1] 86] rfl mxo (by kernel_rfl) (fun _ _ _ h => h.2) fun w hm hS => tP rfl (fun w => yF fo_86_0 rfl) (tP rfl (fun w => yF fo_86_1 rfl) (tQ rfl hS (fun w hm => yL hm 1 isAgg3 rfl) (tO (tY rfl (yL hm 1 isAgg47 rfl) (tAs hS (tO (gb fun r0_1 hx0_1 => tf rfl rfl (fun a hf => e_call hf rfl call108 rfl (slices_Clone_S_int_int_ok _ f.args v1 (hm.now h1) _ hx0_1)) ?_)))))))))))
  rintro v0_1 w ⟨_, rfl, hB⟩
  replace hm := hm.give hB; clear hB
  refine tAk hm [1, 2] rfl fun hS => ?_
  obtain ⟨p0_1, c0_1, rfl, hl0_1⟩ := ro_slice (hm.ow_rep 0 rfl)
  refine tP rfl (fun w => yG rfl (y_build (vs := [(0, (nV f.to)), (1, (.slice p0_1 r0_1.length c0_1))]) (cs := #[(nV f.to), (.slice p0_1 r0_1.length c0_1)]) rfl rfl (by kernel_rfl))) (tO (tf0 rfl rfl (fun a hf => e_storeN 1 hf hm rfl sizeOf86 rfl rfl rfl (one_cons rfl (one_cons rfl one_nil)) rfl rfl) ?_))
  rintro _ w hm
  exact tAn rfl (tE (gRt (grc 1 results105 hm rfl isAgg86 sizeOf86 ⟨(.slice p0_1 r0_1.length c0_1), rfl, hm.pk [0] rfl rfl⟩)))

theorem impl_mapped_impl_Ins_impl_Ins_ok (w0 : World) (list : List Ins_) (v1 : Value) (h1 : GT.rep (hp w0) [v1] list) (f : Ins_ → Option Ins_) (fv1 : Value) (hfn1 : ∀ (w : World) (y0 : Ins_) (z1 : Value) (_ : GT.rep (hp w) [z1] y0.args) (r : Ins_), Below w0.heap.size w0 w → f y0 = some r → FnOk Tryz.prog fv1 [(.agg #[(nV y0.op), (nV y0.to), z1, (nV y0.n_)])] w (fun v w' => ∃ (x1 : Value), v = (.agg #[(nV r.op), (nV r.to), x1, (nV r.n_)]) ∧ Mem w (hp w) w' [ow [x1] r.args])) :
    ConM Tryz.prog 106 [v1, fv1] w0 (impl_mapped_impl_Ins_impl_Ins list f) fun r v w' => ∃ (x1 : Value), v = x1 ∧ Mem w0 (hp w0) w' [ow [x1] r] := by
  unfold impl_mapped_impl_Ins_impl_Ins
  refine gcon func106 rfl fun r => ?_
  have hm := Mem.start w0
  refine gS (gR (gA rfl (gE (gS (gR (gA rfl (gE (gS (gS (gR (gM rfl ?_)))))))))))
  obtain ⟨p0_1, c0_1, rfl, hl0_1⟩ := ro_slice h1
  refine gY (yV st_59 rfl) (gM rfl (gE (gBk ?_)))
  replace hm := hm.nilow (α := Ins_)
  refine gNg (fun i1_1 xs1_1 a w => ∃ (v1_1 : Value), St 22 [(1, fv1), (5, v1_1), (8, (.slice p0_1 list.length c0_1)), (9, (nV ((list.length : Int)))), (10, (nV i1_1))] w0 (hp w0) [ow [v1_1] xs1_1] a w) (fun a hf => ⟨(.slice none 0 0), hf.sb rfl, hm.pk [0] rfl rfl⟩) ?_ ?_
  ·
   repeat clear hm
   rintro _ _ i1_1 xs1_1 a w ⟨v1_1, hf, hm⟩ hi0_1 hi0_2 q0_1 _
   refine gv hf (gS (gR (gB rfl (gE (gS (go _ 11 rfl (decide_eq_true (by omega)) (gct rfl (gSk (gS (gBk (gS (gR (gg fun x1_1 h1_1 hx1_2 => ?_)))))))))))))
   obtain ⟨b1_1, o1_1, c1_1, he⟩ := idx_form' h1 hx1_2
   simp only [Value.slice.injEq, Option.some.injEq] at he; obtain ⟨rfl, _, rfl⟩ := he
   obtain ⟨v1_2, hc1_1, h1_2⟩ := rk_Ins_ h1 hx1_2
   refine gI st_59 h1_1 (idx_lt hx1_2) rfl (gY (yn (hc1_1.mono hm.lez) isAgg89 sizeOf89 rfl) (gAl hm zeroValue89 rfl fun b1_2 w hm => gSN hm 0 sizeOf89 (one_cons rfl (one_cons rfl (one_cons (rep_one h1_2) (one_cons rfl one_nil)))) rfl fun w hm => gE (gR (gM rfl (gM rfl (gY (yn (hm.blk_at 0 rfl) isAgg89 sizeOf89 rfl) (gb fun r1_1 hx1_3 => gf rfl (fun a hf => e_callv hf rfl rfl rfl (hfn1 _ x1_1 v1_2 (hm.now h1_2) _ hm.below hx1_3)) ?_)))))))
   rintro v1_3 w ⟨v1_4, rfl, hB⟩
   replace hm := hm.give hB; clear hB
   refine gf rfl (fun a hf => e_build (vs := #[(0, (.agg #[(nV r1_1.op), (nV r1_1.to), v1_4, (nV r1_1.n_)]))]) (cs := [(nV r1_1.op), (nV r1_1.to), v1_4, (nV r1_1.n_)]) et_59 hf hm rfl rfl (by kernel_rfl) rfl rfl) ?_
   rintro _ w ⟨b1_3, rfl, hm⟩
   replace hm := hm.els_nil (α := Ins_)
   replace hm : Mem w0 (hp w0) _ [els [] ([] : List Ins_), blk b1_3 [(nV r1_1.op), (nV r1_1.to), v1_4, (nV r1_1.n_)] 89, ow [(nV r1_1.op), (nV r1_1.to), v1_4, (nV r1_1.n_)] (r1_1 : Ins_), blk b1_2 [(nV x1_1.op), (nV x1_1.to), v1_2, (nV x1_1.n_)] 89, ow [v1_1] xs1_1] := mk_Ins_ r1_1.op r1_1.to r1_1.n_ hm 2 rfl
   replace hm := (hm.els_cons 0 2 (by decide) rfl rfl).pk (L' := [els [(nV r1_1.op), (nV r1_1.to), v1_4, (nV r1_1.n_)] ([r1_1] : List Ins_), blk b1_3 [(nV r1_1.op), (nV r1_1.to), v1_4, (nV r1_1.n_)] 89, blk b1_2 [(nV x1_1.op), (nV x1_1.to), v1_2, (nV x1_1.n_)] 89, ow [v1_1] xs1_1]) [0, 1, 3, 4] rfl rfl
   replace hm := (hm.lit_els 1 0 (by decide) rfl rfl rfl rfl).pk (L' := [ow [(sV b1_3 0 1 1)] ([r1_1] : List Ins_), blk b1_2 [(nV x1_1.op), (nV x1_1.to), v1_2, (nV x1_1.n_)] 89, ow [v1_1] xs1_1]) [1, 2, 3] rfl rfl
   refine gb fun ys1_1 hx1_4 => ?_
   obtain ⟨h1_3, h1_3e⟩ := appM_some.1 hx1_4
   replace hm := (hm.both 2 0 (by decide) rfl rfl).pk (L' := [blk b1_2 [(nV x1_1.op), (nV x1_1.to), v1_2, (nV x1_1.n_)] 89, both (ow [v1_1] xs1_1) (ow [(sV b1_3 0 1 1)] ([r1_1] : List Ins_))]) [1, 2] rfl rfl
   refine gf rfl (fun a hf => e_appendD (xs := xs1_1) (ys := ([r1_1] : List Ins_)) 1 et_59 hf hm rfl rfl rfl rfl h1_3) ?_
   rintro v1_5 w hm
   rw [h1_3e] at hm
   exact gA rfl (gE (gR (gP (by omega) (by omega) rfl (gM rfl (gE (gZe fun a hf => ⟨v1_5, hf.sb rfl, hm.pk [1] rfl rfl⟩))))))
  repeat clear hm
  rintro i0_1 xs0_1 a w ⟨v0_1, hf, hm⟩ hi0_3 hi0_4
  exact gv hf (gS (gR (gB rfl (gE (gS (go _ 11 rfl (decide_eq_false (by omega)) (gcf rfl (gXt (gHh (gS (gR (gM rfl (gA rfl (gE (gRt (gr1 results106 rfl ⟨v0_1, rfl, hm.pk [0] rfl rfl⟩))))))))))))))))

theorem impl_cloneIns_ok (w0 : World) (x_ : Ins_) (v1 : Value) (h1 : GT.rep (hp w0) [v1] x_.args) :
    ConM Tryz.prog 107 [(.agg #[(nV x_.op), (nV x_.to), v1, (nV x_.n_)])] w0 (impl_cloneIns x_) fun r v w' => ∃ (x1 : Value), v = (.agg #[(nV r.op), (nV r.to), x1, (nV r.n_)]) ∧ Mem w0 (hp w0) w' [ow [x1] r.args] := by
  unfold impl_cloneIns
  refine gcon func107 rfl fun r => ?_
  have hm := Mem.start w0
  refine gS (gR (gBx hm rfl fun b0_1 w hm => gAl hm zeroValue89 rfl fun b0_2 w hm => gE (gS (gR (gF fo_89_2 rfl (gL hm 1 isAgg47 rfl (gCg rfl call108 (slices_Clone_S_int_int_ok _ x_.args v1 (hm.now h1)) ?_)))))))
  rintro r0_1 hx0_1 v0_1 w ⟨_, rfl, hB⟩
  replace hm := hm.give hB; clear hB
  exact gF fo_89_2 rfl (gS1 hm 2 sizeOf47 (rep_one (hm.ow_rep 0 rfl)) rfl fun w hm => gE (gS (gR (gY (yn (hm.blk_at 2 rfl) isAgg89 sizeOf89 rfl) (gSN hm 1 sizeOf89 (one_cons rfl (one_cons rfl (one_cons (rep_one (hm.ow_rep 0 rfl)) (one_cons rfl one_nil)))) rfl fun w hm => gE (gRt (grc 1 results107 hm rfl isAgg89 sizeOf89 ⟨v0_1, rfl, hm.pk [0] rfl rfl⟩)))))))

theorem impl_cloneBlock_ok (w0 : World) (b_ : Block_) (v1 : Value) (h1 : GT.rep (hp w0) [v1] b_.phis) (v2 : Value) (h2 : GT.rep (hp w0) [v2] b_.ins) (v3 : Value) (h3 : GT.rep (hp w0) [v3] b_.next_) :
    ConM Tryz.prog 60 [(.agg #[v1, v2, (nV b_.jump), (nV b_.on), v3])] w0 (impl_cloneBlock b_) fun r v w' => ∃ (x1 : Value) (x2 : Value) (x3 : Value), v = (.agg #[x1, x2, (nV r.jump), (nV r.on), x3]) ∧ Mem w0 (hp w0) w' [ow [x1] r.phis, ow [x2] r.ins, ow [x3] r.next_] := by
  unfold impl_cloneBlock
  refine gcon func60 rfl fun r => ?_
  have hm := Mem.start w0
  refine gS (gR (gBx hm rfl fun b0_1 w hm => gAl hm zeroValue61 rfl fun b0_2 w hm => gE (gS (gR (gF fo_61_0 rfl (gL hm 1 isAgg58 rfl (gCg rfl call104 (impl_mapped_impl_Phi_impl_Phi_ok _ b_.phis v1 (hm.now h1) (fun y0 => impl_clonePhi y0) (.func (.func 105) #[] #[]) (fun w y0 z0_0 z0_1 r hB hq => ⟨105, [], rfl, call105, impl_clonePhi_ok w y0 z0_0 z0_1  r hq⟩)) ?_)))))))
  rintro r0_1 hx0_1 v0_1 w ⟨_, rfl, hB⟩
  replace hm := hm.give hB; clear hB
  refine gF fo_61_0 rfl (gS1 hm 2 sizeOf58 (rep_one (hm.ow_rep 0 rfl)) rfl fun w hm => gE (gS (gR (gF fo_61_1 rfl (gL hm 2 isAgg59 rfl (gCg rfl call106 (impl_mapped_impl_Ins_impl_Ins_ok _ b_.ins v2 (hm.now h2) (fun y0 => impl_cloneIns y0) (.func (.func 107) #[] #[]) (fun w y0 z0_0 z0_1 r hB hq => ⟨107, [], rfl, call107, impl_cloneIns_ok w y0 z0_0 z0_1  r hq⟩)) ?_))))))
  rintro r0_2 hx0_2 v0_3 w ⟨_, rfl, hB⟩
  replace hm := hm.give hB; clear hB
  refine gF fo_61_1 rfl (gS1 hm 3 sizeOf59 (rep_one (hm.ow_rep 0 rfl)) rfl fun w hm => gE (gS (gR (gF fo_61_4 rfl (gL hm 3 isAgg47 rfl (gCg rfl call108 (slices_Clone_S_int_int_ok _ b_.next_ v3 (hm.now h3)) ?_))))))
  rintro r0_3 hx0_3 v0_5 w ⟨_, rfl, hB⟩
  replace hm := hm.give hB; clear hB
  exact gF fo_61_4 rfl (gS1 hm 4 sizeOf47 (rep_one (hm.ow_rep 0 rfl)) rfl fun w hm => gE (gS (gR (gY (yn (hm.blk_at 4 rfl) isAgg61 sizeOf61 rfl) (gSN hm 3 sizeOf61 (one_cons (rep_one (hm.ow_rep 2 rfl)) (one_cons (rep_one (hm.ow_rep 1 rfl)) (one_cons rfl (one_cons rfl (one_cons (rep_one (hm.ow_rep 0 rfl)) one_nil))))) rfl fun w hm => gE (gRt (grc 3 results60 hm rfl isAgg61 sizeOf61 ⟨v0_1, v0_3, v0_5, rfl, hm.pk [2, 1, 0] rfl rfl⟩)))))))

theorem impl_cloneCode_ok (w0 : World) (c_ : Code_) (v1 : Value) (h1 : GT.rep (hp w0) [v1] c_.blocks) :
    ConM Tryz.prog 52 [(.agg #[(nV c_.params), (nV c_.regs), v1])] w0 (impl_cloneCode c_) fun r v w' => ∃ (x1 : Value), v = (.agg #[(nV r.params), (nV r.regs), x1]) ∧ Mem w0 (hp w0) w' [ow [x1] r.blocks] := by
  unfold impl_cloneCode
  refine gcon func52 rfl fun r => ?_
  have hm := Mem.start w0
  refine gS (gR (gBx hm rfl fun b0_1 w hm => gAl hm zeroValue45 rfl fun b0_2 w hm => gE (gS (gR (gF fo_45_2 rfl (gL hm 1 isAgg43 rfl (gCg rfl call93 (impl_mapped_impl_Block_impl_Block_ok _ c_.blocks v1 (hm.now h1) (fun y0 => impl_cloneBlock y0) (.func (.func 60) #[] #[]) (fun w y0 z0_0 z0_1 z0_2 z0_3 z0_4 z0_5 r hB hq => ⟨60, [], rfl, call60, impl_cloneBlock_ok w y0 z0_0 z0_1 z0_2 z0_3 z0_4 z0_5  r hq⟩)) ?_)))))))
  rintro r0_1 hx0_1 v0_1 w ⟨_, rfl, hB⟩
  replace hm := hm.give hB; clear hB
  exact gF fo_45_2 rfl (gS1 hm 2 sizeOf43 (rep_one (hm.ow_rep 0 rfl)) rfl fun w hm => gE (gS (gR (gY (yn (hm.blk_at 2 rfl) isAgg45 sizeOf45 rfl) (gSN hm 1 sizeOf45 (one_cons rfl (one_cons rfl (one_cons (rep_one (hm.ow_rep 0 rfl)) one_nil))) rfl fun w hm => gE (gRt (grc 1 results52 hm rfl isAgg45 sizeOf45 ⟨v0_1, rfl, hm.pk [0] rfl rfl⟩)))))))

theorem impl_isEmpty_ok (w0 : World) (c_ : Code_) (v1 : Value) (h1 : GT.rep (hp w0) [v1] c_.blocks) (b_ : Int) :
    ConM Tryz.prog 64 [(.agg #[(nV c_.params), (nV c_.regs), v1]), (nV b_)] w0 (impl_isEmpty c_ b_) fun r v w' => v = (.bool (r)) ∧ Below w0.heap.size w0 w' := by
  unfold impl_isEmpty
  refine gcon func64 rfl fun r => ?_
  have hm := Mem.start w0
  refine gS (gR (gBx hm rfl fun b0_1 w hm => gA rfl (gE (gS (gR (gF fo_45_2 rfl (gL hm 0 isAgg43 rfl (gM rfl (gg fun x0_1 h0_1 hx0_2 => ?_)))))))))
  obtain ⟨b0_2, o0_1, c0_1, he⟩ := idx_form' h1 hx0_2
  subst he
  obtain ⟨v0_1, v0_2, v0_3, hc0_1, h0_2, h0_3, h0_4⟩ := rk_Block_ h1 hx0_2
  refine gI st_43 h0_1 (idx_lt hx0_2) rfl (gY (yn (hc0_1.mono hm.lez) isAgg61 sizeOf61 rfl) (gAl hm zeroValue61 rfl fun b0_3 w hm => gSN hm 0 sizeOf61 (one_cons (rep_one h0_2) (one_cons (rep_one h0_3) (one_cons rfl (one_cons rfl (one_cons (rep_one h0_4) one_nil))))) rfl fun w hm => gE (gS (gJ hm (fun s0_1 => [(4, (.bool (s0_1)))]) (fun s0_1 => []) (fun s0_1 => ?_) ?_))))
  ·
   refine gR (gM rfl (gB rfl (gM rfl (gsd 13 rfl (fun h1_1 => ?_) fun h1_1 => ?_))))
   ·
    refine gF fo_61_0 rfl (gL hm 0 isAgg58 rfl ?_)
    obtain ⟨p1_1, c1_1, rfl, hl1_1⟩ := ro_slice h0_2
    refine gY (yV st_58 rfl) (gB rfl (gKt rfl (gM rfl (gsd 19 rfl (fun h1_2 => ?_) fun h1_2 => ?_))))
    ·
     refine gF fo_61_1 rfl (gL hm 0 isAgg59 rfl ?_)
     obtain ⟨p1_2, c1_2, rfl, hl1_2⟩ := ro_slice h0_3
     refine gY (yV st_59 rfl) (gB rfl (gKt rfl (gM rfl (gsd 25 rfl (fun h1_3 => ?_) fun h1_3 => ?_))))
     ·
      exact gF fo_61_2 rfl (gL hm 0 isAgg3 rfl (gB rfl (gKt rfl (gA rfl (gE (gz hm [] rfl))))))
     exact gO rfl (gO rfl (gO rfl (gKf rfl (gA rfl (gE (gz hm [] rfl))))))
    exact gO rfl (gO rfl (gO rfl (gO rfl (gKf rfl (gM rfl (gO rfl (gO rfl (gO rfl (gKf rfl (gA rfl (gE (gz hm [] rfl))))))))))))
   exact gO rfl (gO rfl (gO rfl (gO rfl (gKf rfl (gM rfl (gO rfl (gO rfl (gO rfl (gO rfl (gKf rfl (gM rfl (gO rfl (gO rfl (gO rfl (gKf rfl (gA rfl (gE (gz hm [] rfl))))))))))))))))))
  repeat clear hm
  intro s0_1 w hm
  exact gRt (gr1 results64 rfl ⟨rfl, hm.below⟩)

theorem impl_graphOk_1_1_ok (w0 : World) (n_ : Int) (c0_ : Code_) (v1 : Value) (h1 : GT.rep (hp w0) [v1] c0_.blocks) (bf0 : Nat) (hbf0 : w0.heap[bf0]? = some (.cells ([(nV c0_.params), (nV c0_.regs), v1] : List Value).toArray 45 (0, 0))) :
    ConM Tryz.prog 112 [(nV n_), (pV bf0)] w0 (impl_graphOk_1_1 n_ c0_) fun r v w' => v = (.bool (r)) ∧ Below w0.heap.size w0 w' := by
  unfold impl_graphOk_1_1
  refine gcon func112 rfl fun r => ?_
  have hm := Mem.start w0
  refine gS (gR (gA rfl (gE (gS (gR (gM rfl (gF fo_45_2 rfl (gY (yl isAgg43 (hm.old_cell hbf0 rfl) rfl) ?_))))))))
  obtain ⟨p0_1, c0_1, rfl, hl0_1⟩ := ro_slice h1
  exact gY (yV st_43 rfl) (gY (yS (by omega) (by omega) rfl) (gC hm rfl call91 (impl_within_ok _ n_ 0 (((c0_.blocks.length : Int)) - 1)) fun r0_1 hx0_1 w hm => gN rfl (gA rfl (gE (gRt (gr1 results112 rfl ⟨rfl, hm.below⟩))))))

theorem impl_graphOk_1_ok (w0 : World) (b_ : Block_) (v1 : Value) (h1 : GT.rep (hp w0) [v1] b_.phis) (v2 : Value) (h2 : GT.rep (hp w0) [v2] b_.ins) (v3 : Value) (h3 : GT.rep (hp w0) [v3] b_.next_) (c0_ : Code_) (v4 : Value) (h4 : GT.rep (hp w0) [v4] c0_.blocks) (bf0 : Nat) (hbf0 : w0.heap[bf0]? = some (.cells ([(nV c0_.params), (nV c0_.regs), v4] : List Value).toArray 45 (0, 0))) :
    ConM Tryz.prog 110 [(.agg #[v1, v2, (nV b_.jump), (nV b_.on), v3]), (pV bf0)] w0 (impl_graphOk_1 b_ c0_) fun r v w' => v = (.bool (r)) ∧ Below w0.heap.size w0 w' := by
  unfold impl_graphOk_1
  refine gcon func110 rfl fun r => ?_
  have hm := Mem.start w0
  exact gS (gR (gBx hm rfl fun b0_1 w hm => gA rfl (gE (gS (gR (gF fo_61_4 rfl (gL hm 0 isAgg47 rfl (gY (yU rfl) (gC hm rfl call111 (slices_ContainsFunc_S_int_int_ok _ b_.next_ v3 (hm.now h3) (fun y0 => impl_graphOk_1_1 y0 c0_) (.func (.func 112) #[] #[(pV bf0)]) (fun w y0 r hB hq => ⟨112, [(pV bf0)], rfl, call112, impl_graphOk_1_1_ok w y0 c0_ v4 (rep_later (hm.now h4) hB) bf0 (hm.old_later hbf0 hB) r hq⟩)) fun r0_1 hx0_1 w hm => gA rfl (gE (gRt (gr1 results110 rfl ⟨rfl, hm.below⟩))))))))))))

theorem slices_IndexFunc_S_impl_Block_impl_Block_ok (w0 : World) (s_ : List Block_) (v1 : Value) (h1 : GT.rep (hp w0) [v1] s_) (f : Block_ → Option Bool) (fv1 : Value) (hfn1 : ∀ (w : World) (y0 : Block_) (z1 : Value) (_ : GT.rep (hp w) [z1] y0.phis) (z2 : Value) (_ : GT.rep (hp w) [z2] y0.ins) (z3 : Value) (_ : GT.rep (hp w) [z3] y0.next_) (r : Bool), Below w0.heap.size w0 w → f y0 = some r → FnOk Tryz.prog fv1 [(.agg #[z1, z2, (nV y0.jump), (nV y0.on), z3])] w (fun v w' => v = (.bool (r)) ∧ Below w.heap.size w w')) :
    ConM Tryz.prog 162 [v1, fv1] w0 (slices_IndexFunc_S_impl_Block_impl_Block s_ f) fun r v w' => v = (nV r) ∧ Below w0.heap.size w0 w' := by
  unfold slices_IndexFunc_S_impl_Block_impl_Block
  refine gcon func162 rfl fun r => ?_
  have hm := Mem.start w0
  refine gS (gR (gA rfl (gE (gS (gS (gR (gM rfl ?_)))))))
  obtain ⟨p0_1, c0_1, rfl, hl0_1⟩ := ro_slice h1
  refine gY (yV st_43 rfl) (gM rfl (gE (gBk (gNf hm (fun i1_1 xs1_1 => [(0, (.slice p0_1 s_.length c0_1)), (1, fv1), (7, (nV ((s_.length : Int)))), (8, (nV i1_1))]) (fun i1_1 xs1_1 => []) [] rfl ?_ ?_))))
  ·
   repeat clear hm
   intro r0_1 hq0_1 i1_1 xs1_1 w hm hi0_1 hi0_2 q0_1 ho0_1
   refine gS (gR (gB rfl (gE (gS (go _ 9 rfl (decide_eq_true (by omega)) (gct rfl (gSk (gS (gBk (gS (gR (gM rfl (gA rfl (gE (gS (gR (gM rfl (gM rfl (gM rfl (gg fun x1_1 h1_1 hx1_2 => ?_))))))))))))))))))))
   obtain ⟨b1_1, o1_1, c1_1, he⟩ := idx_form' h1 hx1_2
   simp only [Value.slice.injEq, Option.some.injEq] at he; obtain ⟨rfl, _, rfl⟩ := he
   obtain ⟨v1_1, v1_2, v1_3, hc1_1, h1_2, h1_3, h1_4⟩ := rk_Block_ h1 hx1_2
   refine gI st_43 h1_1 (idx_lt hx1_2) rfl (gY (yn (hc1_1.mono hm.lez) isAgg61 sizeOf61 rfl) (gb fun r1_1 hx1_3 => gf rfl (fun a hf => e_callv hf rfl rfl rfl (hfn1 _ x1_1 v1_1 (hm.now h1_2) v1_2 (hm.now h1_3) v1_3 (hm.now h1_4) _ hm.below hx1_3)) ?_))
   rintro v1_4 w ⟨rfl, hB⟩
   replace hm := hm.below' hB; clear hB
   refine gE (gs 16 rfl (fun h1_5 => ?_) fun h1_5 => ?_)
   ·
    exact gct rfl (gS (gR (gM rfl (gA rfl (gE (gRt (gLr ho0_1 hq0_1 (gr1 results162 rfl ⟨rfl, hm.below⟩))))))))
   exact gcf rfl (gSk (gR (gP (by omega) (by omega) rfl (gM rfl (gE (gze hm [] rfl))))))
  repeat clear hm
  intro i0_1 xs0_1 w hm hi0_3 hi0_4
  exact gS (gR (gB rfl (gE (gS (go _ 9 rfl (decide_eq_false (by omega)) (gcf rfl (gXt (gHh (gS (gR (gA rfl (gE (gRt (gr1 results162 rfl ⟨rfl, hm.below⟩))))))))))))))

theorem slices_ContainsFunc_S_impl_Block_impl_Block_ok (w0 : World) (s_ : List Block_) (v1 : Value) (h1 : GT.rep (hp w0) [v1] s_) (f : Block_ → Option Bool) (fv1 : Value) (hfn1 : ∀ (w : World) (y0 : Block_) (z1 : Value) (_ : GT.rep (hp w) [z1] y0.phis) (z2 : Value) (_ : GT.rep (hp w) [z2] y0.ins) (z3 : Value) (_ : GT.rep (hp w) [z3] y0.next_) (r : Bool), Below w0.heap.size w0 w → f y0 = some r → FnOk Tryz.prog fv1 [(.agg #[z1, z2, (nV y0.jump), (nV y0.on), z3])] w (fun v w' => v = (.bool (r)) ∧ Below w.heap.size w w')) :
    ConM Tryz.prog 109 [v1, fv1] w0 (slices_ContainsFunc_S_impl_Block_impl_Block s_ f) fun r v w' => v = (.bool (r)) ∧ Below w0.heap.size w0 w' := by
  unfold slices_ContainsFunc_S_impl_Block_impl_Block
  refine gcon func109 rfl fun r => ?_
  have hm := Mem.start w0
  exact gS (gR (gA rfl (gE (gS (gR (gM rfl (gM rfl (gC hm rfl call162 (slices_IndexFunc_S_impl_Block_impl_Block_ok _ s_ v1 (hm.now h1) f fv1 (fun w y0 z0_0 z0_1 z0_2 z0_3 z0_4 z0_5 r hB hq => hfn1 w y0 z0_0 z0_1 z0_2 z0_3 z0_4 z0_5 r (hm.below.trans (hB.mono hm.below.size)) hq)) fun r0_1 hx0_1 w hm => gB rfl (gA rfl (gE (gRt (gr1 results109 rfl ⟨rfl, hm.below⟩))))))))))))

theorem impl_graphOk_ok (w0 : World) (c_ : Code_) (v1 : Value) (h1 : GT.rep (hp w0) [v1] c_.blocks) :
    ConM Tryz.prog 61 [(.agg #[(nV c_.params), (nV c_.regs), v1])] w0 (impl_graphOk c_) fun r v w' => v = (.bool (r)) ∧ Below w0.heap.size w0 w' := by
  unfold impl_graphOk
  refine gcon func61 rfl fun r => ?_
  have hm := Mem.start w0
  refine gS (gR (gBx hm rfl fun b0_1 w hm => gA rfl (gE (gS (gJ hm (fun s0_1 => [(2, (.bool (s0_1)))]) (fun s0_1 => []) (fun s0_1 => ?_) ?_)))))
  ·
   refine gR (gF fo_45_2 rfl (gL hm 0 isAgg43 rfl ?_))
   obtain ⟨p1_1, c1_1, rfl, hl1_1⟩ := ro_slice h1
   refine gY (yV st_43 rfl) (gB rfl (gM rfl (gsd 7 rfl (fun h1_1 => ?_) fun h1_1 => ?_)))
   ·
    exact gF fo_45_2 rfl (gL hm 0 isAgg43 rfl (gY (yU rfl) (gC hm rfl call109 (slices_ContainsFunc_S_impl_Block_impl_Block_ok _ c_.blocks (.slice p1_1 c_.blocks.length c1_1) (hm.now h1) (fun y0 => impl_graphOk_1 y0 c_) (.func (.func 110) #[] #[(pV b0_1)]) (fun w y0 z0_0 z0_1 z0_2 z0_3 z0_4 z0_5 r hB hq => ⟨110, [(pV b0_1)], rfl, call110, impl_graphOk_1_ok w y0 z0_0 z0_1 z0_2 z0_3 z0_4 z0_5 c_ (.slice p1_1 c_.blocks.length c1_1) (rep_later (hm.now h1) hB) b0_1 (hm.blk_later 0 rfl hB) r hq⟩)) fun r1_1 hx1_1 w hm => gN rfl (gKt rfl (gA rfl (gE (gz hm [] rfl)))))))
   exact gO rfl (gO rfl (gO rfl (gO rfl (gO rfl (gKf rfl (gA rfl (gE (gz hm [] rfl))))))))
  repeat clear hm
  intro s0_1 w hm
  exact gRt (gr1 results61 rfl ⟨rfl, hm.below⟩)

theorem impl_visits_1_all (c1_ : Code_) : ∀ (b_ : Int) (c0_ : List Bool) (c3_ : List Int) (r : (List Bool) × (List Int)), impl_visits_1 b_ c0_ c1_ c3_ = some r → ∀ (w0 : World) (hz : Heap) (bpc0 : Nat) (v1p : Value) (bpc1 : Nat) (v2p : Value) (h2p : GT.rep hz [v2p] c1_.blocks) (hbbpc1 : hz bpc1 = some (.cells ([(nV c1_.params), (nV c1_.regs), v2p] : List Value).toArray 45 (0, 0))) (bpc2 : Nat) (bpc3 : Nat) (v3p : Value) (hbbpc2 : hz bpc2 = some (.cells ([(.func (.func 113) #[] #[(pV bpc0), (pV bpc1), (pV bpc2), (pV bpc3)])] : List Value).toArray 114 (0, 0))) (hm0 : Mem w0 hz w0 [blk bpc0 [v1p] 113, ow [v1p] c0_, blk bpc3 [v3p] 47, ow [v3p] c3_]), Con Tryz.prog 113 [(nV b_), (pV bpc0), (pV bpc1), (pV bpc2), (pV bpc3)] w0 (fun v w' => ∃ (x1 : Value) (x2 : Value), v = (.tuple #[]) ∧ Mem w0 hz w' [blk bpc0 [x1] 113, blk bpc3 [x2] 47, ow [x1] r.1, ow [x2] r.2]) := by
  refine impl_visits_1.partial_correctness c1_ (motive := fun b_ c0_ c3_ r => ∀ (w0 : World) (hz : Heap) (bpc0 : Nat) (v1p : Value) (bpc1 : Nat) (v2p : Value) (h2p : GT.rep hz [v2p] c1_.blocks) (hbbpc1 : hz bpc1 = some (.cells ([(nV c1_.params), (nV c1_.regs), v2p] : List Value).toArray 45 (0, 0))) (bpc2 : Nat) (bpc3 : Nat) (v3p : Value) (hbbpc2 : hz bpc2 = some (.cells ([(.func (.func 113) #[] #[(pV bpc0), (pV bpc1), (pV bpc2), (pV bpc3)])] : List Value).toArray 114 (0, 0))) (hm0 : Mem w0 hz w0 [blk bpc0 [v1p] 113, ow [v1p] c0_, blk bpc3 [v3p] 47, ow [v3p] c3_]), Con Tryz.prog 113 [(nV b_), (pV bpc0), (pV bpc1), (pV bpc2), (pV bpc3)] w0 (fun v w' => ∃ (x1 : Value) (x2 : Value), v = (.tuple #[]) ∧ Mem w0 hz w' [blk bpc0 [x1] 113, blk bpc3 [x2] 47, ow [x1] r.1, ow [x2] r.2])) ?_
  intro rec_ ih_ b_ c0_ c3_ r hq w0 hz bpc0 v1p bpc1 v2p h2p hbbpc1 bpc2 bpc3 v3p hbbpc2 hm0
  have impl_visits_1_rec : ∀ (w0 : World) (hz : Heap) (b_ : Int) (c0_ : List Bool) (bpc0 : Nat) (v1p : Value) (_ : Code_) (bpc1 : Nat) (v2p : Value) (h2p : GT.rep hz [v2p] c1_.blocks) (hbbpc1 : hz bpc1 = some (.cells ([(nV c1_.params), (nV c1_.regs), v2p] : List Value).toArray 45 (0, 0))) (bpc2 : Nat) (c3_ : List Int) (bpc3 : Nat) (v3p : Value) (hbbpc2 : hz bpc2 = some (.cells ([(.func (.func 113) #[] #[(pV bpc0), (pV bpc1), (pV bpc2), (pV bpc3)])] : List Value).toArray 114 (0, 0))) (hm0 : Mem w0 hz w0 [blk bpc0 [v1p] 113, ow [v1p] c0_, blk bpc3 [v3p] 47, ow [v3p] c3_]) (r : (List Bool) × (List Int)) (hq : rec_ b_ c0_ c3_ = some r), Con Tryz.prog 113 [(nV b_), (pV bpc0), (pV bpc1), (pV bpc2), (pV bpc3)] w0 (fun v w' => ∃ (x1 : Value) (x2 : Value), v = (.tuple #[]) ∧ Mem w0 hz w' [blk bpc0 [x1] 113, blk bpc3 [x2] 47, ow [x1] r.1, ow [x2] r.2]) := fun w0 hz b_ c0_ bpc0 v1p _ bpc1 v2p h2p hbbpc1 bpc2 c3_ bpc3 v3p hbbpc2 hm0 r hq => ih_ b_ c0_ c3_ r hq w0 hz bpc0 v1p bpc1 v2p h2p hbbpc1 bpc2 bpc3 v3p hbbpc2 hm0
  refine gconr (ρ := (List Bool) × (List Int)) (R := fun r v w' => ∃ (x1 : Value) (x2 : Value), v = (.tuple #[]) ∧ Mem w0 hz w' [blk bpc0 [x1] 113, blk bpc3 [x2] 47, ow [x1] r.1, ow [x2] r.2]) func113 rfl hq ?_
  have hm := hm0
  refine gS (gR (gL hm 0 isAgg113 rfl (gM rfl (gg fun x0_1 h0_1 hx0_2 => ?_))))
  obtain ⟨b0_1, o0_1, c0_1, he⟩ := idx_form (hm.ow_rep 1 rfl) hx0_2
  subst he
  refine gI st_113 h0_1 (idx_lt hx0_2) rfl (gf0 rfl (fun a hf => e_setElem (x1 := true) (j := 0) (vs := [(.bool (true))]) 1 hf hm rfl hx0_2 rfl sizeOf4 rfl rfl rfl (one_cons rfl one_nil) rfl rfl) ?_)
  rintro _ w hm
  have hx0_3 := List.getElem?_set_self (a := true) (idx_lt hx0_2)
  refine gE (gS (gS (gR (gF fo_45_2 rfl (gY (yl isAgg43 (hm.hz_cell hbbpc1 rfl) rfl) (gM rfl (gg fun x0_2 h0_2 hx0_5 => ?_)))))))
  obtain ⟨b0_2, o0_2, c0_2, he⟩ := idx_form' h2p hx0_5
  subst he
  obtain ⟨v0_1, v0_2, v0_3, hc0_1, h0_3, h0_4, h0_5⟩ := rk_Block_ h2p hx0_5
  refine gI st_43 h0_2 (idx_lt hx0_5) rfl (gF fo_61_4 rfl (gY (yl isAgg47 ((hc0_1.mono hm.lez).cell (j := 4) rfl) rfl) ?_))
  obtain ⟨p0_1, c0_3, rfl, hl0_1⟩ := ro_slice h0_5
  refine gY (yV st_47 rfl) (gM rfl (gE ?_))
  obtain ⟨p0_2, c0_4, rfl, hl0_2⟩ := ro_slice (hm.ow_rep 3 rfl)
  refine gBk (gNg (fun i1_1 xs1_1 a w => ∃ (v1_1 : Value) (v1_2 : Value), St 35 [(0, (nV b_)), (1, (pV bpc0)), (3, (pV bpc2)), (4, (pV bpc3)), (16, (.slice p0_1 x0_2.next_.length c0_3)), (17, (nV ((x0_2.next_.length : Int)))), (18, (nV i1_1))] w0 hz [blk bpc0 [v1_1] 113, ow [v1_1] xs1_1.1, blk bpc3 [v1_2] 47, ow [v1_2] xs1_1.2] a w) (fun a hf => ⟨(sV b0_1 o0_1 c0_.length c0_1), (.slice p0_2 c3_.length c0_4), hf.sb rfl, hm.pk [0, 1, 2, 3] rfl rfl⟩) ?_ ?_)
  ·
   repeat clear hm
   rintro _ _ i1_1 xs1_1 a w ⟨v1_1, v1_2, hf, hm⟩ hi0_1 hi0_2 q0_1 _
   refine gv hf (gS (gR (gB rfl (gE (gS (go _ 19 rfl (decide_eq_true (by omega)) (gct rfl (gSk (gS (gJg (fun s1_1 a w => ∃ (v1_3 : Value) (v1_4 : Value), St 35 [(0, (nV b_)), (1, (pV bpc0)), (3, (pV bpc2)), (4, (pV bpc3)), (16, (.slice p0_1 x0_2.next_.length c0_3)), (17, (nV ((x0_2.next_.length : Int)))), (18, (nV i1_1))] w0 hz [blk bpc0 [v1_3] 113, ow [v1_3] s1_1.1, blk bpc3 [v1_4] 47, ow [v1_4] s1_1.2] a w) (fun s1_1 => ?_) ?_))))))))))
   ·
    refine gBk (gS (gR (gg fun x2_1 h2_1 hx2_2 => ?_)))
    obtain ⟨b2_1, o2_1, c2_1, he⟩ := idx_form h0_5 hx2_2
    simp only [Value.slice.injEq, Option.some.injEq] at he; obtain ⟨rfl, _, rfl⟩ := he
    refine gI st_47 h2_1 (idx_lt hx2_2) rfl (gY (yl isAgg3 ((flat_cells (cs := [(nV x2_1)]) (hm.now h0_5) hx2_2 rfl).cell (j := 0) rfl) rfl) (gA rfl (gE (gS (gR (gL hm 0 isAgg113 rfl (gM rfl (gg fun x2_2 h2_2 hx2_4 => ?_))))))))
    obtain ⟨b2_2, o2_2, c2_2, he⟩ := idx_form (hm.ow_rep 1 rfl) hx2_4
    subst he
    refine gI st_113 h2_2 (idx_lt hx2_4) rfl (gY (yl isAgg4 ((flat_cells (cs := [(.bool (x2_2))]) (hm.ow_rep 1 rfl) hx2_4 rfl).cell (j := 0) rfl) rfl) (gN rfl (gE (gJg (fun s2_1 a w => ∃ (v2_1 : Value) (v2_2 : Value), St 35 [(0, (nV b_)), (1, (pV bpc0)), (3, (pV bpc2)), (4, (pV bpc3)), (16, (sV b2_1 o2_1 x0_2.next_.length c0_3)), (17, (nV ((x0_2.next_.length : Int)))), (18, (nV i1_1))] w0 hz [blk bpc0 [v2_1] 113, ow [v2_1] s2_1.1, blk bpc3 [v2_2] 47, ow [v2_2] s2_1.2] a w) (fun s2_1 => ?_) ?_))))
    ·
     refine gsn 26 rfl (fun h3_1 => ?_) fun h3_1 => ?_
     ·
      refine gct rfl (gR (gY (yl isAgg114 (hm.hz_cell hbbpc2 rfl) rfl) (gM rfl ?_)))
      obtain ⟨hz3_1, hle, hm1, hsub, hk3_1⟩ := hm.take2 (L1 := [blk bpc0 [(sV b2_2 o2_2 xs1_1.1.length c2_2)] 113, ow [(sV b2_2 o2_2 xs1_1.1.length c2_2)] xs1_1.1, blk bpc3 [v1_2] 47, ow [v1_2] xs1_1.2]) (L2 := []) [0, 1, 2, 3] [] (by decide) rfl rfl
      refine gb fun r3_1 hx3_1 => gf rfl (fun a hf => e_callv hf rfl rfl rfl ⟨113, [(pV bpc0), (pV bpc1), (pV bpc2), (pV bpc3)], rfl, call113, impl_visits_1_rec _ hz3_1 x2_1 xs1_1.1 bpc0 (sV b2_2 o2_2 xs1_1.1.length c2_2) c1_ bpc1 (sV b0_2 o0_2 c1_.blocks.length c0_2) (GT.mono hle h2p) (hle _ _ ((Heap.le_refl _) _ _ hbbpc1)) bpc2 xs1_1.2 bpc3 v1_2 (hle _ _ ((Heap.le_refl _) _ _ hbbpc2)) hm1  _ hx3_1⟩) ?_
      rintro v3_1 w ⟨v3_2, v3_3, rfl, hB⟩
      replace hm := hk3_1 _ _ hB; clear hB
      exact gE (gZ fun a hf => ⟨v3_2, v3_3, hf.sb rfl, hm.pk [0, 2, 1, 3] rfl rfl⟩)
     exact gcf rfl (gSk (gZ fun a hf => ⟨(sV b2_2 o2_2 xs1_1.1.length c2_2), v1_2, hf.sb rfl, hm.pk [0, 1, 2, 3] rfl rfl⟩))
    repeat clear hm
    rintro s2_1 a w ⟨v2_1, v2_2, hf, hm⟩
    exact gv hf (gZ fun a hf => ⟨v2_1, v2_2, hf.sb rfl, hm.pk [0, 1, 2, 3] rfl rfl⟩)
   repeat clear hm
   rintro s1_1 a w ⟨v1_3, v1_4, hf, hm⟩
   exact gv hf (gR (gP (by omega) (by omega) rfl (gM rfl (gE (gZe fun a hf => ⟨v1_3, v1_4, hf.sb rfl, hm.pk [0, 1, 2, 3] rfl rfl⟩)))))
  repeat clear hm
  rintro i0_1 xs0_1 a w ⟨v0_4, v0_5, hf, hm⟩ hi0_3 hi0_4
  refine gv hf (gS (gR (gB rfl (gE (gS (go _ 19 rfl (decide_eq_false (by omega)) (gcf rfl (gXt (gHh (gR (gL hm 2 isAgg47 rfl (gM rfl (gf rfl (fun a hf => e_build (vs := #[(0, (nV b_))]) (cs := [(nV b_)]) et_47 hf hm rfl rfl (by kernel_rfl) rfl rfl) ?_)))))))))))))
  rintro _ w ⟨b0_3, rfl, hm⟩
  replace hm := hm.lit (xs := ([b_] : List Int)) 0 rfl rfl rfl rfl
  refine gb fun ys0_1 hx0_6 => ?_
  obtain ⟨h0_6, h0_6e⟩ := appM_some.1 hx0_6
  refine gf rfl (fun a hf => e_append 4 et_47 hf hm rfl (hm.ow_rep 0 rfl) rfl rfl rfl h0_6) ?_
  rintro v0_6 w hm
  rw [h0_6e] at hm
  exact gS1 hm 3 sizeOf47 (rep_one (hm.ow_rep 4 rfl)) rfl fun w hm => gE (gre results113 ⟨v0_4, v0_6, rfl, hm.pk [1, 3, 2, 4] rfl rfl⟩)

theorem impl_visits_1_ok (w0 : World) (hz : Heap) (b_ : Int) (c0_ : List Bool) (bpc0 : Nat) (v1p : Value) (c1_ : Code_) (bpc1 : Nat) (v2p : Value) (h2p : GT.rep hz [v2p] c1_.blocks) (hbbpc1 : hz bpc1 = some (.cells ([(nV c1_.params), (nV c1_.regs), v2p] : List Value).toArray 45 (0, 0))) (bpc2 : Nat) (c3_ : List Int) (bpc3 : Nat) (v3p : Value) (hbbpc2 : hz bpc2 = some (.cells ([(.func (.func 113) #[] #[(pV bpc0), (pV bpc1), (pV bpc2), (pV bpc3)])] : List Value).toArray 114 (0, 0))) (hm0 : Mem w0 hz w0 [blk bpc0 [v1p] 113, ow [v1p] c0_, blk bpc3 [v3p] 47, ow [v3p] c3_]) (r : (List Bool) × (List Int)) (hq : impl_visits_1 b_ c0_ c1_ c3_ = some r) : Con Tryz.prog 113 [(nV b_), (pV bpc0), (pV bpc1), (pV bpc2), (pV bpc3)] w0 (fun v w' => ∃ (x1 : Value) (x2 : Value), v = (.tuple #[]) ∧ Mem w0 hz w' [blk bpc0 [x1] 113, blk bpc3 [x2] 47, ow [x1] r.1, ow [x2] r.2]) := impl_visits_1_all c1_ b_ c0_ c3_ r hq w0 hz bpc0 v1p bpc1 v2p h2p hbbpc1 bpc2 bpc3 v3p hbbpc2 hm0

theorem impl_visits_ok (w0 : World) (c_ : Code_) (v1 : Value) (h1 : GT.rep (hp w0) [v1] c_.blocks) :
    ConM Tryz.prog 62 [(.agg #[(nV c_.params), (nV c_.regs), v1])] w0 (impl_visits c_) fun r v w' => ∃ (x1 : Value), v = x1 ∧ Mem w0 (hp w0) w' [ow [x1] r] := by
  unfold impl_visits
  refine gcon func62 rfl fun r => ?_
  have hm := Mem.start w0
  refine gS (gR (gBx hm rfl fun b0_1 w hm => gA rfl (gE (gS (gR (gAl hm zeroValue47 rfl fun b0_2 w hm => gE (gS (gR (gF fo_45_2 rfl (gL hm 1 isAgg43 rfl ?_))))))))))
  obtain ⟨p0_1, c0_1, rfl, hl0_1⟩ := ro_slice h1
  refine gY (yV st_43 rfl) (gb fun ys0_1 hx0_1 => ?_)
  obtain ⟨⟨h0_11, h0_12⟩, h0_1e⟩ := makeM_some.1 hx0_1
  refine gf rfl (fun a hf => e_make (x0 := (false : Bool)) et_113 (fun _ => (Flat.own_iff.2 rfl)) hf hm rfl rfl rfl h0_11 (Int.le_refl _) h0_12) ?_
  rintro v0_1 w hm
  rw [h0_1e] at hm
  have h0_1l : (ys0_1.length : Int) = (c_.blocks.length : Int) := by rw [← h0_1e]; simp only [List.length_replicate]; omega
  refine gAl hm zeroValue113 rfl fun b0_3 w hm => gS1 hm 0 sizeOf113 (rep_one (hm.ow_rep 1 rfl)) rfl fun w hm => gE (gS (gR (gAl hm zeroValue114 rfl fun b0_4 w hm => gE (gS (gR (gY (yU rfl) (gS1 hm 0 sizeOf114 rfl rfl fun w hm => gE (gS (gR (gL hm 0 isAgg114 rfl ?_))))))))))
  replace hm := hm.nilow (α := Int)
  obtain ⟨hz0_1, hle, hm1, hsub, hk0_1⟩ := hm.take2 (L1 := [blk b0_3 [v0_1] 113, ow [v0_1] ys0_1, blk b0_2 [(.slice none 0 0)] 47, ow [(.slice none 0 0)] ([] : List Int)]) (L2 := [blk b0_4 [(.func (.func 113) #[] #[(pV b0_3), (pV b0_1), (pV b0_4), (pV b0_2)])] 114, blk b0_1 [(nV c_.params), (nV c_.regs), (.slice p0_1 c_.blocks.length c0_1)] 45]) [2, 3, 4, 0] [1, 5] (by decide) rfl rfl
  refine gb fun r0_1 hx0_2 => gf rfl (fun a hf => e_callv hf rfl rfl rfl ⟨113, [(pV b0_3), (pV b0_1), (pV b0_4), (pV b0_2)], rfl, call113, impl_visits_1_ok _ hz0_1 0 ys0_1 b0_3 v0_1 c_ b0_1 (.slice p0_1 c_.blocks.length c0_1) (GT.mono hle h1) (fz_blk (hsub 1 _ rfl)) b0_4 ([] : List Int) b0_2 (.slice none 0 0) (fz_blk (hsub 0 _ rfl)) hm1  _ hx0_2⟩) ?_
  rintro v0_2 w ⟨v0_3, v0_4, rfl, hB⟩
  replace hm := hk0_1 _ _ hB; clear hB
  exact gE (gS (gR (gL hm 1 isAgg47 rfl (gA rfl (gE (gRt (gr1 results62 rfl ⟨v0_4, rfl, hm.pk [3] rfl rfl⟩)))))))

theorem impl_once_ok (w0 : World) (list : List Int) (v1 : Value) (h1 : GT.rep (hp w0) [v1] list) :
    ConM Tryz.prog 67 [v1] w0 (impl_once list) fun r v w' => ∃ (x1 : Value), v = x1 ∧ Mem w0 (hp w0) w' [ow [x1] r] := by
  unfold impl_once
  refine gcon func67 rfl fun r => ?_
  have hm := Mem.start w0
  refine gS (gR (gA rfl (gE (gS (gR (gM rfl (gCg rfl call108 (slices_Clone_S_int_int_ok _ list v1 (hm.now h1)) ?_)))))))
  rintro r0_1 hx0_1 v0_1 w ⟨_, rfl, hB⟩
  replace hm := hm.give hB; clear hB
  refine gA rfl (gE (gS (gR (gM rfl (gf rfl (fun a hf => e_call hf rfl call114 rfl (sort_con lays189 hm 0 rfl)) ?_)))))
  rintro _ w ⟨rfl, hm⟩
  refine gE (gS (gR (gM rfl (gf rfl (fun a hf => e_call hf rfl call115 rfl (compact_con lays2_20 hm 0 rfl)) ?_))))
  rintro v0_3 w hm
  exact gA rfl (gE (gRt (gr1 results67 rfl ⟨v0_3, rfl, hm.pk [0] rfl rfl⟩)))

theorem impl_ReachedIn_ok (w0 : World) (c_ : Code_) (v1 : Value) (h1 : GT.rep (hp w0) [v1] c_.blocks) :
    ConM Tryz.prog 59 [(.agg #[(nV c_.params), (nV c_.regs), v1])] w0 (impl_ReachedIn c_) fun r v w' => ∃ (x1 : Value), v = x1 ∧ Mem w0 (hp w0) w' [ow [x1] r] := by
  unfold impl_ReachedIn
  refine gcon func59 rfl fun r => ?_
  have hm := Mem.start w0
  refine gS (gR (gBx hm rfl fun b0_1 w hm => gA rfl (gE (gS (gS (gR (gY (yn (hm.blk_at 0 rfl) isAgg45 sizeOf45 rfl) (gC hm rfl call61 (impl_graphOk_ok _ c_ v1 (hm.now h1)) fun r0_1 hx0_1 w hm => gN rfl (gE (gsn 5 rfl (fun h0_1 => ?_) fun h0_1 => ?_))))))))))
  ·
   refine gct rfl (gS (gR (gA rfl (gE (gRt ?_)))))
   replace hm := hm.nilow (α := Int)
   exact gr1 results59 rfl ⟨(.slice none 0 0), rfl, hm.pk [0] rfl rfl⟩
  refine gcf rfl (gSk (gS (gR (gY (yn (hm.blk_at 0 rfl) isAgg45 sizeOf45 rfl) (gCg rfl call62 (impl_visits_ok _ c_ v1 (hm.now h1)) ?_)))))
  rintro r0_2 hx0_2 v0_2 w ⟨_, rfl, hB⟩
  replace hm := hm.give hB; clear hB
  refine gCg rfl call67 (impl_once_ok _ r0_2 v0_2 (hm.ow_rep 0 rfl)) ?_
  rintro r0_3 hx0_3 v0_4 w ⟨_, rfl, hB⟩
  replace hm := hm.give hB; clear hB
  exact gA rfl (gE (gRt (gr1 results59 rfl ⟨v0_4, rfl, hm.pk [0] rfl rfl⟩)))

theorem impl_phisOf_ok (w0 : World) (c_ : Code_) (v1 : Value) (h1 : GT.rep (hp w0) [v1] c_.blocks) :
    ConM Tryz.prog 56 [(.agg #[(nV c_.params), (nV c_.regs), v1])] w0 (impl_phisOf c_) fun r v w' => ∃ (x1 : Value), v = x1 ∧ Mem w0 (hp w0) w' [ow [x1] r] := by
  unfold impl_phisOf
  refine gcon func56 rfl fun r => ?_
  have hm := Mem.start w0
  refine gS (gR (gBx hm rfl fun b0_1 w hm => gA rfl (gE (gS (gR (gF fo_45_2 rfl (gL hm 0 isAgg43 rfl ?_)))))))
  obtain ⟨p0_1, c0_1, rfl, hl0_1⟩ := ro_slice h1
  refine gY (yV st_43 rfl) (gb fun ys0_1 hx0_1 => ?_)
  obtain ⟨⟨h0_11, h0_12⟩, h0_1e⟩ := makeM_some.1 hx0_1
  refine gf rfl (fun a hf => e_make (x0 := ([] : List (MapS Int))) et_64 (fun _ => (own_list.2 (.inl ⟨rfl, rfl⟩))) hf hm rfl rfl rfl h0_11 (Int.le_refl _) h0_12) ?_
  rintro v0_1 w hm
  rw [h0_1e] at hm
  have h0_1l : (ys0_1.length : Int) = (c_.blocks.length : Int) := by rw [← h0_1e]; simp only [List.length_replicate]; omega
  refine gA rfl (gE (gS (gS (gR (gF fo_45_2 rfl (gL hm 1 isAgg43 rfl (gY (yV st_43 rfl) (gM rfl (gE ?_)))))))))
  obtain ⟨p0_2, c0_2, rfl, hl0_2⟩ := ro_slice (hm.ow_rep 0 rfl)
  refine gBk (gNf hm (fun i1_1 xs1_1 => [(1, (pV b0_1)), (3, (.slice p0_2 ys0_1.length c0_2)), (17, (.slice p0_1 c_.blocks.length c0_1)), (18, (nV ((c_.blocks.length : Int)))), (19, (nV i1_1))]) (fun i1_1 xs1_1 => [blk b0_1 [(nV c_.params), (nV c_.regs), (.slice p0_1 c_.blocks.length c0_1)] 45, ow [(.slice p0_2 ys0_1.length c0_2)] xs1_1]) [1, 0] rfl ?_ ?_)
  ·
   repeat clear hm
   intro _ _ i1_1 xs1_1 w hm hi0_1 hi0_2 q0_1 _
   refine gS (gR (gB rfl (gE (gS (go _ 20 rfl (decide_eq_true (by omega)) (gct rfl (gSk (gS (gBk (gS (gR (gM rfl (gg fun x1_1 h1_1 hx1_2 => ?_)))))))))))))
   obtain ⟨b1_1, o1_1, c1_1, he⟩ := idx_form' h1 hx1_2
   simp only [Value.slice.injEq, Option.some.injEq] at he; obtain ⟨rfl, _, rfl⟩ := he
   obtain ⟨v1_1, v1_2, v1_3, hc1_1, h1_2, h1_3, h1_4⟩ := rk_Block_ h1 hx1_2
   refine gI st_43 h1_1 (idx_lt hx1_2) rfl (gY (yn (hc1_1.mono hm.lez) isAgg61 sizeOf61 rfl) (gAl hm zeroValue61 rfl fun b1_2 w hm => gA rfl (gSN hm 0 sizeOf61 (one_cons (rep_one h1_2) (one_cons (rep_one h1_3) (one_cons rfl (one_cons rfl (one_cons (rep_one h1_4) one_nil))))) rfl fun w hm => gE (gS (gR (gY (yn (hm.blk_at 1 rfl) isAgg45 sizeOf45 rfl) (gM rfl (gCg rfl call65 (impl_PredsOf_ok _ c_ (sV b1_1 o1_1 c_.blocks.length c0_1) (hm.now h1) i1_1) ?_))))))))
   rintro r1_1 hx1_3 v1_4 w ⟨_, rfl, hB⟩
   replace hm := hm.give hB; clear hB
   refine gA rfl (gE (gS (gR (gF fo_61_0 rfl (gL hm 1 isAgg58 rfl ?_)))))
   obtain ⟨p1_1, c1_2, rfl, hl1_1⟩ := ro_slice h1_2
   refine gY (yV st_58 rfl) (gM rfl (gE ?_))
   obtain ⟨p1_2, c1_3, rfl, hl1_2⟩ := ro_slice (hm.ow_rep 0 rfl)
   refine gBk (gNf hm (fun i2_1 xs2_1 => [(1, (pV b0_1)), (3, (.slice p0_2 ys0_1.length c0_2)), (4, (nV i1_1)), (6, (.slice p1_2 r1_1.length c1_3)), (17, (sV b1_1 o1_1 c_.blocks.length c0_1)), (18, (nV ((c_.blocks.length : Int)))), (19, (nV i1_1)), (28, (.slice p1_1 x1_1.phis.length c1_2)), (29, (nV ((x1_1.phis.length : Int)))), (30, (nV i2_1))]) (fun i2_1 xs2_1 => [blk b0_1 [(nV c_.params), (nV c_.regs), (sV b1_1 o1_1 c_.blocks.length c0_1)] 45, ow [(.slice p0_2 ys0_1.length c0_2)] xs2_1, ow [(.slice p1_2 r1_1.length c1_3)] r1_1]) [2, 3, 0] rfl ?_ ?_)
   ·
    repeat clear hm
    intro _ _ i2_1 xs2_1 w hm hi1_1 hi1_2 q1_1 _
    refine gS (gR (gB rfl (gE (gS (go _ 31 rfl (decide_eq_true (by omega)) (gct rfl (gSk (gS (gBk (gS (gR (gg fun x2_1 h2_1 hx2_2 => ?_))))))))))))
    obtain ⟨b2_1, o2_1, c2_1, he⟩ := idx_form' h1_2 hx2_2
    simp only [Value.slice.injEq, Option.some.injEq] at he; obtain ⟨rfl, _, rfl⟩ := he
    obtain ⟨v2_1, hc2_1, h2_2⟩ := rk_Phi_ h1_2 hx2_2
    refine gI st_58 h2_1 (idx_lt hx2_2) rfl (gY (yn (hc2_1.mono hm.lez) isAgg86 sizeOf86 rfl) (gAl hm zeroValue86 rfl fun b2_2 w hm => gSN hm 0 sizeOf86 (one_cons rfl (one_cons (rep_one h2_2) one_nil)) rfl fun w hm => gE (gS (gR (gf rfl (fun a hf => e_mkM (β := Int) hm rfl) ?_)))))
    rintro v2_2 w hm
    refine gA rfl (gE (gS (gS (gR (gM rfl (gY (yV st_47 rfl) (gM rfl (gE (gBk (gNf hm (fun i3_1 xs3_1 => [(1, (pV b0_1)), (3, (.slice p0_2 ys0_1.length c0_2)), (4, (nV i1_1)), (6, (.slice p1_2 r1_1.length c1_3)), (8, (pV b2_2)), (9, v2_2), (17, (sV b1_1 o1_1 c_.blocks.length c0_1)), (18, (nV ((c_.blocks.length : Int)))), (19, (nV i1_1)), (28, (sV b2_1 o2_1 x1_1.phis.length c1_2)), (29, (nV ((x1_1.phis.length : Int)))), (30, (nV i2_1)), (35, (.slice p1_2 r1_1.length c1_3)), (36, (nV ((r1_1.length : Int)))), (37, (nV i3_1))]) (fun i3_1 xs3_1 => [blk b0_1 [(nV c_.params), (nV c_.regs), (sV b1_1 o1_1 c_.blocks.length c0_1)] 45, ow [(.slice p0_2 ys0_1.length c0_2)] xs2_1, ow [(.slice p1_2 r1_1.length c1_3)] r1_1, blk b2_2 [(nV x2_1.to), v2_1] 86, owm v2_2 xs3_1]) [2, 3, 4, 1, 0] rfl ?_ ?_))))))))))
    ·
     repeat clear hm
     intro _ _ i3_1 xs3_1 w hm hi2_1 hi2_2 q2_1 _
     refine gS (gR (gB rfl (gE (gS (go _ 38 rfl (decide_eq_true (by omega)) (gct rfl (gSk (gS (gBk (gS (gR (gM rfl (gg fun x3_1 h3_1 hx3_2 => ?_)))))))))))))
     obtain ⟨b3_1, o3_1, c3_1, he⟩ := idx_form (hm.ow_rep 2 rfl) hx3_2
     simp only [Value.slice.injEq, Option.some.injEq] at he; obtain ⟨rfl, _, rfl⟩ := he
     refine gI st_47 h3_1 (idx_lt hx3_2) rfl (gY (yl isAgg3 ((flat_cells (cs := [(nV x3_1)]) (hm.ow_rep 2 rfl) hx3_2 rfl).cell (j := 0) rfl) rfl) (gA rfl (gA rfl (gE (gR (gM rfl (gM rfl (gF fo_86_1 rfl (gL hm 3 isAgg47 rfl (gM rfl (gg fun x3_2 h3_2 hx3_4 => ?_)))))))))))
     obtain ⟨b3_2, o3_2, c3_2, he⟩ := idx_form h2_2 hx3_4
     subst he
     refine gI st_47 h3_2 (idx_lt hx3_4) rfl (gY (yl isAgg3 ((flat_cells (cs := [(nV x3_2)]) (hm.now h2_2) hx3_4 rfl).cell (j := 0) rfl) rfl) (gf0 rfl (fun a hf => e_insM (β := Int) (key := x3_1) (u := x3_2) (b := false) 4 underlying3 underlying69 hf hm rfl rfl rfl rfl rfl) ?_))
     rintro _ w hm
     exact gE (gR (gP (by omega) (by omega) rfl (gM rfl (gE (gze hm [0, 1, 2, 3, 4] rfl)))))
    repeat clear hm
    intro i2_2 xs2_2 w hm hi2_3 hi2_4
    refine gS (gR (gB rfl (gE (gS (go _ 38 rfl (decide_eq_false (by omega)) (gcf rfl (gXt (gHh (gR (gM rfl (gM rfl (gM rfl (gM rfl (gg fun x2_2 h2_3 hx2_4 => ?_))))))))))))))
    obtain ⟨b2_3, o2_2, c2_2, he⟩ := idx_form' (hm.ow_rep 1 rfl) hx2_4
    simp only [Value.slice.injEq, Option.some.injEq] at he; obtain ⟨rfl, _, rfl⟩ := he
    obtain ⟨_, _, hc2_2, hr2_1⟩ := ro_get' (hm.ow_rep 1 rfl) hx2_4
    have h2_4 := hr2_1
    obtain ⟨v2_3, rfl, -⟩ := id h2_4
    replace h2_4 : GT.rep (hp _) [v2_3] x2_2 := h2_4
    replace hc2_2 : CellsAt (hp _) b2_3 (o2_2 + (i1_1).toNat * 1) [v2_3] := hc2_2
    have hL2_1 := rep_slice_len (hm.ow_rep 1 rfl)
    refine gI st_64 h2_3 (idx_lt2 hx2_4 hL2_1) rfl ?_
    obtain ⟨_, hc2_3, hm⟩ := hm.openE 1 rfl hx2_4
    have hr2_2 := hm.ow_rep 0 rfl
    have h2_5 := hr2_2
    obtain ⟨v2_4, rfl, -⟩ := id h2_5
    replace h2_5 : GT.rep (hp _) [v2_4] x2_2 := h2_5
    clear hc2_3 h2_5
    replace hm : Mem w0 (hp w0) _ [ow [v2_4] (x2_2 : List (MapS Int)), blk b0_1 [(nV c_.params), (nV c_.regs), (sV b1_1 o1_1 c_.blocks.length c0_1)] 45, holeE b2_3 o2_2 ys0_1.length c0_2 (xs2_1 : List (List (MapS Int))) (i1_1).toNat [v2_4], ow [(.slice p1_2 r1_1.length c1_3)] r1_1, blk b2_2 [(nV x2_1.to), v2_1] 86, owm v2_2 xs2_2] := hm
    replace hm := hm.pk (L' := [ow [v2_4] x2_2, blk b0_1 [(nV c_.params), (nV c_.regs), (sV b1_1 o1_1 c_.blocks.length c0_1)] 45, holeE b2_3 o2_2 ys0_1.length c0_2 (xs2_1 : List (List (MapS Int))) (i1_1).toNat [v2_4], ow [(.slice p1_2 r1_1.length c1_3)] r1_1, blk b2_2 [(nV x2_1.to), v2_1] 86, owm v2_2 xs2_2]) [0, 1, 2, 3, 4, 5] rfl rfl
    refine gY (yl isAgg68 ((hm.holeE_at 2 rfl).cell (j := 0) rfl) rfl) (gM rfl ?_)
    obtain ⟨m2_1, he⟩ := owm_form hm 5 rfl
    subst he
    refine gf rfl (fun a hf => e_build (vs := #[(0, (.map (some m2_1)))]) (cs := [(.map (some m2_1))]) et_68 hf hm rfl rfl (by kernel_rfl) rfl rfl) ?_
    rintro _ w ⟨b2_4, rfl, hm⟩
    replace hm := hm.els_nil (α := MapS Int)
    have hcl2_1 := owm_cells hm 7 rfl
    replace hm := hm.imp (c' := ow [(.map (some m2_1))] (xs2_2 : MapS Int)) 7 rfl (fun F h0 => own_owm h0)
    replace hm := hm.imp (c' := ow [(.map (some m2_1))] (xs2_2 : MapS Int)) 7 rfl (fun F h0 => h0)
    replace hm := (hm.els_cons 0 7 (by decide) rfl rfl).pk (L' := [els [(.map (some m2_1))] ([xs2_2] : List (MapS Int)), blk b2_4 [(.map (some m2_1))] 69, ow [v2_4] x2_2, blk b0_1 [(nV c_.params), (nV c_.regs), (sV b1_1 o1_1 c_.blocks.length c0_1)] 45, holeE b2_3 o2_2 ys0_1.length c0_2 (xs2_1 : List (List (MapS Int))) (i1_1).toNat [v2_4], ow [(.slice p1_2 r1_1.length c1_3)] r1_1, blk b2_2 [(nV x2_1.to), v2_1] 86]) [0, 1, 2, 3, 4, 5, 6] rfl rfl
    replace hm := (hm.lit_els 1 0 (by decide) rfl rfl rfl rfl).pk (L' := [ow [(sV b2_4 0 1 1)] ([xs2_2] : List (MapS Int)), ow [v2_4] x2_2, blk b0_1 [(nV c_.params), (nV c_.regs), (sV b1_1 o1_1 c_.blocks.length c0_1)] 45, holeE b2_3 o2_2 ys0_1.length c0_2 (xs2_1 : List (List (MapS Int))) (i1_1).toNat [v2_4], ow [(.slice p1_2 r1_1.length c1_3)] r1_1, blk b2_2 [(nV x2_1.to), v2_1] 86]) [1, 2, 3, 4, 5, 6] rfl rfl
    refine gb fun ys2_1 hx2_5 => ?_
    obtain ⟨h2_6, h2_6e⟩ := appM_some.1 hx2_5
    replace hm := (hm.both 1 0 (by decide) rfl rfl).pk (L' := [both (ow [v2_4] x2_2) (ow [(sV b2_4 0 1 1)] ([xs2_2] : List (MapS Int))), blk b0_1 [(nV c_.params), (nV c_.regs), (sV b1_1 o1_1 c_.blocks.length c0_1)] 45, holeE b2_3 o2_2 ys0_1.length c0_2 (xs2_1 : List (List (MapS Int))) (i1_1).toNat [v2_4], ow [(.slice p1_2 r1_1.length c1_3)] r1_1, blk b2_2 [(nV x2_1.to), v2_1] 86]) [1, 2, 3, 4, 5] rfl rfl
    refine gf rfl (fun a hf => e_appendD (xs := x2_2) (ys := ([xs2_2] : List (MapS Int))) 0 et_68 hf hm rfl rfl rfl rfl h2_6) ?_
    rintro v2_5 w hm
    rw [h2_6e] at hm
    have hL2_2 := hm.holeE_len 2 rfl
    refine gI st_64 h2_3 (idx_lt2 hx2_4 hL2_2) rfl ?_
    have h12_1 : ∀ u ∈ ([v2_5] : List Value), u.oneCell' = true := (one_cons (rep_one (hm.ow_rep 0 rfl)) one_nil)
    refine gf0 rfl (fun a hf => e_storeH (j := 0) (vs := [v2_5]) 2 hf hm rfl rfl rfl sizeOf68 rfl rfl (cells_one (h12_1 _ (List.mem_singleton.2 rfl))) h12_1 rfl) ?_
    rintro _ w hm
    replace hm : Mem w0 (hp w0) _ [ow [v2_5] ys2_1, blk b0_1 [(nV c_.params), (nV c_.regs), (sV b1_1 o1_1 c_.blocks.length c0_1)] 45, holeE b2_3 o2_2 ys0_1.length c0_2 (xs2_1 : List (List (MapS Int))) (i1_1).toNat [v2_5], ow [(.slice p1_2 r1_1.length c1_3)] r1_1, blk b2_2 [(nV x2_1.to), v2_1] 86] := hm
    refine gE ?_
    replace hm := hm.imp (c' := ow [v2_5] (ys2_1 : List (MapS Int))) 0 rfl (fun F h0 => h0)
    replace hm := (hm.shutE (y := (ys2_1 : List (MapS Int))) 2 0 (by decide) rfl rfl).pk (L' := [blk b0_1 [(nV c_.params), (nV c_.regs), (sV b1_1 o1_1 c_.blocks.length c0_1)] 45, ow [(sV b2_3 o2_2 ys0_1.length c0_2)] (xs2_1.set (i1_1).toNat ys2_1), ow [(.slice p1_2 r1_1.length c1_3)] r1_1, blk b2_2 [(nV x2_1.to), v2_1] 86]) [1, 2, 3, 4] rfl rfl
    have hx2_6 := List.getElem?_set_self (a := (ys2_1 : List (MapS Int))) (idx_lt hx2_4)
    exact gR (gP (by omega) (by omega) rfl (gM rfl (gE (gze hm [0, 1, 2] rfl))))
   repeat clear hm
   intro i1_2 xs1_2 w hm hi1_3 hi1_4
   exact gS (gR (gB rfl (gE (gS (go _ 31 rfl (decide_eq_false (by omega)) (gcf rfl (gXt (gHh (gR (gP (by omega) (by omega) rfl (gM rfl (gE (gze hm [0, 1] rfl)))))))))))))
  repeat clear hm
  intro i0_1 xs0_1 w hm hi0_3 hi0_4
  exact gS (gR (gB rfl (gE (gS (go _ 20 rfl (decide_eq_false (by omega)) (gcf rfl (gXt (gHh (gS (gR (gM rfl (gA rfl (gE (gRt (gr1 results56 rfl ⟨(.slice p0_2 ys0_1.length c0_2), rfl, hm.pk [1] rfl rfl⟩)))))))))))))))

theorem impl_settle_1_ok (w0 : World) (p_ : Int) (c0_ : MapS Int) (v1 : Value) (h1 : GT.rep (hp w0) [v1] c0_) (bf0 : Nat) (hbf0 : w0.heap[bf0]? = some (.cells ([v1] : List Value).toArray 69 (0, 0))) :
    ConM Tryz.prog 103 [(nV p_), (pV bf0)] w0 (impl_settle_1 p_ c0_) fun r v w' => v = (nV r) ∧ Below w0.heap.size w0 w' := by
  unfold impl_settle_1
  refine gcon func103 rfl fun r => ?_
  have hm := Mem.start w0
  exact gS (gR (gA rfl (gE (gS (gR (gY (yl isAgg69 (hm.old_cell hbf0 rfl) rfl) (gM rfl (gY (yG rfl (y_lookI (key := p_) (m := (c0_ : MapS Int)) underlying3 underlying69 zeroValue3 (hm.now h1) rfl rfl rfl)) (gA rfl (gE (gRt (gr1 results103 rfl ⟨rfl, hm.below⟩))))))))))))

theorem impl_mapped_int_int_ok (w0 : World) (list : List Int) (v1 : Value) (h1 : GT.rep (hp w0) [v1] list) (f : Int → Option Int) (fv1 : Value) (hfn1 : ∀ (w : World) (y0 : Int) (r : Int), Below w0.heap.size w0 w → f y0 = some r → FnOk Tryz.prog fv1 [(nV y0)] w (fun v w' => v = (nV r) ∧ Below w.heap.size w w')) :
    ConM Tryz.prog 102 [v1, fv1] w0 (impl_mapped_int_int list f) fun r v w' => ∃ (x1 : Value), v = x1 ∧ Mem w0 (hp w0) w' [ow [x1] r] := by
  unfold impl_mapped_int_int
  refine gcon func102 rfl fun r => ?_
  have hm := Mem.start w0
  refine gS (gR (gA rfl (gE (gS (gR (gA rfl (gE (gS (gS (gR (gM rfl ?_)))))))))))
  obtain ⟨p0_1, c0_1, rfl, hl0_1⟩ := ro_slice h1
  refine gY (yV st_47 rfl) (gM rfl (gE (gBk ?_)))
  replace hm := hm.nilow (α := Int)
  refine gNg (fun i1_1 xs1_1 a w => ∃ (v1_1 : Value), St 22 [(1, fv1), (5, v1_1), (8, (.slice p0_1 list.length c0_1)), (9, (nV ((list.length : Int)))), (10, (nV i1_1))] w0 (hp w0) [ow [v1_1] xs1_1] a w) (fun a hf => ⟨(.slice none 0 0), hf.sb rfl, hm.pk [0] rfl rfl⟩) ?_ ?_
  ·
   repeat clear hm
   rintro _ _ i1_1 xs1_1 a w ⟨v1_1, hf, hm⟩ hi0_1 hi0_2 q0_1 _
   refine gv hf (gS (gR (gB rfl (gE (gS (go _ 11 rfl (decide_eq_true (by omega)) (gct rfl (gSk (gS (gBk (gS (gR (gg fun x1_1 h1_1 hx1_2 => ?_)))))))))))))
   obtain ⟨b1_1, o1_1, c1_1, he⟩ := idx_form h1 hx1_2
   simp only [Value.slice.injEq, Option.some.injEq] at he; obtain ⟨rfl, _, rfl⟩ := he
   refine gI st_47 h1_1 (idx_lt hx1_2) rfl (gY (yl isAgg3 ((flat_cells (cs := [(nV x1_1)]) (hm.now h1) hx1_2 rfl).cell (j := 0) rfl) rfl) (gA rfl (gE (gR (gM rfl (gM rfl (gM rfl (gb fun r1_1 hx1_3 => gf rfl (fun a hf => e_callv hf rfl rfl rfl (hfn1 _ x1_1 _ hm.below hx1_3)) ?_))))))))
   rintro v1_2 w ⟨rfl, hB⟩
   replace hm := hm.below' hB; clear hB
   refine gf rfl (fun a hf => e_build (vs := #[(0, (nV r1_1))]) (cs := [(nV r1_1)]) et_47 hf hm rfl rfl (by kernel_rfl) rfl rfl) ?_
   rintro _ w ⟨b1_2, rfl, hm⟩
   replace hm := hm.lit (xs := ([r1_1] : List Int)) 0 rfl rfl rfl rfl
   refine gb fun ys1_1 hx1_4 => ?_
   obtain ⟨h1_2, h1_2e⟩ := appM_some.1 hx1_4
   refine gf rfl (fun a hf => e_append 1 et_47 hf hm rfl (hm.ow_rep 0 rfl) rfl rfl rfl h1_2) ?_
   rintro v1_3 w hm
   rw [h1_2e] at hm
   exact gA rfl (gE (gR (gP (by omega) (by omega) rfl (gM rfl (gE (gZe fun a hf => ⟨v1_3, hf.sb rfl, hm.pk [1] rfl rfl⟩))))))
  repeat clear hm
  rintro i0_1 xs0_1 a w ⟨v0_1, hf, hm⟩ hi0_3 hi0_4
  exact gv hf (gS (gR (gB rfl (gE (gS (go _ 11 rfl (decide_eq_false (by omega)) (gcf rfl (gXt (gHh (gS (gR (gM rfl (gA rfl (gE (gRt (gr1 results102 rfl ⟨v0_1, rfl, hm.pk [0] rfl rfl⟩))))))))))))))))

theorem impl_settle_ok (w0 : World) (hz : Heap) (c_ : Code_) (bp0 : Nat) (v1p : Value) (phis : List (List (MapS Int))) (v1 : Value) (h1 : GT.rep hz [v1] phis) (hm0 : Mem w0 hz w0 [blk bp0 [(nV c_.params), (nV c_.regs), v1p] 45, ow [v1p] c_.blocks]) :
    ConM Tryz.prog 58 [(pV bp0), v1] w0 (impl_settle c_ phis) fun r v w' => ∃ (x1 : Value), v = (.tuple #[]) ∧ Mem w0 hz w' [blk bp0 [(nV r.params), (nV r.regs), x1] 45, ow [x1] r.blocks] := by
  unfold impl_settle
  refine gcon func58 rfl fun r => ?_
  have hm := hm0
  refine gS (gR (gM rfl (gY (yG rfl (y_nilptr rfl rfl)) (gF fo_45_2 rfl (gL hm 0 isAgg43 rfl ?_)))))
  obtain ⟨p0_1, c0_1, rfl, hl0_1⟩ := ro_slice (hm.ow_rep 1 rfl)
  refine gY (yV st_43 rfl) (gM rfl (gE (gBk (gNf hm (fun i1_1 xs1_1 => [(0, (pV bp0)), (1, v1), (12, (nV ((c_.blocks.length : Int)))), (13, (nV i1_1))]) (fun i1_1 xs1_1 => [blk bp0 [(nV c_.params), (nV c_.regs), (.slice p0_1 c_.blocks.length c0_1)] 45, ow [(.slice p0_1 c_.blocks.length c0_1)] xs1_1]) [0, 1] rfl ?_ ?_))))
  ·
   repeat clear hm
   intro _ _ i1_1 xs1_1 w hm hi0_1 hi0_2 q0_1 _
   refine gS (gR (gB rfl (gE (gS (go _ 14 rfl (decide_eq_true (by omega)) (gct rfl (gSk (gS (gBk (gS (gR (gM rfl (gA rfl (gE (gS (gR (gM rfl (gY (yG rfl (y_nilptr rfl rfl)) (gY (yn (hm.blk_at 0 rfl) isAgg45 sizeOf45 rfl) (gM rfl (gCg rfl call65 (impl_PredsOf_ok _ (⟨c_.params, c_.regs, xs1_1⟩ : Code_) (.slice p0_1 c_.blocks.length c0_1) (hm.ow_rep 1 rfl) i1_1) ?_)))))))))))))))))))))
   rintro r1_1 hx1_1 v1_1 w ⟨_, rfl, hB⟩
   replace hm := hm.give hB; clear hB
   refine gA rfl (gE (gS (gR (gM rfl (gM rfl (gg fun x1_1 h1_1 hx1_3 => ?_))))))
   obtain ⟨b1_1, o1_1, c1_1, he⟩ := idx_form' h1 hx1_3
   subst he
   obtain ⟨_, _, hc1_1, hr1_1⟩ := ro_get' h1 hx1_3
   have h1_2 := hr1_1
   obtain ⟨v1_3, rfl, -⟩ := id h1_2
   replace h1_2 : GT.rep hz [v1_3] x1_1 := h1_2
   replace hc1_1 : CellsAt hz b1_1 (o1_1 + (i1_1).toNat * 1) [v1_3] := hc1_1
   refine gI st_64 h1_1 (idx_lt hx1_3) rfl (gY (yl isAgg68 ((hc1_1.mono hm.lez).cell (j := 0) rfl) rfl) ?_)
   obtain ⟨p1_1, c1_2, rfl, hl1_1⟩ := ro_slice h1_2
   refine gY (yV st_68 rfl) (gM rfl (gE ?_))
   obtain ⟨p1_2, c1_3, rfl, hl1_2⟩ := ro_slice (hm.ow_rep 0 rfl)
   refine gBk (gNf hm (fun i2_1 xs2_1 => [(0, (pV bp0)), (1, (sV b1_1 o1_1 phis.length c1_1)), (4, (nV i1_1)), (5, (.slice p1_2 r1_1.length c1_3)), (12, (nV ((c_.blocks.length : Int)))), (13, (nV i1_1)), (24, (.slice p1_1 x1_1.length c1_2)), (25, (nV ((x1_1.length : Int)))), (26, (nV i2_1))]) (fun i2_1 xs2_1 => [blk bp0 [(nV c_.params), (nV c_.regs), (.slice p0_1 c_.blocks.length c0_1)] 45, ow [(.slice p0_1 c_.blocks.length c0_1)] xs2_1, ow [(.slice p1_2 r1_1.length c1_3)] r1_1]) [1, 2, 0] rfl ?_ ?_)
   ·
    repeat clear hm
    intro _ _ i2_1 xs2_1 w hm hi1_1 hi1_2 q1_1 _
    refine gS (gR (gB rfl (gE (gS (go _ 27 rfl (decide_eq_true (by omega)) (gct rfl (gSk (gS (gBk (gS (gR (gM rfl (gg fun x2_1 h2_1 hx2_2 => ?_)))))))))))))
    obtain ⟨b2_1, o2_1, c2_1, he⟩ := idx_form' h1_2 hx2_2
    simp only [Value.slice.injEq, Option.some.injEq] at he; obtain ⟨rfl, _, rfl⟩ := he
    obtain ⟨_, _, hc2_1, hr2_1⟩ := ro_get' h1_2 hx2_2
    have h2_2 := hr2_1
    obtain ⟨v2_1, rfl, -⟩ := id h2_2
    replace h2_2 : GT.rep hz [v2_1] x2_1 := h2_2
    replace hc2_1 : CellsAt hz b2_1 (o2_1 + (i2_1).toNat * 1) [v2_1] := hc2_1
    refine gI st_68 h2_1 (idx_lt hx2_2) rfl (gY (yl isAgg69 ((hc2_1.mono hm.lez).cell (j := 0) rfl) rfl) (gAl hm zeroValue69 rfl fun b2_2 w hm => gA rfl (gS1 hm 0 sizeOf69 (rep_oneM h2_2) rfl fun w hm => gE (gJ hm (fun s2_1 => [(0, (pV bp0)), (1, (sV b1_1 o1_1 phis.length c1_1)), (4, (nV i1_1)), (5, (.slice p1_2 r1_1.length c1_3)), (12, (nV ((c_.blocks.length : Int)))), (13, (nV i1_1)), (24, (sV b2_1 o2_1 x1_1.length c1_2)), (25, (nV ((x1_1.length : Int)))), (26, (nV i2_1))]) (fun s2_1 => [blk bp0 [(nV c_.params), (nV c_.regs), (.slice p0_1 c_.blocks.length c0_1)] 45, ow [(.slice p0_1 c_.blocks.length c0_1)] s2_1, ow [(.slice p1_2 r1_1.length c1_3)] r1_1]) (fun s2_1 => ?_) ?_))))
    ·
     refine gW (.p 0 (.p 1 (.p 2 (.p 4 (.p 8 (.p 9 (.p 10 (.q 3 (.p 5 (.p 6 (.e 7 (.e 11 (.p 12 (.p 13 (.e 14 .fin .nil))) .nil) (.e 11 (.e 7 (.p 12 (.p 13 (.e 14 .fin .nil))) .nil) .nil)))))))))))) [11] [0, 1, 2, 4, 5, 6, 8, 9, 10, 12, 13] hm [0, 1, 3] [blk b2_2 [v2_1] 69, blk bp0 [(nV c_.params), (nV c_.regs), (.slice p0_1 c_.blocks.length c0_1)] 45, ow [(.slice p1_2 r1_1.length c1_3)] r1_1] rfl mxo (by kernel_rfl) (fun _ _ _ h => h.2) fun w hm hS => tP rfl (fun w => yM rfl) (tP rfl (fun w => yG rfl (y_nilptr rfl rfl)) (tP rfl (fun w => yF fo_45_2 rfl) (tP rfl (fun w => yM rfl) (tP rfl (fun w => yM rfl) (tP rfl (fun w => yM rfl) (tP rfl (fun w => yU rfl) (tQ rfl hS (fun w hm => yL hm 1 isAgg43 rfl) (gg fun x3_1 h3_1 hx3_2 => ?_))))))))
     obtain ⟨b3_1, o3_1, c3_1, he⟩ := idx_form' (hm.ow_rep 2 rfl) hx3_2
     simp only [Value.slice.injEq, Option.some.injEq] at he; obtain ⟨rfl, _, rfl⟩ := he
     obtain ⟨v3_1, v3_2, v3_3, hc3_1, h3_2, h3_3, h3_4⟩ := rk_Block_ (hm.ow_rep 2 rfl) hx3_2
     have hL3_1 := rep_slice_len (hm.ow_rep 2 rfl)
     refine tP rfl (fun w => yI st_43 h3_1 (idx_lt2 hx3_2 hL3_1) rfl) (tP rfl (fun w => yF fo_61_0 rfl) (gb fun pb3_1 hpb3_1 => gb fun pb3_2 hpb3_2 => tMo ?_ ?_))
     ·
      obtain ⟨v3_4, v3_5, v3_6, hm⟩ := pin_Block_ hm 2 rfl hx3_2
      refine tY rfl (yl isAgg58 ((hm.holeE_at 5 rfl).cell (j := 0) rfl) rfl) (tAn rfl (tO (tf rfl rfl (fun a hf => e_call hf rfl call102 rfl (impl_mapped_int_int_ok _ r1_1 (.slice p1_2 r1_1.length c1_3) (hm.ow_rep 6 rfl) (fun y0 => impl_settle_1 y0 x2_1) (.func (.func 103) #[] #[(pV b2_2)]) (fun w y0 r hB hq => ⟨103, [(pV b2_2)], rfl, call103, impl_settle_1_ok w y0 x2_1 v2_1 (rep_later (hm.now h2_2) hB) b2_2 (hm.blk_later 3 rfl hB) r hq⟩) _ hpb3_1)) ?_)))
      rintro v3_7 w ⟨_, rfl, hB⟩
      replace hm := hm.give hB; clear hB
      refine tAk hm [4, 5, 7] rfl fun hS => ?_
      obtain ⟨h3_5, hx3_3⟩ := getI_some.1 hpb3_2
      obtain ⟨b3_2, o3_2, c3_2, he⟩ := idx_form' (hm.ow_rep 3 rfl) hx3_3
      subst he
      obtain ⟨v3_9, hc3_2, h3_6⟩ := rk_Phi_ (hm.ow_rep 3 rfl) hx3_3
      refine tP rfl (fun w => yI st_58 h3_5 (idx_lt hx3_3) rfl) (tP rfl (fun w => yF fo_86_1 rfl) (tO ?_))
      obtain ⟨v3_10, hm⟩ := pin_Phi_ hm 3 rfl hx3_3
      have h13_1 : ∀ u ∈ ([v3_7] : List Value), u.oneCell' = true := (one_cons (rep_one (hm.ow_rep 1 rfl)) one_nil)
      refine tf0 rfl rfl (fun a hf => e_storeH (j := 1) (vs := [v3_7]) 4 hf hm rfl rfl rfl sizeOf47 rfl rfl (cells_one (h13_1 _ (List.mem_singleton.2 rfl))) h13_1 rfl) ?_
      rintro _ w hm
      replace hm : Mem w0 hz _ [ow [v3_10] pb3_2.args, ow [v3_7] pb3_1, ow [v3_6] x3_1.next_, ow [v3_5] x3_1.ins, holeE b3_2 o3_2 x3_1.phis.length c3_2 (x3_1.phis : List Phi_) (i2_1).toNat [(nV pb3_2.to), v3_7], blk b2_2 [v2_1] 69, blk bp0 [(nV c_.params), (nV c_.regs), (sV b3_1 o3_1 c_.blocks.length c0_1)] 45, holeE b3_1 o3_1 c_.blocks.length c0_1 (xs2_1 : List Block_) (i1_1).toNat [(sV b3_2 o3_2 x3_1.phis.length c3_2), v3_5, (nV x3_1.jump), (nV x3_1.on), v3_6], ow [(.slice p1_2 r1_1.length c1_3)] r1_1] := hm
      refine tAn rfl (tE ?_)
      replace hm : Mem w0 hz _ [ow [v3_10] pb3_2.args, ow [(nV pb3_2.to), v3_7] ((⟨pb3_2.to, pb3_1⟩ : Phi_) : Phi_), ow [v3_6] x3_1.next_, ow [v3_5] x3_1.ins, holeE b3_2 o3_2 x3_1.phis.length c3_2 (x3_1.phis : List Phi_) (i2_1).toNat [(nV pb3_2.to), v3_7], blk b2_2 [v2_1] 69, blk bp0 [(nV c_.params), (nV c_.regs), (sV b3_1 o3_1 c_.blocks.length c0_1)] 45, holeE b3_1 o3_1 c_.blocks.length c0_1 (xs2_1 : List Block_) (i1_1).toNat [(sV b3_2 o3_2 x3_1.phis.length c3_2), v3_5, (nV x3_1.jump), (nV x3_1.on), v3_6], ow [(.slice p1_2 r1_1.length c1_3)] r1_1] := mk_Phi_ pb3_2.to hm 1 rfl
      replace hm := (hm.shutE (y := ((⟨pb3_2.to, pb3_1⟩ : Phi_) : Phi_)) 4 1 (by decide) rfl rfl).pk (L' := [ow [v3_10] pb3_2.args, ow [v3_6] x3_1.next_, ow [v3_5] x3_1.ins, ow [(sV b3_2 o3_2 x3_1.phis.length c3_2)] (x3_1.phis.set (i2_1).toNat (⟨pb3_2.to, pb3_1⟩ : Phi_)), blk b2_2 [v2_1] 69, blk bp0 [(nV c_.params), (nV c_.regs), (sV b3_1 o3_1 c_.blocks.length c0_1)] 45, holeE b3_1 o3_1 c_.blocks.length c0_1 (xs2_1 : List Block_) (i1_1).toNat [(sV b3_2 o3_2 x3_1.phis.length c3_2), v3_5, (nV x3_1.jump), (nV x3_1.on), v3_6], ow [(.slice p1_2 r1_1.length c1_3)] r1_1]) [0, 2, 3, 4, 5, 6, 7, 8] rfl rfl
      have hx3_4 := List.getElem?_set_self (a := ((⟨pb3_2.to, pb3_1⟩ : Phi_) : Phi_)) (idx_lt hx3_3)
      replace hm := (mk_Block_ x3_1.jump x3_1.on hm 3 2 1 rfl).pk (L' := [ow [v3_10] pb3_2.args, ow [(sV b3_2 o3_2 x3_1.phis.length c3_2), v3_5, (nV x3_1.jump), (nV x3_1.on), v3_6] ((⟨(x3_1.phis.set (i2_1).toNat (⟨pb3_2.to, pb3_1⟩ : Phi_)), x3_1.ins, x3_1.jump, x3_1.on, x3_1.next_⟩ : Block_) : Block_), blk b2_2 [v2_1] 69, blk bp0 [(nV c_.params), (nV c_.regs), (sV b3_1 o3_1 c_.blocks.length c0_1)] 45, holeE b3_1 o3_1 c_.blocks.length c0_1 (xs2_1 : List Block_) (i1_1).toNat [(sV b3_2 o3_2 x3_1.phis.length c3_2), v3_5, (nV x3_1.jump), (nV x3_1.on), v3_6], ow [(.slice p1_2 r1_1.length c1_3)] r1_1]) [0, 3, 4, 5, 6, 7] rfl rfl
      replace hm := (hm.shutE (y := ((⟨(x3_1.phis.set (i2_1).toNat (⟨pb3_2.to, pb3_1⟩ : Phi_)), x3_1.ins, x3_1.jump, x3_1.on, x3_1.next_⟩ : Block_) : Block_)) 4 1 (by decide) rfl rfl).pk (L' := [ow [v3_10] pb3_2.args, blk b2_2 [v2_1] 69, blk bp0 [(nV c_.params), (nV c_.regs), (sV b3_1 o3_1 c_.blocks.length c0_1)] 45, ow [(sV b3_1 o3_1 c_.blocks.length c0_1)] (xs2_1.set (i1_1).toNat (⟨(x3_1.phis.set (i2_1).toNat (⟨pb3_2.to, pb3_1⟩ : Phi_)), x3_1.ins, x3_1.jump, x3_1.on, x3_1.next_⟩ : Block_)), ow [(.slice p1_2 r1_1.length c1_3)] r1_1]) [0, 2, 3, 4, 5] rfl rfl
      have hx3_5 := List.getElem?_set_self (a := ((⟨(x3_1.phis.set (i2_1).toNat (⟨pb3_2.to, pb3_1⟩ : Phi_)), x3_1.ins, x3_1.jump, x3_1.on, x3_1.next_⟩ : Block_) : Block_)) (idx_lt hx3_2)
      exact gz hm [2, 3, 4] rfl
     refine tO (tf rfl rfl (fun a hf => e_call hf rfl call102 rfl (impl_mapped_int_int_ok _ r1_1 (.slice p1_2 r1_1.length c1_3) (hm.ow_rep 3 rfl) (fun y0 => impl_settle_1 y0 x2_1) (.func (.func 103) #[] #[(pV b2_2)]) (fun w y0 r hB hq => ⟨103, [(pV b2_2)], rfl, call103, impl_settle_1_ok w y0 x2_1 v2_1 (rep_later (hm.now h2_2) hB) b2_2 (hm.blk_later 0 rfl hB) r hq⟩) _ hpb3_1)) ?_)
     rintro v3_11 w ⟨_, rfl, hB⟩
     replace hm := hm.give hB; clear hB
     refine tAk hm [1, 2, 4] rfl fun hS => tO ?_
     obtain ⟨v3_13, v3_14, v3_15, hm⟩ := pin_Block_ hm 3 rfl hx3_2
     refine tY rfl (yl isAgg58 ((hm.holeE_at 6 rfl).cell (j := 0) rfl) rfl) (tAn rfl ?_)
     obtain ⟨h3_7, hx3_6⟩ := getI_some.1 hpb3_2
     obtain ⟨b3_3, o3_3, c3_3, he⟩ := idx_form' (hm.ow_rep 2 rfl) hx3_6
     subst he
     obtain ⟨v3_16, hc3_3, h3_8⟩ := rk_Phi_ (hm.ow_rep 2 rfl) hx3_6
     refine tP rfl (fun w => yI st_58 h3_7 (idx_lt hx3_6) rfl) (tP rfl (fun w => yF fo_86_1 rfl) (tO ?_))
     obtain ⟨v3_17, hm⟩ := pin_Phi_ hm 2 rfl hx3_6
     have h13_2 : ∀ u ∈ ([v3_11] : List Value), u.oneCell' = true := (one_cons (rep_one (hm.ow_rep 4 rfl)) one_nil)
     refine tf0 rfl rfl (fun a hf => e_storeH (j := 1) (vs := [v3_11]) 3 hf hm rfl rfl rfl sizeOf47 rfl rfl (cells_one (h13_2 _ (List.mem_singleton.2 rfl))) h13_2 rfl) ?_
     rintro _ w hm
     replace hm : Mem w0 hz _ [ow [v3_17] pb3_2.args, ow [v3_15] x3_1.next_, ow [v3_14] x3_1.ins, holeE b3_3 o3_3 x3_1.phis.length c3_3 (x3_1.phis : List Phi_) (i2_1).toNat [(nV pb3_2.to), v3_11], ow [v3_11] pb3_1, blk b2_2 [v2_1] 69, blk bp0 [(nV c_.params), (nV c_.regs), (sV b3_1 o3_1 c_.blocks.length c0_1)] 45, holeE b3_1 o3_1 c_.blocks.length c0_1 (xs2_1 : List Block_) (i1_1).toNat [(sV b3_3 o3_3 x3_1.phis.length c3_3), v3_14, (nV x3_1.jump), (nV x3_1.on), v3_15], ow [(.slice p1_2 r1_1.length c1_3)] r1_1] := hm
     refine tAn rfl (tE ?_)
     replace hm : Mem w0 hz _ [ow [v3_17] pb3_2.args, ow [v3_15] x3_1.next_, ow [v3_14] x3_1.ins, holeE b3_3 o3_3 x3_1.phis.length c3_3 (x3_1.phis : List Phi_) (i2_1).toNat [(nV pb3_2.to), v3_11], ow [(nV pb3_2.to), v3_11] ((⟨pb3_2.to, pb3_1⟩ : Phi_) : Phi_), blk b2_2 [v2_1] 69, blk bp0 [(nV c_.params), (nV c_.regs), (sV b3_1 o3_1 c_.blocks.length c0_1)] 45, holeE b3_1 o3_1 c_.blocks.length c0_1 (xs2_1 : List Block_) (i1_1).toNat [(sV b3_3 o3_3 x3_1.phis.length c3_3), v3_14, (nV x3_1.jump), (nV x3_1.on), v3_15], ow [(.slice p1_2 r1_1.length c1_3)] r1_1] := mk_Phi_ pb3_2.to hm 4 rfl
     replace hm := (hm.shutE (y := ((⟨pb3_2.to, pb3_1⟩ : Phi_) : Phi_)) 3 4 (by decide) rfl rfl).pk (L' := [ow [v3_17] pb3_2.args, ow [v3_15] x3_1.next_, ow [v3_14] x3_1.ins, ow [(sV b3_3 o3_3 x3_1.phis.length c3_3)] (x3_1.phis.set (i2_1).toNat (⟨pb3_2.to, pb3_1⟩ : Phi_)), blk b2_2 [v2_1] 69, blk bp0 [(nV c_.params), (nV c_.regs), (sV b3_1 o3_1 c_.blocks.length c0_1)] 45, holeE b3_1 o3_1 c_.blocks.length c0_1 (xs2_1 : List Block_) (i1_1).toNat [(sV b3_3 o3_3 x3_1.phis.length c3_3), v3_14, (nV x3_1.jump), (nV x3_1.on), v3_15], ow [(.slice p1_2 r1_1.length c1_3)] r1_1]) [0, 1, 2, 3, 5, 6, 7, 8] rfl rfl
     have hx3_7 := List.getElem?_set_self (a := ((⟨pb3_2.to, pb3_1⟩ : Phi_) : Phi_)) (idx_lt hx3_6)
     replace hm := (mk_Block_ x3_1.jump x3_1.on hm 3 2 1 rfl).pk (L' := [ow [v3_17] pb3_2.args, ow [(sV b3_3 o3_3 x3_1.phis.length c3_3), v3_14, (nV x3_1.jump), (nV x3_1.on), v3_15] ((⟨(x3_1.phis.set (i2_1).toNat (⟨pb3_2.to, pb3_1⟩ : Phi_)), x3_1.ins, x3_1.jump, x3_1.on, x3_1.next_⟩ : Block_) : Block_), blk b2_2 [v2_1] 69, blk bp0 [(nV c_.params), (nV c_.regs), (sV b3_1 o3_1 c_.blocks.length c0_1)] 45, holeE b3_1 o3_1 c_.blocks.length c0_1 (xs2_1 : List Block_) (i1_1).toNat [(sV b3_3 o3_3 x3_1.phis.length c3_3), v3_14, (nV x3_1.jump), (nV x3_1.on), v3_15], ow [(.slice p1_2 r1_1.length c1_3)] r1_1]) [0, 3, 4, 5, 6, 7] rfl rfl
     replace hm := (hm.shutE (y := ((⟨(x3_1.phis.set (i2_1).toNat (⟨pb3_2.to, pb3_1⟩ : Phi_)), x3_1.ins, x3_1.jump, x3_1.on, x3_1.next_⟩ : Block_) : Block_)) 4 1 (by decide) rfl rfl).pk (L' := [ow [v3_17] pb3_2.args, blk b2_2 [v2_1] 69, blk bp0 [(nV c_.params), (nV c_.regs), (sV b3_1 o3_1 c_.blocks.length c0_1)] 45, ow [(sV b3_1 o3_1 c_.blocks.length c0_1)] (xs2_1.set (i1_1).toNat (⟨(x3_1.phis.set (i2_1).toNat (⟨pb3_2.to, pb3_1⟩ : Phi_)), x3_1.ins, x3_1.jump, x3_1.on, x3_1.next_⟩ : Block_)), ow [(.slice p1_2 r1_1.length c1_3)] r1_1]) [0, 2, 3, 4, 5] rfl rfl
     have hx3_8 := List.getElem?_set_self (a := ((⟨(x3_1.phis.set (i2_1).toNat (⟨pb3_2.to, pb3_1⟩ : Phi_)), x3_1.ins, x3_1.jump, x3_1.on, x3_1.next_⟩ : Block_) : Block_)) (idx_lt hx3_2)
     exact gz hm [2, 3, 4] rfl
    repeat clear hm
    intro s2_1 w hm
    exact gR (gP (by omega) (by omega) rfl (gM rfl (gE (gze hm [0, 1, 2] rfl))))
   repeat clear hm
   intro i1_2 xs1_2 w hm hi1_3 hi1_4
   exact gS (gR (gB rfl (gE (gS (go _ 27 rfl (decide_eq_false (by omega)) (gcf rfl (gXt (gHh (gR (gP (by omega) (by omega) rfl (gM rfl (gE (gze hm [0, 1] rfl)))))))))))))
  repeat clear hm
  intro i0_1 xs0_1 w hm hi0_3 hi0_4
  exact gS (gR (gB rfl (gE (gS (go _ 14 rfl (decide_eq_false (by omega)) (gcf rfl (gXt (gHh (gre results58 ⟨(.slice p0_1 c_.blocks.length c0_1), rfl, hm.pk [0, 1] rfl rfl⟩)))))))))

theorem impl_picked_ok (w0 : World) (c_ : Code_) (v1 : Value) (h1 : GT.rep (hp w0) [v1] c_.blocks) (order : List Int) (v2 : Value) (h2 : GT.rep (hp w0) [v2] order) :
    ConM Tryz.prog 41 [(.agg #[(nV c_.params), (nV c_.regs), v1]), v2] w0 (impl_picked c_ order) fun r v w' => ∃ (x1 : Value), v = (.agg #[(nV r.params), (nV r.regs), x1]) ∧ Mem w0 (hp w0) w' [ow [x1] r.blocks] := by
  unfold impl_picked
  refine gcon func41 rfl fun r => ?_
  have hm := Mem.start w0
  refine gS (gR (gBx hm rfl fun b0_1 w hm => gAl hm zeroValue45 rfl fun b0_2 w hm => gE (gS (gR (gf rfl (fun a hf => e_mkM (β := Int) hm rfl) ?_)))))
  rintro v0_1 w hm
  refine gA rfl (gE (gS (gS (gR (gM rfl ?_)))))
  obtain ⟨p0_1, c0_1, rfl, hl0_1⟩ := ro_slice h2
  refine gY (yV st_47 rfl) (gM rfl (gE (gBk (gNf hm (fun i1_1 xs1_1 => [(1, (.slice p0_1 order.length c0_1)), (2, (pV b0_1)), (4, (pV b0_2)), (5, v0_1), (24, (.slice p0_1 order.length c0_1)), (25, (nV ((order.length : Int)))), (26, (nV i1_1))]) (fun i1_1 xs1_1 => [blk b0_1 [(nV c_.params), (nV c_.regs), v1] 45, blk b0_2 [(nV 0), (nV 0), (.slice none 0 0)] 45, owm v0_1 xs1_1]) [2, 1, 0] rfl ?_ ?_))))
  ·
   repeat clear hm
   intro _ _ i1_1 xs1_1 w hm hi0_1 hi0_2 q0_1 _
   refine gS (gR (gB rfl (gE (gS (go _ 27 rfl (decide_eq_true (by omega)) (gct rfl (gSk (gS (gBk (gS (gR (gM rfl (gg fun x1_1 h1_1 hx1_2 => ?_)))))))))))))
   obtain ⟨b1_1, o1_1, c1_1, he⟩ := idx_form h2 hx1_2
   simp only [Value.slice.injEq, Option.some.injEq] at he; obtain ⟨rfl, _, rfl⟩ := he
   refine gI st_47 h1_1 (idx_lt hx1_2) rfl (gY (yl isAgg3 ((flat_cells (cs := [(nV x1_1)]) (hm.now h2) hx1_2 rfl).cell (j := 0) rfl) rfl) (gA rfl (gA rfl (gE (gR (gM rfl (gM rfl (gM rfl (gf0 rfl (fun a hf => e_insM (β := Int) (key := x1_1) (u := i1_1) (b := false) 2 underlying3 underlying69 hf hm rfl rfl rfl rfl rfl) ?_)))))))))
   rintro _ w hm
   exact gE (gR (gP (by omega) (by omega) rfl (gM rfl (gE (gze hm [0, 1, 2] rfl)))))
  repeat clear hm
  intro i0_1 xs0_1 w hm hi0_3 hi0_4
  refine gS (gR (gB rfl (gE (gS (go _ 27 rfl (decide_eq_false (by omega)) (gcf rfl (gXt (gHh (gS (gR (gY (yn (hm.blk_at 0 rfl) isAgg45 sizeOf45 rfl) (gCg rfl call56 (impl_phisOf_ok _ c_ v1 (hm.now h1)) ?_))))))))))))
  rintro r0_2 hx0_1 v0_2 w ⟨_, rfl, hB⟩
  replace hm := hm.give hB; clear hB
  refine gA rfl (gE (gS (gR (gF fo_45_0 rfl (gL hm 1 isAgg3 rfl (gF fo_45_1 rfl (gL hm 1 isAgg3 rfl (gY (yG rfl (y_build (vs := [(0, (nV c_.params)), (1, (nV c_.regs))]) (cs := #[(nV c_.params), (nV c_.regs), (.slice none 0 0)]) rfl rfl (by kernel_rfl))) (gAl hm zeroValue45 rfl fun b0_3 w hm => gSN hm 0 sizeOf45 (one_cons rfl (one_cons rfl (one_cons rfl one_nil))) rfl fun w hm => gE (gS (gR (gM rfl (gY (yV st_47 rfl) (gb fun ys0_1 hx0_2 => ?_))))))))))))))
  obtain ⟨⟨h0_11, h0_12⟩, h0_1e⟩ := makeM_some.1 hx0_2
  refine gf rfl (fun a hf => e_make (x0 := ([] : List (MapS Int))) et_64 (fun _ => (own_list.2 (.inl ⟨rfl, rfl⟩))) hf hm rfl rfl rfl h0_11 (Int.le_refl _) h0_12) ?_
  rintro v0_4 w hm
  rw [h0_1e] at hm
  have h0_1l : (ys0_1.length : Int) = (order.length : Int) := by rw [← h0_1e]; simp only [List.length_replicate]; omega
  refine gA rfl (gE (gS (gS (gR (gM rfl (gY (yV st_47 rfl) (gM rfl (gE ?_))))))))
  obtain ⟨hz0_2, hle0_2, hz_r0_1, hm⟩ := hm.freeze 2 rfl
  replace hm := hm.pk (L' := [ow [v0_4] ys0_1, blk b0_3 [(nV c_.params), (nV c_.regs), (.slice none 0 0)] 45, blk b0_1 [(nV c_.params), (nV c_.regs), v1] 45, blk b0_2 [(nV 0), (nV 0), (.slice none 0 0)] 45, owm v0_1 xs0_1]) [0, 1, 3, 4, 5] rfl rfl
  replace hz_r0_1 : GT.rep hz0_2 [v0_2] r0_2 := fz_ow hz_r0_1
  obtain ⟨p0_2, c0_2, rfl, hl0_2⟩ := ro_slice (hm.ow_rep 0 rfl)
  refine gBk ?_
  replace hm := hm.nilow (α := Block_)
  refine gNg (fun i1_2 xs1_2 a w => ∃ (v1_1 : Value), St 122 [(2, (pV b0_1)), (4, (pV b0_2)), (5, v0_1), (8, v0_2), (9, (pV b0_3)), (10, (.slice p0_2 ys0_1.length c0_2)), (45, (.slice p0_1 order.length c0_1)), (46, (nV ((order.length : Int)))), (47, (nV i1_2))] w0 hz0_2 [blk b0_1 [(nV c_.params), (nV c_.regs), v1] 45, blk b0_2 [(nV 0), (nV 0), (.slice none 0 0)] 45, owm v0_1 xs0_1, blk b0_3 [(nV c_.params), (nV c_.regs), v1_1] 45, ow [v1_1] xs1_2.1, ow [(.slice p0_2 ys0_1.length c0_2)] xs1_2.2] a w) (fun a hf => ⟨(.slice none 0 0), hf.sb rfl, hm.pk [3, 4, 5, 2, 0, 1] rfl rfl⟩) ?_ ?_
  ·
   repeat clear hm
   rintro _ _ i1_2 xs1_2 a w ⟨v1_1, hf, hm⟩ hi0_5 hi0_6 q0_2 _
   refine gv hf (gS (gR (gB rfl (gE (gS (go _ 48 rfl (decide_eq_true (by omega)) (gct rfl (gSk (gS (gBk (gS (gR (gM rfl (gg fun x1_2 h1_2 hx1_4 => ?_))))))))))))))
   obtain ⟨b1_2, o1_2, c1_2, he⟩ := idx_form h2 hx1_4
   simp only [Value.slice.injEq, Option.some.injEq] at he; obtain ⟨rfl, _, rfl⟩ := he
   refine gI st_47 h1_2 (idx_lt hx1_4) rfl (gY (yl isAgg3 ((flat_cells (cs := [(nV x1_2)]) (hm.now (GT.mono hle0_2 h2)) hx1_4 rfl).cell (j := 0) rfl) rfl) (gA rfl (gA rfl (gE (gS (gR (gF fo_45_2 rfl (gL hm 0 isAgg43 rfl (gM rfl (gg fun x1_3 h1_3 hx1_6 => ?_))))))))))
   obtain ⟨b1_3, o1_3, c1_3, he⟩ := idx_form' h1 hx1_6
   subst he
   obtain ⟨v1_2, v1_3, v1_4, hc1_1, h1_4, h1_5, h1_6⟩ := rk_Block_ h1 hx1_6
   refine gI st_43 h1_3 (idx_lt hx1_6) rfl (gY (yn (hc1_1.mono (Heap.le_trans hle0_2 hm.lez)) isAgg61 sizeOf61 rfl) (gCg rfl call60 (impl_cloneBlock_ok _ x1_3 v1_2 (hm.now (GT.mono hle0_2 h1_4)) v1_3 (hm.now (GT.mono hle0_2 h1_5)) v1_4 (hm.now (GT.mono hle0_2 h1_6))) ?_))
   rintro r1_1 hx1_7 v1_5 w ⟨v1_6, v1_7, v1_8, rfl, hB⟩
   replace hm := hm.give hB; clear hB
   refine gAl hm zeroValue61 rfl fun b1_4 w hm => gSN hm 0 sizeOf61 (one_cons (rep_one (hm.ow_rep 1 rfl)) (one_cons (rep_one (hm.ow_rep 2 rfl)) (one_cons rfl (one_cons rfl (one_cons (rep_one (hm.ow_rep 3 rfl)) one_nil))))) rfl fun w hm => gE (gS (gS (gR (gF fo_61_4 rfl (gL hm 0 isAgg47 rfl ?_)))))
   obtain ⟨p1_1, c1_4, rfl, hl1_1⟩ := ro_slice (hm.ow_rep 3 rfl)
   refine gY (yV st_47 rfl) (gM rfl (gE ?_))
   obtain ⟨p1_2, c1_5, rfl, hl1_2⟩ := ro_slice (hm.ow_rep 8 rfl)
   obtain ⟨p1_3, c1_6, rfl, hl1_3⟩ := ro_slice (hm.ow_rep 1 rfl)
   obtain ⟨p1_4, c1_7, rfl, hl1_4⟩ := ro_slice (hm.ow_rep 2 rfl)
   refine gBk (gNf hm (fun i2_1 xs2_1 => [(2, (pV b0_1)), (4, (pV b0_2)), (5, v0_1), (8, v0_2), (9, (pV b0_3)), (10, (.slice p0_2 ys0_1.length c0_2)), (11, (nV i1_2)), (12, (nV x1_2)), (13, (pV b1_4)), (45, (sV b1_2 o1_2 order.length c0_1)), (46, (nV ((order.length : Int)))), (47, (nV i1_2)), (59, (.slice p1_1 r1_1.next_.length c1_4)), (60, (nV ((r1_1.next_.length : Int)))), (61, (nV i2_1))]) (fun i2_1 xs2_1 => [blk b0_1 [(nV c_.params), (nV c_.regs), (sV b1_3 o1_3 c_.blocks.length c1_3)] 45, blk b0_2 [(nV 0), (nV 0), (.slice none 0 0)] 45, owm v0_1 xs0_1, blk b0_3 [(nV c_.params), (nV c_.regs), (.slice p1_2 xs1_2.1.length c1_5)] 45, ow [(.slice p1_2 xs1_2.1.length c1_5)] xs1_2.1, ow [(.slice p0_2 ys0_1.length c0_2)] xs1_2.2, blk b1_4 [(.slice p1_3 r1_1.phis.length c1_6), (.slice p1_4 r1_1.ins.length c1_7), (nV r1_1.jump), (nV r1_1.on), (.slice p1_1 r1_1.next_.length c1_4)] 61, ow [(.slice p1_3 r1_1.phis.length c1_6)] r1_1.phis, ow [(.slice p1_4 r1_1.ins.length c1_7)] r1_1.ins, ow [(.slice p1_1 r1_1.next_.length c1_4)] xs2_1]) [4, 5, 6, 7, 8, 9, 0, 1, 2, 3] rfl ?_ ?_)
   ·
    repeat clear hm
    intro _ _ i2_1 xs2_1 w hm hi1_1 hi1_2 q1_1 _
    refine gS (gR (gB rfl (gE (gS (go _ 62 rfl (decide_eq_true (by omega)) (gct rfl (gSk (gS (gBk (gS (gR (gM rfl (gg fun x2_1 h2_1 hx2_2 => ?_)))))))))))))
    obtain ⟨b2_1, o2_1, c2_1, he⟩ := idx_form (hm.ow_rep 9 rfl) hx2_2
    simp only [Value.slice.injEq, Option.some.injEq] at he; obtain ⟨rfl, _, rfl⟩ := he
    have hL2_1 := rep_slice_len (hm.ow_rep 9 rfl)
    refine gI st_47 h2_1 (idx_lt2 hx2_2 hL2_1) rfl (gY (yl isAgg3 ((flat_cells (cs := [(nV x2_1)]) (hm.ow_rep 9 rfl) hx2_2 rfl).cell (j := 0) rfl) rfl) (gA rfl (gA rfl (gE (gR (gF fo_61_4 rfl (gL hm 6 isAgg47 rfl (gM rfl (gM rfl (gM rfl (gY (yG rfl (y_lookI (key := x2_1) (m := (xs0_1 : MapS Int)) underlying3 underlying69 zeroValue3 (hm.owm_rep 2 rfl) rfl rfl rfl)) ?_)))))))))))
    have hL2_2 := rep_slice_len (hm.ow_rep 9 rfl)
    refine gI st_47 h2_1 (idx_lt2 hx2_2 hL2_2) rfl (gf0 rfl (fun a hf => e_setElem (x1 := ((MapS.get xs0_1 x2_1).getD 0)) (j := 0) (vs := [(nV (((MapS.get xs0_1 x2_1).getD 0)))]) 9 hf hm rfl hx2_2 rfl sizeOf3 rfl rfl rfl (one_cons rfl one_nil) rfl rfl) ?_)
    rintro _ w hm
    have hx2_3 := List.getElem?_set_self (a := ((MapS.get xs0_1 x2_1).getD 0)) (idx_lt hx2_2)
    exact gE (gR (gP (by omega) (by omega) rfl (gM rfl (gE (gze hm [0, 1, 2, 3, 4, 5, 6, 7, 8, 9] rfl)))))
   repeat clear hm
   intro i1_3 xs1_3 w hm hi1_3 hi1_4
   refine gS (gR (gB rfl (gE (gS (go _ 62 rfl (decide_eq_false (by omega)) (gcf rfl (gXt (gHh (gS (gS (gR (gM rfl (gM rfl (gg fun x1_4 h1_7 hx1_9 => ?_))))))))))))))
   obtain ⟨b1_5, o1_4, c1_8, he⟩ := idx_form' hz_r0_1 hx1_9
   subst he
   obtain ⟨_, _, hc1_2, hr1_1⟩ := ro_get' hz_r0_1 hx1_9
   have h1_8 := hr1_1
   obtain ⟨v1_9, rfl, -⟩ := id h1_8
   replace h1_8 : GT.rep hz0_2 [v1_9] x1_4 := h1_8
   replace hc1_2 : CellsAt hz0_2 b1_5 (o1_4 + (x1_2).toNat * 1) [v1_9] := hc1_2
   refine gI st_64 h1_7 (idx_lt hx1_9) rfl (gY (yl isAgg68 ((hc1_2.mono hm.lez).cell (j := 0) rfl) rfl) ?_)
   obtain ⟨p1_5, c1_9, rfl, hl1_5⟩ := ro_slice h1_8
   refine gY (yV st_68 rfl) (gM rfl (gE (gBk (gNf hm (fun i2_2 xs2_2 => [(2, (pV b0_1)), (4, (pV b0_2)), (5, v0_1), (8, (sV b1_5 o1_4 r0_2.length c1_8)), (9, (pV b0_3)), (10, (.slice p0_2 ys0_1.length c0_2)), (11, (nV i1_2)), (13, (pV b1_4)), (45, (sV b1_2 o1_2 order.length c0_1)), (46, (nV ((order.length : Int)))), (47, (nV i1_2)), (77, (.slice p1_5 x1_4.length c1_9)), (78, (nV ((x1_4.length : Int)))), (79, (nV i2_2))]) (fun i2_2 xs2_2 => [blk b0_1 [(nV c_.params), (nV c_.regs), (sV b1_3 o1_3 c_.blocks.length c1_3)] 45, blk b0_2 [(nV 0), (nV 0), (.slice none 0 0)] 45, owm v0_1 xs0_1, blk b0_3 [(nV c_.params), (nV c_.regs), (.slice p1_2 xs1_2.1.length c1_5)] 45, ow [(.slice p1_2 xs1_2.1.length c1_5)] xs1_2.1, ow [(.slice p0_2 ys0_1.length c0_2)] xs2_2, blk b1_4 [(.slice p1_3 r1_1.phis.length c1_6), (.slice p1_4 r1_1.ins.length c1_7), (nV r1_1.jump), (nV r1_1.on), (.slice p1_1 r1_1.next_.length c1_4)] 61, ow [(.slice p1_3 r1_1.phis.length c1_6)] r1_1.phis, ow [(.slice p1_4 r1_1.ins.length c1_7)] r1_1.ins, ow [(.slice p1_1 r1_1.next_.length c1_4)] xs1_3]) [0, 1, 2, 3, 4, 5, 6, 7, 8, 9] rfl ?_ ?_))))
   ·
    repeat clear hm
    intro _ _ i2_2 xs2_2 w hm hi1_5 hi1_6 q1_2 _
    refine gS (gR (gB rfl (gE (gS (go _ 80 rfl (decide_eq_true (by omega)) (gct rfl (gSk (gS (gBk (gS (gR (gg fun x2_2 h2_2 hx2_5 => ?_))))))))))))
    obtain ⟨b2_2, o2_2, c2_2, he⟩ := idx_form' h1_8 hx2_5
    simp only [Value.slice.injEq, Option.some.injEq] at he; obtain ⟨rfl, _, rfl⟩ := he
    obtain ⟨_, _, hc2_1, hr2_1⟩ := ro_get' h1_8 hx2_5
    have h2_3 := hr2_1
    obtain ⟨v2_1, rfl, -⟩ := id h2_3
    replace h2_3 : GT.rep hz0_2 [v2_1] x2_2 := h2_3
    replace hc2_1 : CellsAt hz0_2 b2_2 (o2_2 + (i2_2).toNat * 1) [v2_1] := hc2_1
    refine gI st_68 h2_2 (idx_lt hx2_5) rfl (gY (yl isAgg69 ((hc2_1.mono hm.lez).cell (j := 0) rfl) rfl) (gA rfl (gE (gS (gR (gf rfl (fun a hf => e_mkM (β := Int) hm rfl) ?_))))))
    rintro v2_2 w hm
    refine gA rfl (gE (gS (gS (gR (gM rfl (gf rfl (fun a hf => e_rangeS (m := (x2_2 : MapS Int)) hf hm underlying69 h2_3 rfl rfl) ?_))))))
    rintro _ w ⟨b2_3, rfl, hm⟩
    refine gE (gJ hm (fun s2_1 => [(2, (pV b0_1)), (4, (pV b0_2)), (5, v0_1), (8, (sV b1_5 o1_4 r0_2.length c1_8)), (9, (pV b0_3)), (10, (.slice p0_2 ys0_1.length c0_2)), (11, (nV i1_2)), (13, (pV b1_4)), (18, v2_2), (45, (sV b1_2 o1_2 order.length c0_1)), (46, (nV ((order.length : Int)))), (47, (nV i1_2)), (77, (sV b2_2 o2_2 x1_4.length c1_9)), (78, (nV ((x1_4.length : Int)))), (79, (nV i2_2))]) (fun s2_1 => [blk b0_1 [(nV c_.params), (nV c_.regs), (sV b1_3 o1_3 c_.blocks.length c1_3)] 45, blk b0_2 [(nV 0), (nV 0), (.slice none 0 0)] 45, owm v0_1 xs0_1, blk b0_3 [(nV c_.params), (nV c_.regs), (.slice p1_2 xs1_2.1.length c1_5)] 45, ow [(.slice p1_2 xs1_2.1.length c1_5)] xs1_2.1, ow [(.slice p0_2 ys0_1.length c0_2)] xs2_2, blk b1_4 [(.slice p1_3 r1_1.phis.length c1_6), (.slice p1_4 r1_1.ins.length c1_7), (nV r1_1.jump), (nV r1_1.on), (.slice p1_1 r1_1.next_.length c1_4)] 61, ow [(.slice p1_3 r1_1.phis.length c1_6)] r1_1.phis, ow [(.slice p1_4 r1_1.ins.length c1_7)] r1_1.ins, ow [(.slice p1_1 r1_1.next_.length c1_4)] xs1_3, owm v2_2 s2_1]) (fun s2_1 => ?_) ?_)
    ·
     refine gBk (gb fun _ hgn3_1 => gRngOn (m := (x2_2 : MapS Int)) (comm_injv (guardN_some hgn3_1) (fun x => x) (fun p s => by first | (dsimp only; split <;> rfl) | (split <;> rfl))) h2_3 (fun sn4_1 xs4_1 a w => St 122 [(2, (pV b0_1)), (4, (pV b0_2)), (5, v0_1), (8, (sV b1_5 o1_4 r0_2.length c1_8)), (9, (pV b0_3)), (10, (.slice p0_2 ys0_1.length c0_2)), (11, (nV i1_2)), (13, (pV b1_4)), (18, v2_2), (45, (sV b1_2 o1_2 order.length c0_1)), (46, (nV ((order.length : Int)))), (47, (nV i1_2)), (77, (sV b2_2 o2_2 x1_4.length c1_9)), (78, (nV ((x1_4.length : Int)))), (79, (nV i2_2)), (85, (pV b2_3))] w0 hz0_2 [blk b0_1 [(nV c_.params), (nV c_.regs), (sV b1_3 o1_3 c_.blocks.length c1_3)] 45, blk b0_2 [(nV 0), (nV 0), (.slice none 0 0)] 45, owm v0_1 xs0_1, blk b0_3 [(nV c_.params), (nV c_.regs), (.slice p1_2 xs1_2.1.length c1_5)] 45, ow [(.slice p1_2 xs1_2.1.length c1_5)] xs1_2.1, ow [(.slice p0_2 ys0_1.length c0_2)] xs2_2, blk b1_4 [(.slice p1_3 r1_1.phis.length c1_6), (.slice p1_4 r1_1.ins.length c1_7), (nV r1_1.jump), (nV r1_1.on), (.slice p1_1 r1_1.next_.length c1_4)] 61, ow [(.slice p1_3 r1_1.phis.length c1_6)] r1_1.phis, ow [(.slice p1_4 r1_1.ins.length c1_7)] r1_1.ins, ow [(.slice p1_1 r1_1.next_.length c1_4)] xs1_3, owm v2_2 xs4_1, itc hz0_2 v2_1 b2_3 sn4_1] a w) (fun a hf => ⟨hf.sb rfl, hm.pk [2, 3, 4, 5, 6, 7, 8, 9, 10, 11, 1, 0] rfl rfl⟩) ?_ ?_)
     ·
      repeat clear hm
      rintro sn4_1 xs4_1 a w ⟨hf, hm⟩ hmo
      refine gv (m := some ()) (r := ()) hf ?_ rfl
      refine gS (gR (gf rfl (fun a hf => e_nextS 11 hf hm rfl hmo rfl rfl) ?_))
      rintro _ w ⟨bn4_1, p4_1, s4_1, rfl, hb4_1, hg4_1, hm⟩
      refine gSw hb4_1 (gX rfl (gE (gS (gct rfl (gSk (gJ hm (fun s4_2 => [(2, (pV b0_1)), (4, (pV b0_2)), (5, v0_1), (8, (sV b1_5 o1_4 r0_2.length c1_8)), (9, (pV b0_3)), (10, (.slice p0_2 ys0_1.length c0_2)), (11, (nV i1_2)), (13, (pV b1_4)), (18, v2_2), (45, (sV b1_2 o1_2 order.length c0_1)), (46, (nV ((order.length : Int)))), (47, (nV i1_2)), (77, (sV b2_2 o2_2 x1_4.length c1_9)), (78, (nV ((x1_4.length : Int)))), (79, (nV i2_2)), (85, (pV b2_3))]) (fun s4_2 => [blk b0_1 [(nV c_.params), (nV c_.regs), (sV b1_3 o1_3 c_.blocks.length c1_3)] 45, blk b0_2 [(nV 0), (nV 0), (.slice none 0 0)] 45, owm v0_1 xs0_1, blk b0_3 [(nV c_.params), (nV c_.regs), (.slice p1_2 xs1_2.1.length c1_5)] 45, ow [(.slice p1_2 xs1_2.1.length c1_5)] xs1_2.1, ow [(.slice p0_2 ys0_1.length c0_2)] xs2_2, blk b1_4 [(.slice p1_3 r1_1.phis.length c1_6), (.slice p1_4 r1_1.ins.length c1_7), (nV r1_1.jump), (nV r1_1.on), (.slice p1_1 r1_1.next_.length c1_4)] 61, ow [(.slice p1_3 r1_1.phis.length c1_6)] r1_1.phis, ow [(.slice p1_4 r1_1.ins.length c1_7)] r1_1.ins, ow [(.slice p1_1 r1_1.next_.length c1_4)] xs1_3, owm v2_2 s4_2, itc hz0_2 v2_1 b2_3 (Array.push sn4_1 bn4_1)]) (fun s4_2 => ?_) ?_))))))
      ·
       refine gBk (gS (gR (gY (yG rfl (y_entryS 11 hm rfl hg4_1 rfl rfl)) (gX rfl (gX rfl (gA rfl (gA rfl (gE (gS (gR (gM rfl (gM rfl (gY (yG rfl (y_lookI2 (key := p4_1.1) (m := (xs0_1 : MapS Int)) underlying3 underlying69 zeroValue3 (hm.owm_rep 2 rfl) rfl rfl rfl)) (gM rfl (gX rfl (gX rfl (gA rfl (gA rfl (gE (gS (gR (gM rfl (gE (gJ hm (fun s5_1 => [(2, (pV b0_1)), (4, (pV b0_2)), (5, v0_1), (8, (sV b1_5 o1_4 r0_2.length c1_8)), (9, (pV b0_3)), (10, (.slice p0_2 ys0_1.length c0_2)), (11, (nV i1_2)), (13, (pV b1_4)), (18, v2_2), (45, (sV b1_2 o1_2 order.length c0_1)), (46, (nV ((order.length : Int)))), (47, (nV i1_2)), (77, (sV b2_2 o2_2 x1_4.length c1_9)), (78, (nV ((x1_4.length : Int)))), (79, (nV i2_2)), (85, (pV b2_3))]) (fun s5_1 => [blk b0_1 [(nV c_.params), (nV c_.regs), (sV b1_3 o1_3 c_.blocks.length c1_3)] 45, blk b0_2 [(nV 0), (nV 0), (.slice none 0 0)] 45, owm v0_1 xs0_1, blk b0_3 [(nV c_.params), (nV c_.regs), (.slice p1_2 xs1_2.1.length c1_5)] 45, ow [(.slice p1_2 xs1_2.1.length c1_5)] xs1_2.1, ow [(.slice p0_2 ys0_1.length c0_2)] xs2_2, blk b1_4 [(.slice p1_3 r1_1.phis.length c1_6), (.slice p1_4 r1_1.ins.length c1_7), (nV r1_1.jump), (nV r1_1.on), (.slice p1_1 r1_1.next_.length c1_4)] 61, ow [(.slice p1_3 r1_1.phis.length c1_6)] r1_1.phis, ow [(.slice p1_4 r1_1.ins.length c1_7)] r1_1.ins, ow [(.slice p1_1 r1_1.next_.length c1_4)] xs1_3, owm v2_2 s5_1, itc hz0_2 v2_1 b2_3 (Array.push sn4_1 bn4_1)]) (fun s5_1 => ?_) ?_))))))))))))))))))))))))
       ·
        refine gs 97 rfl (fun h6_1 => ?_) fun h6_1 => ?_
        ·
         refine gct rfl (gR (gM rfl (gM rfl (gM rfl (gf0 rfl (fun a hf => e_insM (β := Int) (key := ((MapS.get xs0_1 p4_1.1).getD 0)) (u := p4_1.2) (b := false) 10 underlying3 underlying69 hf hm rfl rfl rfl rfl rfl) ?_)))))
         rintro _ w hm
         exact gE (gz hm [0, 1, 2, 3, 4, 5, 6, 7, 8, 9, 10, 11] rfl)
        exact gcf rfl (gSk (gz hm [0, 1, 2, 3, 4, 5, 6, 7, 8, 9, 10, 11] rfl))
       repeat clear hm
       intro s5_1 w hm
       exact gz hm [0, 1, 2, 3, 4, 5, 6, 7, 8, 9, 10, 11] rfl
      repeat clear hm
      intro s4_2 w hm
      exact gZr hg4_1 hb4_1 fun a hf => ⟨hf.sb rfl, hm.pk [0, 1, 2, 3, 4, 5, 6, 7, 8, 9, 10, 11] rfl rfl⟩
     repeat clear hm
     rintro sn3_1 xs3_1 a w ⟨hf, hm⟩ hno hk
     refine gv hf ?_ hk
     exact gS (gR (gY (yG rfl (y_nextE 11 hm rfl hno rfl rfl)) (gX rfl (gE (gS (gcf rfl (gXt (gHh (gz hm [0, 1, 2, 3, 4, 5, 6, 7, 8, 9, 10] rfl)))))))))
    repeat clear hm
    intro s2_1 w hm
    refine gR (gM rfl (gM rfl (gM rfl (gM rfl (gg fun x2_3 h2_4 hx2_7 => ?_)))))
    obtain ⟨b2_4, o2_3, c2_3, he⟩ := idx_form' (hm.ow_rep 5 rfl) hx2_7
    simp only [Value.slice.injEq, Option.some.injEq] at he; obtain ⟨rfl, _, rfl⟩ := he
    obtain ⟨_, _, hc2_2, hr2_2⟩ := ro_get' (hm.ow_rep 5 rfl) hx2_7
    have h2_5 := hr2_2
    obtain ⟨v2_3, rfl, -⟩ := id h2_5
    replace h2_5 : GT.rep (hp _) [v2_3] x2_3 := h2_5
    replace hc2_2 : CellsAt (hp _) b2_4 (o2_3 + (i1_2).toNat * 1) [v2_3] := hc2_2
    have hL2_3 := rep_slice_len (hm.ow_rep 5 rfl)
    refine gI st_64 h2_4 (idx_lt2 hx2_7 hL2_3) rfl ?_
    obtain ⟨_, hc2_3, hm⟩ := hm.openE 5 rfl hx2_7
    have hr2_3 := hm.ow_rep 0 rfl
    have h2_6 := hr2_3
    obtain ⟨v2_4, rfl, -⟩ := id h2_6
    replace h2_6 : GT.rep (hp _) [v2_4] x2_3 := h2_6
    clear hc2_3 h2_6
    replace hm : Mem w0 hz0_2 _ [ow [v2_4] (x2_3 : List (MapS Int)), blk b0_1 [(nV c_.params), (nV c_.regs), (sV b1_3 o1_3 c_.blocks.length c1_3)] 45, blk b0_2 [(nV 0), (nV 0), (.slice none 0 0)] 45, owm v0_1 xs0_1, blk b0_3 [(nV c_.params), (nV c_.regs), (.slice p1_2 xs1_2.1.length c1_5)] 45, ow [(.slice p1_2 xs1_2.1.length c1_5)] xs1_2.1, holeE b2_4 o2_3 ys0_1.length c0_2 (xs2_2 : List (List (MapS Int))) (i1_2).toNat [v2_4], blk b1_4 [(.slice p1_3 r1_1.phis.length c1_6), (.slice p1_4 r1_1.ins.length c1_7), (nV r1_1.jump), (nV r1_1.on), (.slice p1_1 r1_1.next_.length c1_4)] 61, ow [(.slice p1_3 r1_1.phis.length c1_6)] r1_1.phis, ow [(.slice p1_4 r1_1.ins.length c1_7)] r1_1.ins, ow [(.slice p1_1 r1_1.next_.length c1_4)] xs1_3, owm v2_2 s2_1] := hm
    replace hm := hm.pk (L' := [ow [v2_4] x2_3, blk b0_1 [(nV c_.params), (nV c_.regs), (sV b1_3 o1_3 c_.blocks.length c1_3)] 45, blk b0_2 [(nV 0), (nV 0), (.slice none 0 0)] 45, owm v0_1 xs0_1, blk b0_3 [(nV c_.params), (nV c_.regs), (.slice p1_2 xs1_2.1.length c1_5)] 45, ow [(.slice p1_2 xs1_2.1.length c1_5)] xs1_2.1, holeE b2_4 o2_3 ys0_1.length c0_2 (xs2_2 : List (List (MapS Int))) (i1_2).toNat [v2_4], blk b1_4 [(.slice p1_3 r1_1.phis.length c1_6), (.slice p1_4 r1_1.ins.length c1_7), (nV r1_1.jump), (nV r1_1.on), (.slice p1_1 r1_1.next_.length c1_4)] 61, ow [(.slice p1_3 r1_1.phis.length c1_6)] r1_1.phis, ow [(.slice p1_4 r1_1.ins.length c1_7)] r1_1.ins, ow [(.slice p1_1 r1_1.next_.length c1_4)] xs1_3, owm v2_2 s2_1]) [0, 1, 2, 3, 4, 5, 6, 7, 8, 9, 10, 11] rfl rfl
    refine gY (yl isAgg68 ((hm.holeE_at 6 rfl).cell (j := 0) rfl) rfl) (gM rfl ?_)
    obtain ⟨m2_1, he⟩ := owm_form hm 11 rfl
    subst he
    refine gf rfl (fun a hf => e_build (vs := #[(0, (.map (some m2_1)))]) (cs := [(.map (some m2_1))]) et_68 hf hm rfl rfl (by kernel_rfl) rfl rfl) ?_
    rintro _ w ⟨b2_5, rfl, hm⟩
    replace hm := hm.els_nil (α := MapS Int)
    have hcl2_1 := owm_cells hm 13 rfl
    replace hm := hm.imp (c' := ow [(.map (some m2_1))] (s2_1 : MapS Int)) 13 rfl (fun F h0 => own_owm h0)
    replace hm := hm.imp (c' := ow [(.map (some m2_1))] (s2_1 : MapS Int)) 13 rfl (fun F h0 => h0)
    replace hm := (hm.els_cons 0 13 (by decide) rfl rfl).pk (L' := [els [(.map (some m2_1))] ([s2_1] : List (MapS Int)), blk b2_5 [(.map (some m2_1))] 69, ow [v2_4] x2_3, blk b0_1 [(nV c_.params), (nV c_.regs), (sV b1_3 o1_3 c_.blocks.length c1_3)] 45, blk b0_2 [(nV 0), (nV 0), (.slice none 0 0)] 45, owm v0_1 xs0_1, blk b0_3 [(nV c_.params), (nV c_.regs), (.slice p1_2 xs1_2.1.length c1_5)] 45, ow [(.slice p1_2 xs1_2.1.length c1_5)] xs1_2.1, holeE b2_4 o2_3 ys0_1.length c0_2 (xs2_2 : List (List (MapS Int))) (i1_2).toNat [v2_4], blk b1_4 [(.slice p1_3 r1_1.phis.length c1_6), (.slice p1_4 r1_1.ins.length c1_7), (nV r1_1.jump), (nV r1_1.on), (.slice p1_1 r1_1.next_.length c1_4)] 61, ow [(.slice p1_3 r1_1.phis.length c1_6)] r1_1.phis, ow [(.slice p1_4 r1_1.ins.length c1_7)] r1_1.ins, ow [(.slice p1_1 r1_1.next_.length c1_4)] xs1_3]) [0, 1, 2, 3, 4, 5, 6, 7, 8, 9, 10, 11, 12] rfl rfl
    replace hm := (hm.lit_els 1 0 (by decide) rfl rfl rfl rfl).pk (L' := [ow [(sV b2_5 0 1 1)] ([s2_1] : List (MapS Int)), ow [v2_4] x2_3, blk b0_1 [(nV c_.params), (nV c_.regs), (sV b1_3 o1_3 c_.blocks.length c1_3)] 45, blk b0_2 [(nV 0), (nV 0), (.slice none 0 0)] 45, owm v0_1 xs0_1, blk b0_3 [(nV c_.params), (nV c_.regs), (.slice p1_2 xs1_2.1.length c1_5)] 45, ow [(.slice p1_2 xs1_2.1.length c1_5)] xs1_2.1, holeE b2_4 o2_3 ys0_1.length c0_2 (xs2_2 : List (List (MapS Int))) (i1_2).toNat [v2_4], blk b1_4 [(.slice p1_3 r1_1.phis.length c1_6), (.slice p1_4 r1_1.ins.length c1_7), (nV r1_1.jump), (nV r1_1.on), (.slice p1_1 r1_1.next_.length c1_4)] 61, ow [(.slice p1_3 r1_1.phis.length c1_6)] r1_1.phis, ow [(.slice p1_4 r1_1.ins.length c1_7)] r1_1.ins, ow [(.slice p1_1 r1_1.next_.length c1_4)] xs1_3]) [1, 2, 3, 4, 5, 6, 7, 8, 9, 10, 11, 12] rfl rfl
    refine gb fun ys2_1 hx2_8 => ?_
    obtain ⟨h2_7, h2_7e⟩ := appM_some.1 hx2_8
    replace hm := (hm.both 1 0 (by decide) rfl rfl).pk (L' := [both (ow [v2_4] x2_3) (ow [(sV b2_5 0 1 1)] ([s2_1] : List (MapS Int))), blk b0_1 [(nV c_.params), (nV c_.regs), (sV b1_3 o1_3 c_.blocks.length c1_3)] 45, blk b0_2 [(nV 0), (nV 0), (.slice none 0 0)] 45, owm v0_1 xs0_1, blk b0_3 [(nV c_.params), (nV c_.regs), (.slice p1_2 xs1_2.1.length c1_5)] 45, ow [(.slice p1_2 xs1_2.1.length c1_5)] xs1_2.1, holeE b2_4 o2_3 ys0_1.length c0_2 (xs2_2 : List (List (MapS Int))) (i1_2).toNat [v2_4], blk b1_4 [(.slice p1_3 r1_1.phis.length c1_6), (.slice p1_4 r1_1.ins.length c1_7), (nV r1_1.jump), (nV r1_1.on), (.slice p1_1 r1_1.next_.length c1_4)] 61, ow [(.slice p1_3 r1_1.phis.length c1_6)] r1_1.phis, ow [(.slice p1_4 r1_1.ins.length c1_7)] r1_1.ins, ow [(.slice p1_1 r1_1.next_.length c1_4)] xs1_3]) [1, 2, 3, 4, 5, 6, 7, 8, 9, 10, 11] rfl rfl
    refine gf rfl (fun a hf => e_appendD (xs := x2_3) (ys := ([s2_1] : List (MapS Int))) 0 et_68 hf hm rfl rfl rfl rfl h2_7) ?_
    rintro v2_5 w hm
    rw [h2_7e] at hm
    have hL2_4 := hm.holeE_len 6 rfl
    refine gI st_64 h2_4 (idx_lt2 hx2_7 hL2_4) rfl ?_
    have h12_1 : ∀ u ∈ ([v2_5] : List Value), u.oneCell' = true := (one_cons (rep_one (hm.ow_rep 0 rfl)) one_nil)
    refine gf0 rfl (fun a hf => e_storeH (j := 0) (vs := [v2_5]) 6 hf hm rfl rfl rfl sizeOf68 rfl rfl (cells_one (h12_1 _ (List.mem_singleton.2 rfl))) h12_1 rfl) ?_
    rintro _ w hm
    replace hm : Mem w0 hz0_2 _ [ow [v2_5] ys2_1, blk b0_1 [(nV c_.params), (nV c_.regs), (sV b1_3 o1_3 c_.blocks.length c1_3)] 45, blk b0_2 [(nV 0), (nV 0), (.slice none 0 0)] 45, owm v0_1 xs0_1, blk b0_3 [(nV c_.params), (nV c_.regs), (.slice p1_2 xs1_2.1.length c1_5)] 45, ow [(.slice p1_2 xs1_2.1.length c1_5)] xs1_2.1, holeE b2_4 o2_3 ys0_1.length c0_2 (xs2_2 : List (List (MapS Int))) (i1_2).toNat [v2_5], blk b1_4 [(.slice p1_3 r1_1.phis.length c1_6), (.slice p1_4 r1_1.ins.length c1_7), (nV r1_1.jump), (nV r1_1.on), (.slice p1_1 r1_1.next_.length c1_4)] 61, ow [(.slice p1_3 r1_1.phis.length c1_6)] r1_1.phis, ow [(.slice p1_4 r1_1.ins.length c1_7)] r1_1.ins, ow [(.slice p1_1 r1_1.next_.length c1_4)] xs1_3] := hm
    refine gE ?_
    replace hm := hm.imp (c' := ow [v2_5] (ys2_1 : List (MapS Int))) 0 rfl (fun F h0 => h0)
    replace hm := (hm.shutE (y := (ys2_1 : List (MapS Int))) 6 0 (by decide) rfl rfl).pk (L' := [blk b0_1 [(nV c_.params), (nV c_.regs), (sV b1_3 o1_3 c_.blocks.length c1_3)] 45, blk b0_2 [(nV 0), (nV 0), (.slice none 0 0)] 45, owm v0_1 xs0_1, blk b0_3 [(nV c_.params), (nV c_.regs), (.slice p1_2 xs1_2.1.length c1_5)] 45, ow [(.slice p1_2 xs1_2.1.length c1_5)] xs1_2.1, ow [(sV b2_4 o2_3 ys0_1.length c0_2)] (xs2_2.set (i1_2).toNat ys2_1), blk b1_4 [(.slice p1_3 r1_1.phis.length c1_6), (.slice p1_4 r1_1.ins.length c1_7), (nV r1_1.jump), (nV r1_1.on), (.slice p1_1 r1_1.next_.length c1_4)] 61, ow [(.slice p1_3 r1_1.phis.length c1_6)] r1_1.phis, ow [(.slice p1_4 r1_1.ins.length c1_7)] r1_1.ins, ow [(.slice p1_1 r1_1.next_.length c1_4)] xs1_3]) [1, 2, 3, 4, 5, 6, 7, 8, 9, 10] rfl rfl
    have hx2_9 := List.getElem?_set_self (a := (ys2_1 : List (MapS Int))) (idx_lt hx2_7)
    exact gR (gP (by omega) (by omega) rfl (gM rfl (gE (gze hm [0, 1, 2, 3, 4, 5, 6, 7, 8, 9] rfl))))
   repeat clear hm
   intro i1_4 xs1_4 w hm hi1_7 hi1_8
   refine gS (gR (gB rfl (gE (gS (go _ 80 rfl (decide_eq_false (by omega)) (gcf rfl (gXt (gHh (gR (gF fo_45_2 rfl (gL hm 3 isAgg43 rfl (gY (yn (hm.blk_at 6 rfl) isAgg61 sizeOf61 rfl) (gf rfl (fun a hf => e_build (vs := #[(0, (.agg #[(.slice p1_3 r1_1.phis.length c1_6), (.slice p1_4 r1_1.ins.length c1_7), (nV r1_1.jump), (nV r1_1.on), (.slice p1_1 r1_1.next_.length c1_4)]))]) (cs := [(.slice p1_3 r1_1.phis.length c1_6), (.slice p1_4 r1_1.ins.length c1_7), (nV r1_1.jump), (nV r1_1.on), (.slice p1_1 r1_1.next_.length c1_4)]) et_43 hf hm rfl rfl (by kernel_rfl) rfl rfl) ?_)))))))))))))
   rintro _ w ⟨b1_6, rfl, hm⟩
   replace hm := hm.els_nil (α := Block_)
   replace hm := (mk_Block_ r1_1.jump r1_1.on hm 9 10 11 rfl).pk (L' := [els [] ([] : List Block_), blk b1_6 [(.slice p1_3 r1_1.phis.length c1_6), (.slice p1_4 r1_1.ins.length c1_7), (nV r1_1.jump), (nV r1_1.on), (.slice p1_1 r1_1.next_.length c1_4)] 61, blk b0_1 [(nV c_.params), (nV c_.regs), (sV b1_3 o1_3 c_.blocks.length c1_3)] 45, blk b0_2 [(nV 0), (nV 0), (.slice none 0 0)] 45, owm v0_1 xs0_1, blk b0_3 [(nV c_.params), (nV c_.regs), (.slice p1_2 xs1_2.1.length c1_5)] 45, ow [(.slice p1_2 xs1_2.1.length c1_5)] xs1_2.1, ow [(.slice p0_2 ys0_1.length c0_2)] xs1_4, blk b1_4 [(.slice p1_3 r1_1.phis.length c1_6), (.slice p1_4 r1_1.ins.length c1_7), (nV r1_1.jump), (nV r1_1.on), (.slice p1_1 r1_1.next_.length c1_4)] 61, ow [(.slice p1_3 r1_1.phis.length c1_6), (.slice p1_4 r1_1.ins.length c1_7), (nV r1_1.jump), (nV r1_1.on), (.slice p1_1 r1_1.next_.length c1_4)] ((⟨r1_1.phis, r1_1.ins, r1_1.jump, r1_1.on, xs1_3⟩ : Block_) : Block_)]) [0, 1, 2, 3, 4, 5, 6, 7, 8, 9] rfl rfl
   replace hm := (hm.els_cons 0 9 (by decide) rfl rfl).pk (L' := [els [(.slice p1_3 r1_1.phis.length c1_6), (.slice p1_4 r1_1.ins.length c1_7), (nV r1_1.jump), (nV r1_1.on), (.slice p1_1 r1_1.next_.length c1_4)] ([(⟨r1_1.phis, r1_1.ins, r1_1.jump, r1_1.on, xs1_3⟩ : Block_)] : List Block_), blk b1_6 [(.slice p1_3 r1_1.phis.length c1_6), (.slice p1_4 r1_1.ins.length c1_7), (nV r1_1.jump), (nV r1_1.on), (.slice p1_1 r1_1.next_.length c1_4)] 61, blk b0_1 [(nV c_.params), (nV c_.regs), (sV b1_3 o1_3 c_.blocks.length c1_3)] 45, blk b0_2 [(nV 0), (nV 0), (.slice none 0 0)] 45, owm v0_1 xs0_1, blk b0_3 [(nV c_.params), (nV c_.regs), (.slice p1_2 xs1_2.1.length c1_5)] 45, ow [(.slice p1_2 xs1_2.1.length c1_5)] xs1_2.1, ow [(.slice p0_2 ys0_1.length c0_2)] xs1_4, blk b1_4 [(.slice p1_3 r1_1.phis.length c1_6), (.slice p1_4 r1_1.ins.length c1_7), (nV r1_1.jump), (nV r1_1.on), (.slice p1_1 r1_1.next_.length c1_4)] 61]) [0, 1, 2, 3, 4, 5, 6, 7, 8] rfl rfl
   replace hm := (hm.lit_els 1 0 (by decide) rfl rfl rfl rfl).pk (L' := [ow [(sV b1_6 0 1 1)] ([(⟨r1_1.phis, r1_1.ins, r1_1.jump, r1_1.on, xs1_3⟩ : Block_)] : List Block_), blk b0_1 [(nV c_.params), (nV c_.regs), (sV b1_3 o1_3 c_.blocks.length c1_3)] 45, blk b0_2 [(nV 0), (nV 0), (.slice none 0 0)] 45, owm v0_1 xs0_1, blk b0_3 [(nV c_.params), (nV c_.regs), (.slice p1_2 xs1_2.1.length c1_5)] 45, ow [(.slice p1_2 xs1_2.1.length c1_5)] xs1_2.1, ow [(.slice p0_2 ys0_1.length c0_2)] xs1_4, blk b1_4 [(.slice p1_3 r1_1.phis.length c1_6), (.slice p1_4 r1_1.ins.length c1_7), (nV r1_1.jump), (nV r1_1.on), (.slice p1_1 r1_1.next_.length c1_4)] 61]) [1, 2, 3, 4, 5, 6, 7, 8] rfl rfl
   refine gb fun ys1_1 hx1_10 => ?_
   obtain ⟨h1_9, h1_9e⟩ := appM_some.1 hx1_10
   replace hm := (hm.both 5 0 (by decide) rfl rfl).pk (L' := [blk b0_1 [(nV c_.params), (nV c_.regs), (sV b1_3 o1_3 c_.blocks.length c1_3)] 45, blk b0_2 [(nV 0), (nV 0), (.slice none 0 0)] 45, owm v0_1 xs0_1, blk b0_3 [(nV c_.params), (nV c_.regs), (.slice p1_2 xs1_2.1.length c1_5)] 45, both (ow [(.slice p1_2 xs1_2.1.length c1_5)] xs1_2.1) (ow [(sV b1_6 0 1 1)] ([(⟨r1_1.phis, r1_1.ins, r1_1.jump, r1_1.on, xs1_3⟩ : Block_)] : List Block_)), ow [(.slice p0_2 ys0_1.length c0_2)] xs1_4, blk b1_4 [(.slice p1_3 r1_1.phis.length c1_6), (.slice p1_4 r1_1.ins.length c1_7), (nV r1_1.jump), (nV r1_1.on), (.slice p1_1 r1_1.next_.length c1_4)] 61]) [1, 2, 3, 4, 5, 6, 7] rfl rfl
   refine gf rfl (fun a hf => e_appendD (xs := xs1_2.1) (ys := ([(⟨r1_1.phis, r1_1.ins, r1_1.jump, r1_1.on, xs1_3⟩ : Block_)] : List Block_)) 4 et_43 hf hm rfl rfl rfl rfl h1_9) ?_
   rintro v1_10 w hm
   rw [h1_9e] at hm
   exact gF fo_45_2 rfl (gS1 hm 3 sizeOf43 (rep_one (hm.ow_rep 4 rfl)) rfl fun w hm => gE (gR (gP (by omega) (by omega) rfl (gM rfl (gE (gZe fun a hf => ⟨v1_10, hf.sb rfl, hm.pk [0, 1, 2, 3, 4, 5] rfl rfl⟩))))))
  repeat clear hm
  rintro i0_2 xs0_2 a w ⟨v0_5, hf, hm⟩ hi0_7 hi0_8
  refine gv hf (gS (gR (gB rfl (gE (gS (go _ 48 rfl (decide_eq_false (by omega)) (gcf rfl (gXt (gHh (gS (gR (gM rfl ?_))))))))))))
  obtain ⟨hz0_3, hle, hm1, hsub, hk0_1⟩ := hm.take2 (L1 := [blk b0_3 [(nV c_.params), (nV c_.regs), v0_5] 45, ow [v0_5] xs0_2.1]) (L2 := [blk b0_1 [(nV c_.params), (nV c_.regs), v1] 45, blk b0_2 [(nV 0), (nV 0), (.slice none 0 0)] 45, owm v0_1 xs0_1, ow [(.slice p0_2 ys0_1.length c0_2)] xs0_2.2]) [3, 4] [0, 1, 2, 5] (by decide) rfl rfl
  refine gCg rfl call58 (impl_settle_ok _ hz0_3 (⟨c_.params, c_.regs, xs0_2.1⟩ : Code_) b0_3 v0_5 xs0_2.2 (.slice p0_2 ys0_1.length c0_2) (fz_ow (hsub 3 _ rfl)) hm1 ) ?_
  rintro r0_4 hx0_3 v0_6 w ⟨v0_7, rfl, hB⟩
  replace hm := hk0_1 _ _ hB; clear hB
  refine gE (gS (gR (gY (yn (hm.blk_at 0 rfl) isAgg45 sizeOf45 rfl) (gSN hm 3 sizeOf45 (one_cons rfl (one_cons rfl (one_cons (rep_one (hm.ow_rep 1 rfl)) one_nil))) rfl fun w hm => gE (gRt ?_)))))
  replace hm := hm.thaw hle0_2
  exact grc 3 results41 hm rfl isAgg45 sizeOf45 ⟨v0_7, rfl, hm.pk [1] rfl rfl⟩

theorem impl_reachedOnly_ok (w0 : World) (c_ : Code_) (v1 : Value) (h1 : GT.rep (hp w0) [v1] c_.blocks) :
    ConM Tryz.prog 39 [(.agg #[(nV c_.params), (nV c_.regs), v1])] w0 (impl_reachedOnly c_) fun r v w' => ∃ (x1 : Value), v = (.agg #[(nV r.params), (nV r.regs), x1]) ∧ Mem w0 (hp w0) w' [ow [x1] r.blocks] := by
  unfold impl_reachedOnly
  refine gcon func39 rfl fun r => ?_
  have hm := Mem.start w0
  refine gS (gR (gBx hm rfl fun b0_1 w hm => gAl hm zeroValue45 rfl fun b0_2 w hm => gE (gS (gW (.q 0 (.e 1 (.e 2 (.e 3 (.e 4 .fin .nil) .nil) .nil) .nil)) [1, 2] [] hm [0, 1] [blk b0_2 [(nV 0), (nV 0), (.slice none 0 0)] 45, blk b0_1 [(nV c_.params), (nV c_.regs), v1] 45] rfl mxo (by kernel_rfl) (fun _ _ _ h => h.2) fun w hm hS => tQ rfl hS (fun w hm => yn (hm.blk_at 1 rfl) isAgg45 sizeOf45 rfl) (tO (tY rfl (yn (hm.blk_at 1 rfl) isAgg45 sizeOf45 rfl) (tAs hS (tO (gb fun r0_1 hx0_1 => tf rfl rfl (fun a hf => e_call hf rfl call59 rfl (impl_ReachedIn_ok _ c_ v1 (hm.now h1) _ hx0_1)) ?_)))))))))
  rintro v0_1 w ⟨_, rfl, hB⟩
  replace hm := hm.give hB; clear hB
  refine tAk hm [1, 2] rfl fun hS => tO (gb fun r0_2 hx0_2 => tf rfl rfl (fun a hf => e_call hf rfl call41 rfl (impl_picked_ok _ c_ v1 (hm.now h1) r0_1 v0_1 (hm.ow_rep 0 rfl) _ hx0_2)) ?_)
  rintro v0_3 w ⟨v0_4, rfl, hB⟩
  replace hm := hm.give hB; clear hB
  refine tAn rfl (tO (tf0 rfl rfl (fun a hf => e_storeN 2 hf hm rfl sizeOf45 rfl rfl rfl (one_cons rfl (one_cons rfl (one_cons (rep_one (hm.ow_rep 0 rfl)) one_nil))) rfl rfl) ?_))
  rintro _ w hm
  exact tAn rfl (tE (gRt (grc 2 results39 hm rfl isAgg45 sizeOf45 ⟨v0_4, rfl, hm.pk [0] rfl rfl⟩)))

theorem impl_skipEmpty_ok (w0 : World) (c_ : Code_) (v1 : Value) (h1 : GT.rep (hp w0) [v1] c_.blocks) :
    ConM Tryz.prog 43 [(.agg #[(nV c_.params), (nV c_.regs), v1])] w0 (impl_skipEmpty c_) fun r v w' => ∃ (x1 : Value), v = (.agg #[(nV r.params), (nV r.regs), x1]) ∧ Mem w0 (hp w0) w' [ow [x1] r.blocks] := by
  unfold impl_skipEmpty
  refine gcon func43 rfl fun r => ?_
  have hm := Mem.start w0
  refine gS (gR (gBx hm rfl fun b0_1 w hm => gAl hm zeroValue45 rfl fun b0_2 w hm => gE (gSc (gS (gR (gY (yn (hm.blk_at 1 rfl) isAgg45 sizeOf45 rfl) (gCg rfl call52 (impl_cloneCode_ok _ c_ v1 (hm.now h1)) ?_)))))))
  rintro r0_1 hx0_1 v0_1 w ⟨v0_2, rfl, hB⟩
  replace hm := hm.give hB; clear hB
  refine gSN hm 2 sizeOf45 (one_cons rfl (one_cons rfl (one_cons (rep_one (hm.ow_rep 0 rfl)) one_nil))) rfl fun w hm => gE (gS (gLb ?_))
  obtain ⟨p0_1, c0_1, rfl, hl0_1⟩ := ro_slice (hm.ow_rep 0 rfl)
  refine gBk (gMf hm (fun xs1_1 => [(1, (pV b0_1)), (2, (pV b0_2))]) (fun xs1_1 => [blk b0_1 [(nV r0_1.params), (nV r0_1.regs), (.slice p0_1 r0_1.blocks.length c0_1)] 45, ow [(.slice p0_1 r0_1.blocks.length c0_1)] xs1_1, blk b0_2 [(nV 0), (nV 0), (.slice none 0 0)] 45]) [2, 0, 1] rfl ?_)
  repeat clear hm
  intro r0_2 hq0_1 xs1_1 w hm q0_1 ho0_2
  refine gJe hm (fun s1_1 => [(1, (pV b0_1)), (2, (pV b0_2))]) (fun s1_1 => [blk b0_1 [(nV r0_1.params), (nV r0_1.regs), (.slice p0_1 r0_1.blocks.length c0_1)] 45, ow [(.slice p0_1 r0_1.blocks.length c0_1)] s1_1, blk b0_2 [(nV 0), (nV 0), (.slice none 0 0)] 45]) (fun c1_1 hq1_1 => ?_) ?_
  ·
   refine gBk (gS (gS (gR (gF fo_45_2 rfl (gL hm 0 isAgg43 rfl ?_)))))
   have hl2_1 := rep_len (hm.ow_rep 1 rfl)
   refine gY (yV st_43 rfl) (gM rfl (gE (gBk (gNf hm (fun i3_1 xs3_1 => [(1, (pV b0_1)), (2, (pV b0_2)), (12, (.slice p0_1 r0_1.blocks.length c0_1)), (13, (nV ((r0_1.blocks.length : Int)))), (14, (nV i3_1))]) (fun i3_1 xs3_1 => [blk b0_1 [(nV r0_1.params), (nV r0_1.regs), (.slice p0_1 r0_1.blocks.length c0_1)] 45, ow [(.slice p0_1 r0_1.blocks.length c0_1)] xs1_1, blk b0_2 [(nV 0), (nV 0), (.slice none 0 0)] 45]) [0, 1, 2] rfl ?_ ?_))))
   ·
    repeat clear hm
    intro r2_1 hq2_1 i3_1 xs3_1 w hm hi2_1 hi2_2 q2_1 ho2_1
    refine gS (gR (gB rfl (gE (gS (go _ 15 rfl (decide_eq_true (by omega)) (gct rfl (gSk (gS (gBk (gS (gR (gM rfl (gg fun x3_1 h3_1 hx3_2 => ?_)))))))))))))
    obtain ⟨b3_1, o3_1, c3_1, he⟩ := idx_form' (hm.ow_rep 1 rfl) hx3_2
    simp only [Value.slice.injEq, Option.some.injEq] at he; obtain ⟨rfl, _, rfl⟩ := he
    obtain ⟨v3_1, v3_2, v3_3, hc3_1, h3_2, h3_3, h3_4⟩ := rk_Block_ (hm.ow_rep 1 rfl) hx3_2
    have hL3_1 := rep_slice_len (hm.ow_rep 1 rfl)
    refine gI st_43 h3_1 (idx_lt2 hx3_2 hL3_1) rfl ?_
    obtain ⟨v3_4, v3_5, v3_6, hm⟩ := pin_Block_ hm 1 rfl hx3_2
    refine gY (yn (hm.holeE_at 4 rfl) isAgg61 sizeOf61 rfl) (gAl hm zeroValue61 rfl fun b3_2 w hm => gA rfl (gSN hm 0 sizeOf61 (one_cons (rep_one (hm.ow_rep 3 rfl)) (one_cons (rep_one (hm.ow_rep 2 rfl)) (one_cons rfl (one_cons rfl (one_cons (rep_one (hm.ow_rep 1 rfl)) one_nil))))) rfl fun w hm => gE (gS (gS (gJ hm (fun s3_1 => [(1, (pV b0_1)), (2, (pV b0_2)), (3, (nV i3_1)), (4, (pV b3_2)), (12, (sV b3_1 o3_1 r0_1.blocks.length c0_1)), (13, (nV ((r0_1.blocks.length : Int)))), (14, (nV i3_1)), (50, (.bool (s3_1)))]) (fun s3_1 => [blk b0_1 [(nV r0_1.params), (nV r0_1.regs), (sV b3_1 o3_1 r0_1.blocks.length c0_1)] 45, holeE b3_1 o3_1 r0_1.blocks.length c0_1 (xs1_1 : List Block_) (i3_1).toNat [v3_4, v3_5, (nV x3_1.jump), (nV x3_1.on), v3_6], ow [v3_4] x3_1.phis, ow [v3_5] x3_1.ins, ow [v3_6] x3_1.next_, blk b0_2 [(nV 0), (nV 0), (.slice none 0 0)] 45, blk b3_2 [v3_4, v3_5, (nV x3_1.jump), (nV x3_1.on), v3_6] 61]) (fun s3_1 => ?_) ?_)))))
    ·
     refine gW (.p 1 (.e 0 (.e 2 (.p 3 (.p 4 (.p 5 (.p 9 (.e 6 (.p 7 (.e 8 (.p 10 (.p 11 (.p 12 (.p 13 (.p 15 (.q 14 (.e 16 (.p 17 (.e 18 (.p 19 (.p 20 (.e 21 (.p 22 (.p 23 (.p 24 (.p 25 (.p 27 (.e 26 (.e 28 (.p 29 (.p 30 (.p 31 .fin))) .nil) .nil)))))) .nil))) .nil)) .nil))))))) .nil)) .nil))))) .nil) .nil)) [16, 18] [1, 3, 4, 5, 7, 9, 10, 11, 12, 13, 15, 17, 19, 20, 22, 23, 24, 25, 27, 29, 30, 31] hm [0, 1, 2, 3, 4, 5, 6] [blk b3_2 [v3_4, v3_5, (nV x3_1.jump), (nV x3_1.on), v3_6] 61, ow [v3_6] x3_1.next_, ow [v3_5] x3_1.ins, ow [v3_4] x3_1.phis, blk b0_1 [(nV r0_1.params), (nV r0_1.regs), (sV b3_1 o3_1 r0_1.blocks.length c0_1)] 45, holeE b3_1 o3_1 r0_1.blocks.length c0_1 (xs1_1 : List Block_) (i3_1).toNat [v3_4, v3_5, (nV x3_1.jump), (nV x3_1.on), v3_6], blk b0_2 [(nV 0), (nV 0), (.slice none 0 0)] 45] rfl mxo (by kernel_rfl) (fun _ _ _ h => h.2) fun w hm hS => tP rfl (fun w => yM rfl) (tO (tY rfl (yn (hm.blk_at 4 rfl) isAgg45 sizeOf45 rfl) (tAn rfl (tO ?_))))
     have hmS := hm
     replace hm := (mk_Block_ x3_1.jump x3_1.on hm 3 2 1 rfl).pk (L' := [blk b3_2 [v3_4, v3_5, (nV x3_1.jump), (nV x3_1.on), v3_6] 61, ow [v3_4, v3_5, (nV x3_1.jump), (nV x3_1.on), v3_6] (x3_1 : Block_), blk b0_1 [(nV r0_1.params), (nV r0_1.regs), (sV b3_1 o3_1 r0_1.blocks.length c0_1)] 45, holeE b3_1 o3_1 r0_1.blocks.length c0_1 (xs1_1 : List Block_) (i3_1).toNat [v3_4, v3_5, (nV x3_1.jump), (nV x3_1.on), v3_6], blk b0_2 [(nV 0), (nV 0), (.slice none 0 0)] 45]) [0, 3, 4, 5, 6] rfl rfl
     replace hm := (hm.shutE (y := (x3_1 : Block_)) 3 1 (by decide) rfl rfl).pk (L' := [blk b3_2 [v3_4, v3_5, (nV x3_1.jump), (nV x3_1.on), v3_6] 61, blk b0_1 [(nV r0_1.params), (nV r0_1.regs), (sV b3_1 o3_1 r0_1.blocks.length c0_1)] 45, ow [(sV b3_1 o3_1 r0_1.blocks.length c0_1)] (xs1_1.set (i3_1).toNat x3_1), blk b0_2 [(nV 0), (nV 0), (.slice none 0 0)] 45]) [0, 2, 3, 4] rfl rfl
     rw [set_same hx3_2] at hm
     have hr4_1 := hm.ow_rep 2 rfl
     replace hm := hmS
     refine gb fun r4_1 hx4_1 => tf rfl rfl (fun a hf => e_call hf rfl call64 rfl (impl_isEmpty_ok _ (⟨r0_1.params, r0_1.regs, xs1_1⟩ : Code_) (sV b3_1 o3_1 r0_1.blocks.length c0_1) hr4_1 i3_1 _ hx4_1)) ?_
     rintro v4_1 w ⟨rfl, hB⟩
     replace hm := hm.below' hB; clear hB
     refine tAk hm [0, 1, 2, 3, 4, 5, 6] rfl fun hS => tP rfl (fun w => yN rfl) (tP rfl (fun w => yM rfl) (gsn 23 rfl (fun h4_1 => ?_) fun h4_1 => ?_))
     ·
      refine tPo rfl rfl (tPo rfl rfl (tO (tEo rfl rfl (tAn rfl (tPo rfl rfl (tO (tEo rfl rfl (tAn rfl (tPo rfl rfl (tP rfl (fun w => yKt rfl) (tP rfl (fun w => yM rfl) (tPo rfl rfl (tPo rfl rfl (tQo rfl hS rfl (tO (tEo rfl rfl (tAs hS (tPo rfl rfl (tO (tEo rfl rfl (tAs hS (tPo rfl rfl (tPo rfl rfl (tO (tEo rfl rfl (tAn rfl (tPo rfl rfl (tPo rfl rfl (tP rfl (fun w => yKt rfl) (tP rfl (fun w => yM rfl) ?_))))))))))))))))))))))))))))))
      exact tPo rfl rfl (tO (tEo rfl rfl (tAn rfl (tO (tEo rfl rfl (tAn rfl (tPo rfl rfl (tPo rfl rfl (tP rfl (fun w => yKt rfl) (tE (gz hm [4, 5, 3, 2, 1, 6, 0] rfl)))))))))))
     refine tP rfl (fun w => yF fo_61_4 rfl) (tP rfl (fun w => yM rfl) (tO (tY rfl (yL hm 0 isAgg47 rfl) (tAn rfl (gg fun x4_1 h4_2 hx4_3 => ?_)))))
     obtain ⟨b4_1, o4_1, c4_1, he⟩ := idx_form (hm.ow_rep 1 rfl) hx4_3
     subst he
     refine tP rfl (fun w => yI st_47 h4_2 (idx_lt hx4_3) rfl) (tO (tY rfl (yl isAgg3 ((flat_cells (cs := [(nV x4_1)]) (hm.ow_rep 1 rfl) hx4_3 rfl).cell (j := 0) rfl) rfl) (tAn rfl (tP rfl (fun w => yB rfl) (tP rfl (fun w => yKf rfl) (tP rfl (fun w => yM rfl) (gsd 31 rfl (fun h4_3 => ?_) fun h4_3 => ?_)))))))
     ·
      exact tPo rfl rfl (tPo rfl rfl (tQo rfl hS rfl (tO (tEo rfl rfl (tAs hS (tPo rfl rfl (tO (tEo rfl rfl (tAs hS (tPo rfl rfl (tPo rfl rfl (tO (tEo rfl rfl (tAn rfl (tPo rfl rfl (tPo rfl rfl (tP rfl (fun w => yKt rfl) (tP rfl (fun w => yM rfl) (tPo rfl rfl (tO (tEo rfl rfl (tAn rfl (tO (tEo rfl rfl (tAn rfl (tPo rfl rfl (tPo rfl rfl (tP rfl (fun w => yKt rfl) (tE (gz hm [4, 5, 3, 2, 1, 6, 0] rfl))))))))))))))))))))))))))))))
     refine tP rfl (fun w => yF fo_45_2 rfl) (tP rfl (fun w => yF fo_61_4 rfl) (tQ rfl hS (fun w hm => yL hm 4 isAgg43 rfl) (tO (tY rfl (yL hm 0 isAgg47 rfl) (tAs hS (tP rfl (fun w => yI st_47 h4_2 (idx_lt hx4_3) rfl) (tO (tY rfl (yl isAgg3 ((flat_cells (cs := [(nV x4_1)]) (hm.ow_rep 1 rfl) hx4_3 rfl).cell (j := 0) rfl) rfl) (tAs hS (gg fun x4_2 h4_4 hx4_5 => ?_))))))))))
     have hmS := hm
     replace hm := (mk_Block_ x3_1.jump x3_1.on hm 3 2 1 rfl).pk (L' := [blk b3_2 [v3_4, v3_5, (nV x3_1.jump), (nV x3_1.on), (sV b4_1 o4_1 x3_1.next_.length c4_1)] 61, ow [v3_4, v3_5, (nV x3_1.jump), (nV x3_1.on), (sV b4_1 o4_1 x3_1.next_.length c4_1)] (x3_1 : Block_), blk b0_1 [(nV r0_1.params), (nV r0_1.regs), (sV b3_1 o3_1 r0_1.blocks.length c0_1)] 45, holeE b3_1 o3_1 r0_1.blocks.length c0_1 (xs1_1 : List Block_) (i3_1).toNat [v3_4, v3_5, (nV x3_1.jump), (nV x3_1.on), (sV b4_1 o4_1 x3_1.next_.length c4_1)], blk b0_2 [(nV 0), (nV 0), (.slice none 0 0)] 45]) [0, 3, 4, 5, 6] rfl rfl
     replace hm := (hm.shutE (y := (x3_1 : Block_)) 3 1 (by decide) rfl rfl).pk (L' := [blk b3_2 [v3_4, v3_5, (nV x3_1.jump), (nV x3_1.on), (sV b4_1 o4_1 x3_1.next_.length c4_1)] 61, blk b0_1 [(nV r0_1.params), (nV r0_1.regs), (sV b3_1 o3_1 r0_1.blocks.length c0_1)] 45, ow [(sV b3_1 o3_1 r0_1.blocks.length c0_1)] (xs1_1.set (i3_1).toNat x3_1), blk b0_2 [(nV 0), (nV 0), (.slice none 0 0)] 45]) [0, 2, 3, 4] rfl rfl
     rw [set_same hx3_2] at hm
     have hr4_2 := hm.ow_rep 2 rfl
     replace hm := hmS
     obtain ⟨v4_2, v4_3, v4_4, hc4_1, h4_5, h4_6, h4_7⟩ := rk_Block_ hr4_2 hx4_5
     have hmS := hm
     replace hm := (mk_Block_ x3_1.jump x3_1.on hm 3 2 1 rfl).pk (L' := [blk b3_2 [v3_4, v3_5, (nV x3_1.jump), (nV x3_1.on), (sV b4_1 o4_1 x3_1.next_.length c4_1)] 61, ow [v3_4, v3_5, (nV x3_1.jump), (nV x3_1.on), (sV b4_1 o4_1 x3_1.next_.length c4_1)] (x3_1 : Block_), blk b0_1 [(nV r0_1.params), (nV r0_1.regs), (sV b3_1 o3_1 r0_1.blocks.length c0_1)] 45, holeE b3_1 o3_1 r0_1.blocks.length c0_1 (xs1_1 : List Block_) (i3_1).toNat [v3_4, v3_5, (nV x3_1.jump), (nV x3_1.on), (sV b4_1 o4_1 x3_1.next_.length c4_1)], blk b0_2 [(nV 0), (nV 0), (.slice none 0 0)] 45]) [0, 3, 4, 5, 6] rfl rfl
     replace hm := (hm.shutE (y := (x3_1 : Block_)) 3 1 (by decide) rfl rfl).pk (L' := [blk b3_2 [v3_4, v3_5, (nV x3_1.jump), (nV x3_1.on), (sV b4_1 o4_1 x3_1.next_.length c4_1)] 61, blk b0_1 [(nV r0_1.params), (nV r0_1.regs), (sV b3_1 o3_1 r0_1.blocks.length c0_1)] 45, ow [(sV b3_1 o3_1 r0_1.blocks.length c0_1)] (xs1_1.set (i3_1).toNat x3_1), blk b0_2 [(nV 0), (nV 0), (.slice none 0 0)] 45]) [0, 2, 3, 4] rfl rfl
     rw [set_same hx3_2] at hm
     have hr4_3 := hm.ow_rep 2 rfl
     replace hm := hmS
     have hL4_1 := rep_slice_len hr4_3
     refine tP rfl (fun w => yI st_43 h4_4 (idx_lt2 hx4_5 hL4_1) rfl) (tP rfl (fun w => yF fo_61_0 rfl) (tO (tY rfl (yl isAgg58 (hc4_1.cell (j := 0) rfl) rfl) (tAn rfl ?_))))
     obtain ⟨p4_1, c4_2, rfl, hl4_1⟩ := ro_slice h4_5
     refine tP rfl (fun w => yV st_58 rfl) (tP rfl (fun w => yB rfl) (tP rfl (fun w => yKf rfl) (tP rfl (fun w => yM rfl) (gsd 44 rfl (fun h4_8 => ?_) fun h4_8 => ?_))))
     ·
      exact tPo rfl rfl (tO (tEo rfl rfl (tAn rfl (tO (tEo rfl rfl (tAn rfl (tPo rfl rfl (tPo rfl rfl (tP rfl (fun w => yKt rfl) (tE (gz hm [4, 5, 3, 2, 1, 6, 0] rfl)))))))))))
     refine tP rfl (fun w => yM rfl) (tO (tY rfl (yn (hm.blk_at 4 rfl) isAgg45 sizeOf45 rfl) (tAn rfl (tO ?_))))
     have hmS := hm
     replace hm := (mk_Block_ x3_1.jump x3_1.on hm 3 2 1 rfl).pk (L' := [blk b3_2 [v3_4, v3_5, (nV x3_1.jump), (nV x3_1.on), (sV b4_1 o4_1 x3_1.next_.length c4_1)] 61, ow [v3_4, v3_5, (nV x3_1.jump), (nV x3_1.on), (sV b4_1 o4_1 x3_1.next_.length c4_1)] (x3_1 : Block_), blk b0_1 [(nV r0_1.params), (nV r0_1.regs), (sV b3_1 o3_1 r0_1.blocks.length c0_1)] 45, holeE b3_1 o3_1 r0_1.blocks.length c0_1 (xs1_1 : List Block_) (i3_1).toNat [v3_4, v3_5, (nV x3_1.jump), (nV x3_1.on), (sV b4_1 o4_1 x3_1.next_.length c4_1)], blk b0_2 [(nV 0), (nV 0), (.slice none 0 0)] 45]) [0, 3, 4, 5, 6] rfl rfl
     replace hm := (hm.shutE (y := (x3_1 : Block_)) 3 1 (by decide) rfl rfl).pk (L' := [blk b3_2 [v3_4, v3_5, (nV x3_1.jump), (nV x3_1.on), (sV b4_1 o4_1 x3_1.next_.length c4_1)] 61, blk b0_1 [(nV r0_1.params), (nV r0_1.regs), (sV b3_1 o3_1 r0_1.blocks.length c0_1)] 45, ow [(sV b3_1 o3_1 r0_1.blocks.length c0_1)] (xs1_1.set (i3_1).toNat x3_1), blk b0_2 [(nV 0), (nV 0), (.slice none 0 0)] 45]) [0, 2, 3, 4] rfl rfl
     rw [set_same hx3_2] at hm
     have hr4_4 := hm.ow_rep 2 rfl
     replace hm := hmS
     refine gb fun r4_2 hx4_6 => tf rfl rfl (fun a hf => e_call hf rfl call65 rfl (impl_PredsOf_ok _ (⟨r0_1.params, r0_1.regs, xs1_1⟩ : Code_) (sV b3_1 o3_1 r0_1.blocks.length c0_1) hr4_4 i3_1 _ hx4_6)) ?_
     rintro v4_5 w ⟨_, rfl, hB⟩
     replace hm := hm.give hB; clear hB
     refine tAn rfl ?_
     obtain ⟨p4_2, c4_3, rfl, hl4_2⟩ := ro_slice (hm.ow_rep 0 rfl)
     exact tP rfl (fun w => yV st_47 rfl) (tP rfl (fun w => yB rfl) (tP rfl (fun w => yKf rfl) (tE (gz hm [5, 6, 4, 3, 2, 7, 1] rfl))))
    repeat clear hm
    intro s3_1 w hm
    refine gs 50 rfl (fun h3_5 => ?_) fun h3_5 => ?_
    ·
     refine gct rfl (gXt (gHh ?_))
     replace hm := (mk_Block_ x3_1.jump x3_1.on hm 2 3 4 rfl).pk (L' := [blk b0_1 [(nV r0_1.params), (nV r0_1.regs), (sV b3_1 o3_1 r0_1.blocks.length c0_1)] 45, holeE b3_1 o3_1 r0_1.blocks.length c0_1 (xs1_1 : List Block_) (i3_1).toNat [v3_4, v3_5, (nV x3_1.jump), (nV x3_1.on), v3_6], ow [v3_4, v3_5, (nV x3_1.jump), (nV x3_1.on), v3_6] (x3_1 : Block_), blk b0_2 [(nV 0), (nV 0), (.slice none 0 0)] 45, blk b3_2 [v3_4, v3_5, (nV x3_1.jump), (nV x3_1.on), v3_6] 61]) [0, 1, 2, 5, 6] rfl rfl
     replace hm := (hm.shutE (y := (x3_1 : Block_)) 1 2 (by decide) rfl rfl).pk (L' := [blk b0_1 [(nV r0_1.params), (nV r0_1.regs), (sV b3_1 o3_1 r0_1.blocks.length c0_1)] 45, ow [(sV b3_1 o3_1 r0_1.blocks.length c0_1)] (xs1_1.set (i3_1).toNat x3_1), blk b0_2 [(nV 0), (nV 0), (.slice none 0 0)] 45, blk b3_2 [v3_4, v3_5, (nV x3_1.jump), (nV x3_1.on), v3_6] 61]) [0, 1, 3, 4] rfl rfl
     rw [set_same hx3_2] at hm
     exact gR (gP (by omega) (by omega) rfl (gM rfl (gE (gze hm [0, 1, 2] rfl))))
    refine gcf rfl (gSk (gS (gR (gF fo_61_4 rfl (gL hm 6 isAgg47 rfl (gg fun x3_2 h3_6 hx3_4 => ?_))))))
    obtain ⟨b3_3, o3_2, c3_2, he⟩ := idx_form (hm.ow_rep 4 rfl) hx3_4
    subst he
    refine gI st_47 h3_6 (idx_lt hx3_4) rfl (gY (yl isAgg3 ((flat_cells (cs := [(nV x3_2)]) (hm.ow_rep 4 rfl) hx3_4 rfl).cell (j := 0) rfl) rfl) (gA rfl (gE (gS (gS ?_)))))
    replace hm := (mk_Block_ x3_1.jump x3_1.on hm 2 3 4 rfl).pk (L' := [blk b0_1 [(nV r0_1.params), (nV r0_1.regs), (sV b3_1 o3_1 r0_1.blocks.length c0_1)] 45, holeE b3_1 o3_1 r0_1.blocks.length c0_1 (xs1_1 : List Block_) (i3_1).toNat [v3_4, v3_5, (nV x3_1.jump), (nV x3_1.on), (sV b3_3 o3_2 x3_1.next_.length c3_2)], ow [v3_4, v3_5, (nV x3_1.jump), (nV x3_1.on), (sV b3_3 o3_2 x3_1.next_.length c3_2)] (x3_1 : Block_), blk b0_2 [(nV 0), (nV 0), (.slice none 0 0)] 45, blk b3_2 [v3_4, v3_5, (nV x3_1.jump), (nV x3_1.on), (sV b3_3 o3_2 x3_1.next_.length c3_2)] 61]) [0, 1, 2, 5, 6] rfl rfl
    replace hm := (hm.shutE (y := (x3_1 : Block_)) 1 2 (by decide) rfl rfl).pk (L' := [blk b0_1 [(nV r0_1.params), (nV r0_1.regs), (sV b3_1 o3_1 r0_1.blocks.length c0_1)] 45, ow [(sV b3_1 o3_1 r0_1.blocks.length c0_1)] (xs1_1.set (i3_1).toNat x3_1), blk b0_2 [(nV 0), (nV 0), (.slice none 0 0)] 45, blk b3_2 [v3_4, v3_5, (nV x3_1.jump), (nV x3_1.on), (sV b3_3 o3_2 x3_1.next_.length c3_2)] 61]) [0, 1, 3, 4] rfl rfl
    rw [set_same hx3_2] at hm
    refine gR (gF fo_45_2 rfl (gL hm 0 isAgg43 rfl (gY (yV st_43 rfl) (gM rfl (gE (gBk (gNf hm (fun i4_1 xs4_1 => [(1, (pV b0_1)), (2, (pV b0_2)), (3, (nV i3_1)), (5, (nV x3_2)), (57, (nV ((r0_1.blocks.length : Int)))), (58, (nV i4_1))]) (fun i4_1 xs4_1 => [blk b0_1 [(nV r0_1.params), (nV r0_1.regs), (sV b3_1 o3_1 r0_1.blocks.length c0_1)] 45, ow [(sV b3_1 o3_1 r0_1.blocks.length c0_1)] xs4_1, blk b0_2 [(nV 0), (nV 0), (.slice none 0 0)] 45]) [0, 1, 2] rfl ?_ ?_)))))))
    ·
     repeat clear hm
     intro _ _ i4_1 xs4_1 w hm hi3_1 hi3_2 q3_1 _
     refine gS (gR (gB rfl (gE (gS (go _ 59 rfl (decide_eq_true (by omega)) (gct rfl (gSk (gS (gBk (gS (gR (gM rfl (gA rfl (gE (gS (gR (gF fo_45_2 rfl (gL hm 0 isAgg43 rfl (gM rfl (gg fun x4_3 h4_9 hx4_8 => ?_))))))))))))))))))))
     obtain ⟨v4_7, v4_8, v4_9, hc4_2, h4_10, h4_11, h4_12⟩ := rk_Block_ (hm.ow_rep 1 rfl) hx4_8
     have hL4_2 := rep_slice_len (hm.ow_rep 1 rfl)
     refine gI st_43 h4_9 (idx_lt2 hx4_8 hL4_2) rfl (gF fo_61_4 rfl ?_)
     obtain ⟨v4_10, v4_11, v4_12, hm⟩ := pin_Block_ hm 1 rfl hx4_8
     refine gY (yl isAgg47 ((hm.holeE_at 4 rfl).cell (j := 4) rfl) rfl) ?_
     obtain ⟨p4_3, c4_4, rfl, hl4_3⟩ := ro_slice (hm.ow_rep 0 rfl)
     refine gY (yV st_47 rfl) (gM rfl (gE (gBk (gNf hm (fun i5_1 xs5_1 => [(1, (pV b0_1)), (2, (pV b0_2)), (3, (nV i3_1)), (5, (nV x3_2)), (6, (nV i4_1)), (57, (nV ((r0_1.blocks.length : Int)))), (58, (nV i4_1)), (66, (.slice p4_3 x4_3.next_.length c4_4)), (67, (nV ((x4_3.next_.length : Int)))), (68, (nV i5_1))]) (fun i5_1 xs5_1 => [blk b0_1 [(nV r0_1.params), (nV r0_1.regs), (sV b3_1 o3_1 r0_1.blocks.length c0_1)] 45, holeE b3_1 o3_1 r0_1.blocks.length c0_1 (xs4_1 : List Block_) (i4_1).toNat [v4_10, v4_11, (nV x4_3.jump), (nV x4_3.on), (.slice p4_3 x4_3.next_.length c4_4)], ow [v4_10] x4_3.phis, ow [v4_11] x4_3.ins, ow [(.slice p4_3 x4_3.next_.length c4_4)] xs5_1, blk b0_2 [(nV 0), (nV 0), (.slice none 0 0)] 45]) [3, 4, 2, 1, 0, 5] rfl ?_ ?_))))
     ·
      repeat clear hm
      intro _ _ i5_1 xs5_1 w hm hi4_1 hi4_2 q4_1 _
      refine gS (gR (gB rfl (gE (gS (go _ 69 rfl (decide_eq_true (by omega)) (gct rfl (gSk (gS (gJ hm (fun s5_1 => [(1, (pV b0_1)), (2, (pV b0_2)), (3, (nV i3_1)), (5, (nV x3_2)), (6, (nV i4_1)), (57, (nV ((r0_1.blocks.length : Int)))), (58, (nV i4_1)), (66, (.slice p4_3 x4_3.next_.length c4_4)), (67, (nV ((x4_3.next_.length : Int)))), (68, (nV i5_1))]) (fun s5_1 => [blk b0_1 [(nV r0_1.params), (nV r0_1.regs), (sV b3_1 o3_1 r0_1.blocks.length c0_1)] 45, holeE b3_1 o3_1 r0_1.blocks.length c0_1 (xs4_1 : List Block_) (i4_1).toNat [v4_10, v4_11, (nV x4_3.jump), (nV x4_3.on), (.slice p4_3 x4_3.next_.length c4_4)], ow [v4_10] x4_3.phis, ow [v4_11] x4_3.ins, ow [(.slice p4_3 x4_3.next_.length c4_4)] s5_1, blk b0_2 [(nV 0), (nV 0), (.slice none 0 0)] 45]) (fun s5_1 => ?_) ?_)))))))))
      ·
       refine gBk (gS (gR (gM rfl (gg fun x6_1 h6_1 hx6_2 => ?_))))
       obtain ⟨b6_1, o6_1, c6_1, he⟩ := idx_form (hm.ow_rep 4 rfl) hx6_2
       simp only [Value.slice.injEq, Option.some.injEq] at he; obtain ⟨rfl, _, rfl⟩ := he
       have hL6_1 := rep_slice_len (hm.ow_rep 4 rfl)
       refine gI st_47 h6_1 (idx_lt2 hx6_2 hL6_1) rfl (gY (yl isAgg3 ((flat_cells (cs := [(nV x6_1)]) (hm.ow_rep 4 rfl) hx6_2 rfl).cell (j := 0) rfl) rfl) (gA rfl (gA rfl (gE (gS (gR (gM rfl (gM rfl (gB rfl (gE (gJ hm (fun s6_1 => [(1, (pV b0_1)), (2, (pV b0_2)), (3, (nV i3_1)), (5, (nV x3_2)), (6, (nV i4_1)), (57, (nV ((r0_1.blocks.length : Int)))), (58, (nV i4_1)), (66, (sV b6_1 o6_1 x4_3.next_.length c4_4)), (67, (nV ((x4_3.next_.length : Int)))), (68, (nV i5_1))]) (fun s6_1 => [blk b0_1 [(nV r0_1.params), (nV r0_1.regs), (sV b3_1 o3_1 r0_1.blocks.length c0_1)] 45, holeE b3_1 o3_1 r0_1.blocks.length c0_1 (xs4_1 : List Block_) (i4_1).toNat [v4_10, v4_11, (nV x4_3.jump), (nV x4_3.on), (sV b6_1 o6_1 x4_3.next_.length c4_4)], ow [v4_10] x4_3.phis, ow [v4_11] x4_3.ins, ow [(sV b6_1 o6_1 x4_3.next_.length c4_4)] s6_1, blk b0_2 [(nV 0), (nV 0), (.slice none 0 0)] 45]) (fun s6_1 => ?_) ?_)))))))))))
       ·
        refine gsd 75 rfl (fun h7_1 => ?_) fun h7_1 => ?_
        ·
         refine gct rfl (gR (gF fo_45_2 rfl (gL hm 0 isAgg43 rfl (gM rfl ?_))))
         have hL7_1 := hm.holeE_len 1 rfl
         refine gI st_43 h4_9 (idx_lt2 hx4_8 hL7_1) rfl (gF fo_61_4 rfl (gY (yl isAgg47 ((hm.holeE_at 1 rfl).cell (j := 4) rfl) rfl) (gM rfl (gM rfl ?_))))
         have hL7_2 := rep_slice_len (hm.ow_rep 4 rfl)
         refine gI st_47 h6_1 (idx_lt2 hx6_2 hL7_2) rfl (gf0 rfl (fun a hf => e_setElem (x1 := x3_2) (j := 0) (vs := [(nV x3_2)]) 4 hf hm rfl hx6_2 rfl sizeOf3 rfl rfl rfl (one_cons rfl one_nil) rfl rfl) ?_)
         rintro _ w hm
         have hx7_1 := List.getElem?_set_self (a := x3_2) (idx_lt hx6_2)
         exact gE (gz hm [0, 1, 2, 3, 4, 5] rfl)
        exact gcf rfl (gSk (gz hm [0, 1, 2, 3, 4, 5] rfl))
       repeat clear hm
       intro s6_1 w hm
       exact gz hm [0, 1, 2, 3, 4, 5] rfl
      repeat clear hm
      intro s5_1 w hm
      exact gR (gP (by omega) (by omega) rfl (gM rfl (gE (gze hm [0, 1, 2, 3, 4, 5] rfl))))
     repeat clear hm
     intro i4_2 xs4_2 w hm hi4_3 hi4_4
     refine gS (gR (gB rfl (gE (gS (go _ 69 rfl (decide_eq_false (by omega)) (gcf rfl (gXt (gHh ?_))))))))
     replace hm := (mk_Block_ x4_3.jump x4_3.on hm 2 3 4 rfl).pk (L' := [blk b0_1 [(nV r0_1.params), (nV r0_1.regs), (sV b3_1 o3_1 r0_1.blocks.length c0_1)] 45, holeE b3_1 o3_1 r0_1.blocks.length c0_1 (xs4_1 : List Block_) (i4_1).toNat [v4_10, v4_11, (nV x4_3.jump), (nV x4_3.on), (.slice p4_3 x4_3.next_.length c4_4)], ow [v4_10, v4_11, (nV x4_3.jump), (nV x4_3.on), (.slice p4_3 x4_3.next_.length c4_4)] ((⟨x4_3.phis, x4_3.ins, x4_3.jump, x4_3.on, xs4_2⟩ : Block_) : Block_), blk b0_2 [(nV 0), (nV 0), (.slice none 0 0)] 45]) [0, 1, 2, 5] rfl rfl
     replace hm := (hm.shutE (y := ((⟨x4_3.phis, x4_3.ins, x4_3.jump, x4_3.on, xs4_2⟩ : Block_) : Block_)) 1 2 (by decide) rfl rfl).pk (L' := [blk b0_1 [(nV r0_1.params), (nV r0_1.regs), (sV b3_1 o3_1 r0_1.blocks.length c0_1)] 45, ow [(sV b3_1 o3_1 r0_1.blocks.length c0_1)] (xs4_1.set (i4_1).toNat (⟨x4_3.phis, x4_3.ins, x4_3.jump, x4_3.on, xs4_2⟩ : Block_)), blk b0_2 [(nV 0), (nV 0), (.slice none 0 0)] 45]) [0, 1, 3] rfl rfl
     have hx4_9 := List.getElem?_set_self (a := ((⟨x4_3.phis, x4_3.ins, x4_3.jump, x4_3.on, xs4_2⟩ : Block_) : Block_)) (idx_lt hx4_8)
     exact gR (gP (by omega) (by omega) rfl (gM rfl (gE (gze hm [0, 1, 2] rfl))))
    repeat clear hm
    intro i3_2 xs3_2 w hm hi3_3 hi3_4
    exact gS (gR (gB rfl (gE (gS (go _ 59 rfl (decide_eq_false (by omega)) (gcf rfl (gXt (gHh (gXt (gHm rfl (gHm rfl (gHh (gLr ho2_1 hq2_1 (gze hm [0, 1, 2] rfl))))))))))))))
   repeat clear hm
   intro i2_1 xs2_1 w hm hi2_3 hi2_4
   refine gS (gR (gB rfl (gE (gS (go _ 15 rfl (decide_eq_false (by omega)) (gcf rfl (gXt (gHh (gS (gR (gY (yn (hm.blk_at 0 rfl) isAgg45 sizeOf45 rfl) (gCg rfl call39 (impl_reachedOnly_ok _ (⟨r0_1.params, r0_1.regs, xs1_1⟩ : Code_) (.slice p0_1 r0_1.blocks.length c0_1) (hm.ow_rep 1 rfl)) ?_))))))))))))
   rintro r2_2 hx2_1 v2_1 w ⟨v2_2, rfl, hB⟩
   replace hm := hm.give hB; clear hB
   exact gSN hm 3 sizeOf45 (one_cons rfl (one_cons rfl (one_cons (rep_one (hm.ow_rep 0 rfl)) one_nil))) rfl fun w hm => gE (gRt (gEr hq1_1 (gLp ho0_2 hq0_1 (grc 3 results43 hm rfl isAgg45 sizeOf45 ⟨v2_2, rfl, hm.pk [0] rfl rfl⟩))))
  repeat clear hm
  intro s1_1 w hm
  exact gze hm [0, 1, 2] rfl

theorem impl_SkipEmpty_ok (w0 : World) (u : Unit_) (v1 : Value) (h1 : GT.rep (hp w0) [v1] u.codes) :
    ConM Tryz.prog 24 [(.agg #[v1])] w0 (impl_SkipEmpty u) fun r v w' => ∃ (x1 : Value), v = (.tuple #[(.agg #[x1]), (.bool (r.2))]) ∧ Mem w0 (hp w0) w' [ow [x1] r.1.codes] := by
  unfold impl_SkipEmpty
  refine gcon func24 rfl fun r => ?_
  have hm := Mem.start w0
  refine gS (gR (gBx hm rfl fun b0_1 w hm => gAl hm zeroValue28 rfl fun b0_2 w hm => gA rfl (gE (gS (gR (gY (yn (hm.blk_at 1 rfl) isAgg28 sizeOf28 rfl) (gCg rfl call32 (impl_perCode_ok _ u v1 (hm.now h1) (fun y0 => impl_skipEmpty y0) (.func (.func 43) #[] #[]) (fun w y0 z0_0 z0_1 r hB hq => ⟨43, [], rfl, call43, impl_skipEmpty_ok w y0 z0_0 z0_1  r hq⟩)) ?_)))))))
  rintro r0_1 hx0_1 v0_1 w ⟨v0_2, rfl, hB⟩
  replace hm := hm.give hB; clear hB
  exact gX rfl (gX rfl (gSN hm 1 sizeOf28 (one_cons (rep_one (hm.ow_rep 0 rfl)) one_nil) rfl fun w hm => gA rfl (gE (gRt (grct 1 results24 hm rfl isAgg28 sizeOf28 ⟨v0_2, rfl, hm.pk [0] rfl rfl⟩)))))

theorem laws_eqIntS_ok (w0 : World) (a_ : List Int) (v1 : Value) (h1 : GT.rep (hp w0) [v1] a_) (b_ : List Int) (v2 : Value) (h2 : GT.rep (hp w0) [v2] b_) :
    ConM Tryz.prog 198 [v1, v2] w0 (laws_eqIntS a_ b_) fun r v w' => v = (.bool (r)) ∧ Below w0.heap.size w0 w' := by
  unfold laws_eqIntS
  refine gcon func198 rfl fun r => ?_
  have hm := Mem.start w0
  refine gS (gR (gA rfl (gE (gS (gS (gR (gM rfl ?_)))))))
  obtain ⟨p0_1, c0_1, rfl, hl0_1⟩ := ro_slice h1
  refine gY (yV st_47 rfl) (gM rfl ?_)
  obtain ⟨p0_2, c0_2, rfl, hl0_2⟩ := ro_slice h2
  refine gY (yV st_47 rfl) (gB rfl (gE (gsd 10 rfl (fun h0_1 => ?_) fun h0_1 => ?_)))
  ·
   exact gct rfl (gS (gR (gA rfl (gE (gRt (gr1 results198 rfl ⟨rfl, hm.below⟩))))))
  refine gcf rfl (gSk (gS (gS (gR (gA rfl (gE (gBk (gNf hm (fun i1_1 xs1_1 => [(0, (.slice p0_1 a_.length c0_1)), (1, (.slice p0_2 b_.length c0_2)), (5, (nV i1_1))]) (fun i1_1 xs1_1 => []) [] rfl ?_ ?_))))))))
  ·
   repeat clear hm
   intro r0_1 hq0_1 i1_1 xs1_1 w hm hi0_1 hi0_2 q0_1 ho0_1
   refine gS (gS (gR (gM rfl (gM rfl (gY (yV st_47 rfl) (gB rfl (gE (go _ 14 rfl (decide_eq_true (by omega)) (gct rfl (gSk (gS (gBk (gS (gW (.p 0 (.p 1 (.p 2 (.p 4 (.p 5 (.p 6 (.q 3 (.e 7 (.p 8 .fin) .nil)))))))) [7] [0, 1, 2, 4, 5, 6, 8] hm [] [] rfl mxo (by kernel_rfl) (fun _ _ _ h => h.2) fun w hm hS => tP rfl (fun w => yM rfl) (tP rfl (fun w => yM rfl) (gg fun x1_1 h1_1 hx1_2 => ?_))))))))))))))))
   obtain ⟨b1_1, o1_1, c1_1, he⟩ := idx_form h1 hx1_2
   simp only [Value.slice.injEq, Option.some.injEq] at he; obtain ⟨rfl, _, rfl⟩ := he
   refine tP rfl (fun w => yI st_47 h1_1 (idx_lt hx1_2) rfl) (tP rfl (fun w => yM rfl) (tP rfl (fun w => yM rfl) (gg fun x1_2 h1_2 hx1_4 => ?_)))
   obtain ⟨b1_2, o1_2, c1_2, he⟩ := idx_form h2 hx1_4
   simp only [Value.slice.injEq, Option.some.injEq] at he; obtain ⟨rfl, _, rfl⟩ := he
   refine tP rfl (fun w => yI st_47 h1_2 (idx_lt hx1_4) rfl) (tQ rfl hS (fun w hm => yl isAgg3 ((flat_cells (cs := [(nV x1_1)]) (hm.now h1) hx1_2 rfl).cell (j := 0) rfl) rfl) (tO (tY rfl (yl isAgg3 ((flat_cells (cs := [(nV x1_2)]) (hm.now h2) hx1_4 rfl).cell (j := 0) rfl) rfl) (tAs hS (tP rfl (fun w => yB rfl) (tE (gsd 25 rfl (fun h1_3 => ?_) fun h1_3 => ?_)))))))
   ·
    exact gct rfl (gS (gR (gA rfl (gE (gRt (gLr ho0_1 hq0_1 (gr1 results198 rfl ⟨rfl, hm.below⟩)))))))
   exact gcf rfl (gSk (gR (gM rfl (gP (by omega) (by omega) rfl (gA rfl (gE (gze hm [] rfl)))))))
  repeat clear hm
  intro i0_1 xs0_1 w hm hi0_3 hi0_4
  exact gS (gS (gR (gM rfl (gM rfl (gY (yV st_47 rfl) (gB rfl (gE (go _ 14 rfl (decide_eq_false (by omega)) (gcf rfl (gXt (gHh (gS (gR (gA rfl (gE (gRt (gr1 results198 rfl ⟨rfl, hm.below⟩)))))))))))))))))

end Go.Proofs.YtjkdjdicpfjifaaGreat
