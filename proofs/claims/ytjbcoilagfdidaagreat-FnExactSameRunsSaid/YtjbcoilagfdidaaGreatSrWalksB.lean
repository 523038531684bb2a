/- A part of the proof of FnExactSameRunsSaid. -/
import Derived.Test.YtjbcoilagfdidaaGreatSrWalksA
namespace Go.Proofs.YtjbcoilagfdidaaGreat
open Go Go.Wk Go.RowKit
set_option maxRecDepth 4000
set_option maxHeartbeats 4000000

theorem pspec_l8Run__phis_ok (w0 : World) (hz : Heap) (r_ : l8Run) (bp0 : Nat) (v1p : Value) (h1p : GT.rep hz [v1p] r_.u.codes) (v2p : Value) (h2p : GT.rep hz [v2p] r_.out.said) (v3p : Value) (h3p : GT.rep hz [v3p] r_.out.cells) (v4p : Value) (h4p : GT.rep hz [v4p] r_.trace) (hbbp0 : hz bp0 = some (.cells ([v1p, v2p, (.int .i64 (r_.out.end_)), (.int .i64 (r_.out.value)), v3p, (.int .i64 (r_.steps)), (.bool (r_.over)), v4p] : List Value).toArray 52 (0, 0))) (c_ : Code_) (v1 : Value) (h1 : GT.rep hz [v1] c_.blocks) (from_ : Int) (b_ : Int) (regs : List Int) (v2 : Value) (hm0 : Mem w0 hz w0 [ow [v2] regs]) (r : (List Int)) (hq : pspec_l8Run__phis r_ c_ from_ b_ regs = some r) :
    Con Tryz.prog 57 [(.pointer (some ⟨bp0, 0, none⟩)), (.agg #[(.int .i64 (c_.params)), (.int .i64 (c_.regs)), v1]), (.int .i64 (from_)), (.int .i64 (b_)), v2] w0 (fun v w' => v = (.tuple #[]) ∧ Mem w0 hz w' [ow [v2] r]) := by
  unfold pspec_l8Run__phis at hq
  refine con_body (l := [(0, (.pointer (some ⟨bp0, 0, none⟩))), (1, (.agg #[(.int .i64 (c_.params)), (.int .i64 (c_.regs)), v1])), (2, (.int .i64 (from_))), (3, (.int .i64 (b_))), (4, v2)]) Tryz.func57 rfl Tryz.ntmps57 (Args.get ⟨rfl, rfl, rfl, rfl, rfl, trivial⟩) rfl ?_
  intro a hf
  have hm := hm0
  refine wp_seq (wp_region_lit (st_ef hf rfl rfl rfl (e_box hf hm rfl rfl rfl) ?_))
  clear hf a; rintro _ w0_1 a ⟨b0_1, rfl, hm⟩ hf
  refine st_end (x_then_n (wp_seq (wp_seq (wp_region_lit (st_y hf rfl rfl rfl (y_fieldAddr fo_69_2 rfl rfl) fun a hf => st_y hf rfl rfl rfl (y_load1 Tryz.isAgg67 rfl rfl (hm.blk_cell 0 rfl rfl)) fun a hf => st_y hf rfl rfl rfl (y_move rfl rfl) fun a hf => ?_)))))
  obtain ⟨x0_1, hx0_1, hq⟩ := bnd hq
  obtain ⟨h0_1, hx0_2⟩ := getI_some.1 hx0_1
  obtain ⟨b0_2, o0_1, c0_1, he⟩ := idx_form' h1 hx0_2
  subst he
  obtain ⟨_, _, hc0_1, hr0_1⟩ := ro_get' h1 hx0_2
  obtain ⟨_, _, rfl, h0_2, _, _, rfl, h0_3, _, _, rfl, rfl, _, _, rfl, rfl, h0_4⟩ := hr0_1
  obtain ⟨v0_1, rfl, -⟩ := id h0_2
  replace h0_2 : GT.rep hz [v0_1] x0_1.phis := h0_2
  obtain ⟨v0_2, rfl, -⟩ := id h0_3
  replace h0_3 : GT.rep hz [v0_2] x0_1.ins := h0_3
  obtain ⟨v0_3, rfl, -⟩ := id h0_4
  replace h0_4 : GT.rep hz [v0_3] x0_1.next_ := h0_4
  replace hc0_1 : CellsAt hz b0_2 (o0_1 + (b_).toNat * 5) [v0_1, v0_2, (.int .i64 (x0_1.jump)), (.int .i64 (x0_1.on)), v0_3] := hc0_1
  refine st_y hf rfl rfl rfl (y_indexAddr st_67 rfl rfl rfl h0_1 (idx_lt hx0_2)) fun a hf => st_y hf rfl rfl rfl (y_fieldAddr fo_86_0 rfl rfl) fun a hf => st_y hf rfl rfl rfl (y_load1 Tryz.isAgg83 rfl rfl ((hc0_1.mono hm.lez).cell (j := 0) rfl)) fun a hf => ?_
  obtain ⟨p0_1, c0_2, he, hl0_1⟩ := ro_slice h0_2
  subst he
  refine st_y hf rfl rfl rfl (y_len_slice st_83.und rfl rfl) fun a hf => st_y hf rfl rfl rfl (y_eql rfl rfl rfl) fun a hf => st_end (x_then_n ?_)
  rcases bcases (decide (((x0_1.phis.length : Int)) = 0)) with h0_5 | h0_5
  ·
   replace hq := (ite_t h0_5).symm.trans hq
   have h0_6 := of_decide_eq_true h0_5
   refine cond_t hf rfl h0_5 (wp_ret (x_then_ret ?_))
   obtain rfl := Option.some.inj hq
   refine ret_none hf Tryz.results57 ?_
   exact ⟨rfl, hm.pick [1] (by decide) rfl⟩
  ·
   replace hq := (ite_f h0_5).symm.trans hq
   have h0_7 := of_decide_eq_false h0_5
   refine cond_f hf rfl h0_5 (wp_skip (x_then_n (wp_seq (wp_region_lit (st_y hf rfl rfl rfl (y_loadN (cs := [(.int .i64 (c_.params)), (.int .i64 (c_.regs)), (.slice (some ⟨b0_2, o0_1, none⟩) c_.blocks.length c0_1)]) Tryz.isAgg69 Tryz.sizeOf69 rfl rfl (hm.blk_at 0 rfl)) fun a hf => st_y hf rfl rfl rfl (y_move rfl rfl) fun a hf => ?_)))))
   obtain ⟨r0_1, hx0_3, hq⟩ := bnd hq
   refine st_ef hf rfl rfl rfl (e_call hf rfl Tryz.call76 rfl (spec_l7Preds_ok _ c_ (.slice (some ⟨b0_2, o0_1, none⟩) c_.blocks.length c0_1) (hm.now h1) b_ _ hx0_3)) ?_
   clear hf a; rintro v0_4 w0_2 a ho0_1 hf
   obtain ⟨_, rfl, hB⟩ := ho0_1
   replace hm := hm.give hB; clear hB
   refine st_y hf rfl rfl rfl (y_assign rfl rfl) fun a hf => st_end (x_then_n (wp_seq (wp_region_lit (st_y hf rfl rfl rfl (y_assign rfl rfl) fun a hf => st_end (x_then_n (wp_seq ?_))))))
   obtain ⟨p0_2, c0_3, he, hl0_2⟩ := ro_slice (hm.ow_rep 2 rfl)
   subst he
   obtain ⟨p0_3, c0_4, he, hl0_3⟩ := ro_slice (hm.ow_rep 0 rfl)
   subst he
   obtain ⟨s0_1, hq0_1, hq⟩ := bnd hq
   refine code_cut (K := fun a w => Fr 87 [(3, (.int .i64 (b_))), (4, (.slice p0_2 regs.length c0_3)), (6, (.pointer (some ⟨b0_1, 0, none⟩))), (11, (.int .i64 (s0_1)))] a ∧ Mem w0 hz w [ow [(.slice p0_2 regs.length c0_3)] regs, blk b0_1 [(.int .i64 (c_.params)), (.int .i64 (c_.regs)), (.slice (some ⟨b0_2, o0_1, none⟩) c_.blocks.length c0_1)] 69]) ?_ ?_
   ·
    refine wp_block ?_
    obtain ⟨r1_1, hl1_1, hq0_1⟩ := bnd hq0_1
    refine wp_loopM _ (fun xs2_1 a w => Fr 87 [(2, (.int .i64 (from_))), (3, (.int .i64 (b_))), (4, (.slice p0_2 regs.length c0_3)), (6, (.pointer (some ⟨b0_1, 0, none⟩))), (10, (.slice p0_3 r0_1.length c0_4)), (11, (.int .i64 (xs2_1)))] a ∧ Mem w0 hz w [ow [(.slice p0_2 regs.length c0_3)] regs, blk b0_1 [(.int .i64 (c_.params)), (.int .i64 (c_.regs)), (.slice (some ⟨b0_2, o0_1, none⟩) c_.blocks.length c0_1)] 69, ow [(.slice p0_3 r0_1.length c0_4)] r0_1]) hl1_1 ?_ ?_
    ·
     exact ⟨hf.sub ⟨rfl, rfl, rfl, rfl, rfl, rfl, trivial⟩, hm.pick [2, 1, 0] (by decide) rfl⟩
    ·
     clear hf hm
     rintro xs2_1 a w q1_1 ⟨hf, hm⟩ hb1_1 ho1_1
     refine wp_seq (wp_seq (wp_region_lit (st_y hf rfl rfl rfl (y_move rfl rfl) fun a hf => st_y hf rfl rfl rfl (y_move rfl rfl) fun a hf => ?_)))
     obtain ⟨x2_1, hx2_1, hb1_1⟩ := bnd hb1_1
     obtain ⟨h2_1, hx2_2⟩ := getI_some.1 hx2_1
     obtain ⟨b2_1, o2_1, c2_1, he⟩ := idx_form (hm.ow_rep 2 rfl) hx2_2
     simp only [Value.slice.injEq, Option.some.injEq] at he; obtain ⟨rfl, _, rfl⟩ := he
     refine st_y hf rfl rfl rfl (y_indexAddr st_25 rfl rfl rfl h2_1 (idx_lt hx2_2)) fun a hf => st_y hf rfl rfl rfl (y_load1 Tryz.isAgg3 rfl rfl ((flat_cells (cs := [(.int .i64 (x2_1))]) (hm.ow_rep 2 rfl) hx2_2 rfl).cell (j := 0) rfl)) fun a hf => st_y hf rfl rfl rfl (y_move rfl rfl) fun a hf => st_y hf rfl rfl rfl (y_neq rfl rfl rfl) fun a hf => st_end (x_then_n ?_)
     rcases bcases (decide (x2_1 ≠ from_)) with h2_2 | h2_2
     ·
      replace hb1_1 := (ite_t h2_2).symm.trans hb1_1
      have h2_3 := of_decide_eq_true h2_2
      refine cond_t hf rfl h2_2 (wp_skip (x_then_n (wp_block (wp_region_lit (st_y hf rfl rfl rfl (y_move rfl rfl) fun a hf => st_y hf rfl rfl rfl (y_addw rfl rfl rfl) fun a hf => st_y hf rfl rfl rfl (y_assign rfl rfl) fun a hf => st_end ?_)))))
      refine x_blk_n (x_then_n ?_)
      obtain rfl := Option.some.inj hb1_1
      exact ⟨_, rfl, hf.sub ⟨rfl, rfl, rfl, rfl, rfl, rfl, trivial⟩, hm.pick [0, 1, 2] (by decide) rfl⟩
     ·
      replace hb1_1 := (ite_f h2_2).symm.trans hb1_1
      have h2_4 := of_decide_eq_false h2_2
      refine cond_f hf rfl h2_2 (wp_exit (x_then_exit (x_then_exit (x_blk_hit (x_then_n ?_)))))
      obtain rfl := Option.some.inj hb1_1
      obtain rfl := ho1_1 _ rfl
      obtain rfl := Option.some.inj hq0_1
      exact ⟨hf.sub ⟨rfl, rfl, rfl, rfl, trivial⟩, hm.pick [0, 1] (by decide) rfl⟩
   ·
    clear hf hm
    rintro a w ⟨hf, hm⟩
    refine x_then_n (wp_seq (wp_region_lit (st_ef hf rfl rfl rfl (e_build0 (α := Int) et_25 hm rfl) ?_)))
    clear hf a; rintro v0_6 w0_3 a hm hf
    refine st_y hf rfl rfl rfl (y_assign rfl rfl) fun a hf => st_end (x_then_n (wp_seq (wp_seq (wp_region_lit (st_y hf rfl rfl rfl (y_assign rfl rfl) fun a hf => st_end (x_then_n ?_))))))
    obtain ⟨p0_4, c0_5, he, hl0_4⟩ := ro_slice (hm.ow_rep 0 rfl)
    subst he
    refine wp_block ?_
    obtain ⟨r0_2, hl0_5, hq⟩ := bnd hq
    refine wp_forN _ (fun i1_1 xs1_1 a w => ∃ (v1_1 : Value), Fr 87 [(3, (.int .i64 (b_))), (4, (.slice p0_2 regs.length c0_3)), (6, (.pointer (some ⟨b0_1, 0, none⟩))), (11, (.int .i64 (s0_1))), (12, v1_1), (13, (.int .i64 (i1_1)))] a ∧ Mem w0 hz w [ow [(.slice p0_2 regs.length c0_3)] regs, blk b0_1 [(.int .i64 (c_.params)), (.int .i64 (c_.regs)), (.slice (some ⟨b0_2, o0_1, none⟩) c_.blocks.length c0_1)] 69, ow [v1_1] xs1_1]) (0) ((x0_1.phis.length : Int)) hl0_5 ?_ ?_ ?_
    ·
     exact ⟨(.slice p0_4 ([] : List Int).length c0_5), hf.sub ⟨rfl, rfl, rfl, rfl, rfl, rfl, trivial⟩, hm.pick [1, 2, 0] (by decide) rfl⟩
    ·
     clear hf hm
     rintro i1_1 xs1_1 a w ⟨v1_1, hf, hm⟩ hi1_1 hi1_2 q0_1 hb0_1 ho0_2
     refine wp_seq (wp_seq (wp_region_lit (st_y hf rfl rfl rfl (y_move rfl rfl) fun a hf => st_y hf rfl rfl rfl (y_fieldAddr fo_69_2 rfl rfl) fun a hf => st_y hf rfl rfl rfl (y_load1 Tryz.isAgg67 rfl rfl (hm.blk_cell 1 rfl rfl)) fun a hf => st_y hf rfl rfl rfl (y_move rfl rfl) fun a hf => st_y hf rfl rfl rfl (y_indexAddr st_67 rfl rfl rfl h0_1 (idx_lt hx0_2)) fun a hf => st_y hf rfl rfl rfl (y_fieldAddr fo_86_0 rfl rfl) fun a hf => ?_)))
     refine st_y hf rfl rfl rfl (y_load1 Tryz.isAgg83 rfl rfl ((hc0_1.mono hm.lez).cell (j := 0) rfl)) fun a hf => st_y hf rfl rfl rfl (y_len_slice st_83.und rfl rfl) fun a hf => st_y hf rfl rfl rfl (y_lss rfl rfl rfl) fun a hf => st_end (x_then_n (cond_t hf rfl (decide_eq_true (by omega)) (wp_skip (x_then_n (wp_seq ?_)))))
     refine wp_block (wp_region_lit (st_y hf rfl rfl rfl (y_move rfl rfl) fun a hf => st_y hf rfl rfl rfl (y_move rfl rfl) fun a hf => st_y hf rfl rfl rfl (y_fieldAddr fo_69_2 rfl rfl) fun a hf => st_y hf rfl rfl rfl (y_load1 Tryz.isAgg67 rfl rfl (hm.blk_cell 1 rfl rfl)) fun a hf => st_y hf rfl rfl rfl (y_move rfl rfl) fun a hf => st_y hf rfl rfl rfl (y_indexAddr st_67 rfl rfl rfl h0_1 (idx_lt hx0_2)) fun a hf => st_y hf rfl rfl rfl (y_fieldAddr fo_86_0 rfl rfl) fun a hf => ?_))
     refine st_y hf rfl rfl rfl (y_load1 Tryz.isAgg83 rfl rfl ((hc0_1.mono hm.lez).cell (j := 0) rfl)) fun a hf => st_y hf rfl rfl rfl (y_move rfl rfl) fun a hf => ?_
     obtain ⟨x1_1, hx1_1, hb0_1⟩ := bnd hb0_1
     obtain ⟨h1_1, hx1_2⟩ := getI_some.1 hx1_1
     obtain ⟨b1_1, o1_1, c1_1, he⟩ := idx_form' h0_2 hx1_2
     simp only [Value.slice.injEq, Option.some.injEq] at he; obtain ⟨rfl, _, rfl⟩ := he
     obtain ⟨_, _, hc1_1, hr1_1⟩ := ro_get' h0_2 hx1_2
     obtain ⟨_, _, rfl, rfl, h1_2⟩ := hr1_1
     obtain ⟨v1_2, rfl, -⟩ := id h1_2
     replace h1_2 : GT.rep hz [v1_2] x1_1.args := h1_2
     replace hc1_1 : CellsAt hz b1_1 (o1_1 + (i1_1).toNat * 2) [(.int .i64 (x1_1.to)), v1_2] := hc1_1
     refine st_y hf rfl rfl rfl (y_indexAddr st_83 rfl rfl rfl h1_1 (idx_lt hx1_2)) fun a hf => st_y hf rfl rfl rfl (y_fieldAddr fo_102_1 rfl rfl) fun a hf => st_y hf rfl rfl rfl (y_load1 Tryz.isAgg25 rfl rfl ((hc1_1.mono hm.lez).cell (j := 1) rfl)) fun a hf => st_y hf rfl rfl rfl (y_move rfl rfl) fun a hf => ?_
     obtain ⟨x1_2, hx1_3, hb0_1⟩ := bnd hb0_1
     obtain ⟨h1_3, hx1_4⟩ := getI_some.1 hx1_3
     obtain ⟨b1_2, o1_2, c1_2, he⟩ := idx_form h1_2 hx1_4
     subst he
     refine st_y hf rfl rfl rfl (y_indexAddr st_25 rfl rfl rfl h1_3 (idx_lt hx1_4)) fun a hf => st_y hf rfl rfl rfl (y_load1 Tryz.isAgg3 rfl rfl ((flat_cells (cs := [(.int .i64 (x1_2))]) (hm.now h1_2) hx1_4 rfl).cell (j := 0) rfl)) fun a hf => ?_
     obtain ⟨x1_3, hx1_5, hb0_1⟩ := bnd hb0_1
     obtain ⟨h1_4, hx1_6⟩ := getI_some.1 hx1_5
     obtain ⟨b1_3, o1_3, c1_3, he⟩ := idx_form (hm.ow_rep 0 rfl) hx1_6
     simp only [Value.slice.injEq, Option.some.injEq] at he; obtain ⟨rfl, _, rfl⟩ := he
     refine st_y hf rfl rfl rfl (y_indexAddr st_25 rfl rfl rfl h1_4 (idx_lt hx1_6)) fun a hf => st_y hf rfl rfl rfl (y_load1 Tryz.isAgg3 rfl rfl ((flat_cells (cs := [(.int .i64 (x1_3))]) (hm.ow_rep 0 rfl) hx1_6 rfl).cell (j := 0) rfl)) fun a hf => st_ef hf rfl rfl rfl (e_build (vs := #[(0, (.int .i64 (x1_3)))]) (cs := [(.int .i64 (x1_3))]) et_25 hf hm rfl rfl (by kernel_rfl) rfl rfl) ?_
     clear hf a; rintro _ w1_1 a ⟨b1_4, rfl, hm⟩ hf
     replace hm := hm.lit (xs := ([x1_3] : List Int)) 0 rfl rfl rfl rfl
     obtain ⟨ys1_1, hx1_7, hb0_1⟩ := bnd hb0_1
     obtain ⟨h1_5, h1_5e⟩ := appM_some.1 hx1_7
     refine st_ef hf rfl rfl rfl (e_append 3 et_25 hf hm rfl (hm.ow_rep 0 rfl) rfl rfl rfl h1_5) ?_
     clear hf a; rintro v1_3 w1_2 a hm hf
     rw [h1_5e] at hm
     refine st_y hf rfl rfl rfl (y_assign rfl rfl) fun a hf => st_end (x_blk_n (x_then_n (wp_region_lit (st_y hf rfl rfl rfl (y_move rfl rfl) fun a hf => st_y hf rfl rfl rfl (y_add64 rfl rfl rfl (by omega) (by omega)) fun a hf => st_y hf rfl rfl rfl (y_assign rfl rfl) fun a hf => st_end ?_))))
     refine x_then_n ?_
     obtain rfl := Option.some.inj hb0_1
     exact ⟨_, rfl, v1_3, hf.sub ⟨rfl, rfl, rfl, rfl, rfl, rfl, trivial⟩, hm.pick [1, 2, 3] (by decide) rfl⟩
    ·
     clear hf hm
     rintro i0_1 xs0_1 a w ⟨v0_7, hf, hm⟩ hi0_1 hi0_2 rfl
     replace hq := sum_l hq
     refine wp_seq (wp_seq (wp_region_lit (st_y hf rfl rfl rfl (y_move rfl rfl) fun a hf => st_y hf rfl rfl rfl (y_fieldAddr fo_69_2 rfl rfl) fun a hf => st_y hf rfl rfl rfl (y_load1 Tryz.isAgg67 rfl rfl (hm.blk_cell 1 rfl rfl)) fun a hf => st_y hf rfl rfl rfl (y_move rfl rfl) fun a hf => st_y hf rfl rfl rfl (y_indexAddr st_67 rfl rfl rfl h0_1 (idx_lt hx0_2)) fun a hf => st_y hf rfl rfl rfl (y_fieldAddr fo_86_0 rfl rfl) fun a hf => ?_)))
     refine st_y hf rfl rfl rfl (y_load1 Tryz.isAgg83 rfl rfl ((hc0_1.mono hm.lez).cell (j := 0) rfl)) fun a hf => st_y hf rfl rfl rfl (y_len_slice st_83.und rfl rfl) fun a hf => st_y hf rfl rfl rfl (y_lss rfl rfl rfl) fun a hf => st_end (x_then_n (cond_f hf rfl (decide_eq_false (by omega)) (wp_exit (x_then_exit (x_then_exit ?_)))))
     refine x_blk_hit (x_then_n (wp_seq (wp_region_lit (st_y hf rfl rfl rfl (y_assign rfl rfl) fun a hf => st_end (x_then_n ?_)))))
     obtain ⟨p0_5, c0_6, he, hl0_6⟩ := ro_slice (hm.ow_rep 2 rfl)
     subst he
     refine wp_block ?_
     obtain ⟨r0_3, hl0_7, hq⟩ := bnd hq
     refine wp_forN _ (fun i1_2 xs1_2 a w => Fr 87 [(3, (.int .i64 (b_))), (4, (.slice p0_2 regs.length c0_3)), (6, (.pointer (some ⟨b0_1, 0, none⟩))), (12, (.slice p0_5 xs0_1.length c0_6)), (14, (.int .i64 (i1_2)))] a ∧ Mem w0 hz w [ow [(.slice p0_2 regs.length c0_3)] xs1_2, blk b0_1 [(.int .i64 (c_.params)), (.int .i64 (c_.regs)), (.slice (some ⟨b0_2, o0_1, none⟩) c_.blocks.length c0_1)] 69, ow [(.slice p0_5 xs0_1.length c0_6)] xs0_1]) (0) ((xs0_1.length : Int)) hl0_7 ?_ ?_ ?_
     ·
      exact ⟨hf.sub ⟨rfl, rfl, rfl, rfl, rfl, trivial⟩, hm.pick [0, 1, 2] (by decide) rfl⟩
     ·
      clear hf hm
      rintro i1_2 xs1_2 a w ⟨hf, hm⟩ hi1_3 hi1_4 q0_2 hb0_2 ho0_3
      refine wp_seq (wp_seq (wp_region_lit (st_y hf rfl rfl rfl (y_move rfl rfl) fun a hf => st_y hf rfl rfl rfl (y_move rfl rfl) fun a hf => st_y hf rfl rfl rfl (y_len_slice st_25.und rfl rfl) fun a hf => st_y hf rfl rfl rfl (y_lss rfl rfl rfl) fun a hf => st_end (x_then_n ?_))))
      refine cond_t hf rfl (decide_eq_true (by omega)) (wp_skip (x_then_n (wp_seq (wp_block (wp_tree (.p 0 (.p 1 (.p 3 (.p 7 (.p 11 (.p 12 (.p 13 (.q 2 (.p 4 (.p 5 (.q 6 (.p 8 (.p 9 (.q 10 (.e 14 (.p 15 (.e 16 .fin .nil)) .nil))))))))))))))) [14] [0, 1, 3, 4, 5, 7, 8, 9, 11, 12, 13, 15] (fun w => Mem w0 hz w [ow [(.slice p0_2 regs.length c0_3)] xs1_2, blk b0_1 [(.int .i64 (c_.params)), (.int .i64 (c_.regs)), (.slice (some ⟨b0_2, o0_1, none⟩) c_.blocks.length c0_1)] 69, ow [(.slice p0_5 xs0_1.length c0_6)] xs0_1]) (by kernel_rfl) (by kernel_rfl) (fun _ _ _ h => h.2) ?_)))))
      replace hm := hm.drew
      have hS : Mem w0 hz _ [ow [(.slice p0_2 regs.length c0_3)] xs1_2, blk b0_1 [(.int .i64 (c_.params)), (.int .i64 (c_.regs)), (.slice (some ⟨b0_2, o0_1, none⟩) c_.blocks.length c0_1)] 69, ow [(.slice p0_5 xs0_1.length c0_6)] xs0_1] := hm.pick [0, 1, 2] (by decide) rfl
      refine td_p hf rfl rfl rfl rfl (fun w => y_move rfl rfl) fun a hf => td_p hf rfl rfl rfl rfl (fun w => y_fieldAddr fo_69_2 rfl rfl) fun a hf => td_p hf rfl rfl rfl rfl (fun w => y_move rfl rfl) fun a hf => td_p hf rfl rfl rfl rfl (fun w => y_move rfl rfl) fun a hf => td_p hf rfl rfl rfl rfl (fun w => y_move rfl rfl) fun a hf => td_p hf rfl rfl rfl rfl (fun w => y_move rfl rfl) fun a hf => ?_
      obtain ⟨x1_4, hx1_8, hb0_2⟩ := bnd hb0_2
      obtain ⟨h1_6, hx1_9⟩ := getI_some.1 hx1_8
      obtain ⟨b1_5, o1_4, c1_4, he⟩ := idx_form (hm.ow_rep 2 rfl) hx1_9
      simp only [Value.slice.injEq, Option.some.injEq] at he; obtain ⟨rfl, _, rfl⟩ := he
      refine td_p hf rfl rfl rfl rfl (fun w => y_indexAddr st_25 rfl rfl rfl h1_6 (idx_lt hx1_9)) fun a hf => td_y hf rfl rfl rfl rfl hS (fun w hm => y_load1 Tryz.isAgg67 rfl rfl (hm.blk_cell 1 rfl rfl)) fun a hf => td_p hf rfl rfl rfl rfl (fun w => y_indexAddr st_67 rfl rfl rfl h0_1 (idx_lt hx0_2)) fun a hf => td_p hf rfl rfl rfl rfl (fun w => y_fieldAddr fo_86_0 rfl rfl) fun a hf => td_y hf rfl rfl rfl rfl hS (fun w hm => y_load1 Tryz.isAgg83 rfl rfl ((hc0_1.mono hm.lez).cell (j := 0) rfl)) fun a hf => ?_
      obtain ⟨x1_5, hx1_10, hb0_2⟩ := bnd hb0_2
      obtain ⟨h1_7, hx1_11⟩ := getI_some.1 hx1_10
      obtain ⟨b1_6, o1_5, c1_5, he⟩ := idx_form' h0_2 hx1_11
      simp only [Value.slice.injEq, Option.some.injEq] at he; obtain ⟨rfl, _, rfl⟩ := he
      obtain ⟨_, _, hc1_2, hr1_2⟩ := ro_get' h0_2 hx1_11
      obtain ⟨_, _, rfl, rfl, h1_8⟩ := hr1_2
      obtain ⟨v1_4, rfl, -⟩ := id h1_8
      replace h1_8 : GT.rep hz [v1_4] x1_5.args := h1_8
      replace hc1_2 : CellsAt hz b1_6 (o1_5 + (i1_2).toNat * 2) [(.int .i64 (x1_5.to)), v1_4] := hc1_2
      refine td_p hf rfl rfl rfl rfl (fun w => y_indexAddr st_83 rfl rfl rfl h1_7 (idx_lt hx1_11)) fun a hf => td_p hf rfl rfl rfl rfl (fun w => y_fieldAddr fo_102_0 rfl rfl) fun a hf => td_y hf rfl rfl rfl rfl hS (fun w hm => y_load1 Tryz.isAgg3 rfl rfl ((hc1_2.mono hm.lez).cell (j := 0) rfl)) fun a hf => te_one (td_ef hf rfl rfl rfl rfl (ef_y hf (y_load1 Tryz.isAgg3 rfl rfl ((flat_cells (cs := [(.int .i64 (x1_4))]) (hm.ow_rep 2 rfl) hx1_9 rfl).cell (j := 0) rfl))) ?_)
      clear hf a; rintro _ _ a ⟨rfl, rfl⟩ hf
      refine ⟨fun _ => hS, ?_⟩
      obtain ⟨x1_6, hx1_12, hb0_2⟩ := bnd hb0_2
      obtain ⟨h1_9, hx1_13⟩ := getI_some.1 hx1_12
      obtain ⟨b1_7, o1_6, c1_6, he⟩ := idx_form (hm.ow_rep 0 rfl) hx1_13
      simp only [Value.slice.injEq, Option.some.injEq] at he; obtain ⟨rfl, _, rfl⟩ := he
      have hL1_1 := rep_slice_len (hm.ow_rep 0 rfl)
      refine td_p hf rfl rfl rfl rfl (fun w => y_indexAddr st_25 rfl rfl rfl h1_9 (idx_lt2 hx1_13 hL1_1)) fun a hf => te_one (td_ef0 hf rfl rfl rfl (e_setElem (x1 := x1_4) (j := 0) (vs := [(.int .i64 (x1_4))]) 0 hf hm rfl hx1_13 rfl Tryz.sizeOf3 rfl rfl rfl (one_cons rfl one_nil) rfl rfl) ?_)
      clear hf a; rintro _ w1_3 a hm hf
      have hx1_14 := List.getElem?_set_self (a := x1_4) (idx_lt hx1_13)
      refine ⟨fun h => absurd h (by decide), ?_⟩
      clear hS; refine td_end ?_
      refine x_blk_n (x_then_n (wp_region_lit (st_y hf rfl rfl rfl (y_move rfl rfl) fun a hf => st_y hf rfl rfl rfl (y_add64 rfl rfl rfl (by omega) (by omega)) fun a hf => st_y hf rfl rfl rfl (y_assign rfl rfl) fun a hf => st_end (x_then_n ?_))))
      obtain rfl := Option.some.inj hb0_2
      exact ⟨_, rfl, hf.sub ⟨rfl, rfl, rfl, rfl, rfl, trivial⟩, hm.pick [0, 1, 2] (by decide) rfl⟩
     ·
      clear hf hm
      rintro i0_2 xs0_2 a w ⟨hf, hm⟩ hi0_3 hi0_4 rfl
      replace hq := sum_l hq
      refine wp_seq (wp_seq (wp_region_lit (st_y hf rfl rfl rfl (y_move rfl rfl) fun a hf => st_y hf rfl rfl rfl (y_move rfl rfl) fun a hf => st_y hf rfl rfl rfl (y_len_slice st_25.und rfl rfl) fun a hf => st_y hf rfl rfl rfl (y_lss rfl rfl rfl) fun a hf => st_end (x_then_n ?_))))
      refine cond_f hf rfl (decide_eq_false (by omega)) (wp_exit (x_then_exit (x_then_exit (x_blk_hit ?_))))
      obtain rfl := Option.some.inj hq
      refine ret_end hf Tryz.results57 ?_
      exact ⟨rfl, hm.pick [0] (by decide) rfl⟩

theorem spec_l8Pure_ok (w0 : World) (op : Int) (r : Bool) (hq : spec_l8Pure op = some r) :
    Con Tryz.prog 79 [(.int .i64 (op))] w0 (fun v w' => v = (.bool (r)) ∧ Below w0.heap.size w0 w') := by
  unfold spec_l8Pure at hq
  refine con_body (l := [(0, (.int .i64 (op)))]) Tryz.func79 rfl Tryz.ntmps79 (Args.get ⟨rfl, trivial⟩) rfl ?_
  intro a hf
  have hm := Mem.start w0
  refine wp_seq (wp_region_lit (st_y hf rfl rfl rfl (y_assign rfl rfl) fun a hf => st_end (x_then_n (wp_seq (wp_region_lit (st_y hf rfl rfl rfl (y_move rfl rfl) fun a hf => ?_))))))
  obtain ⟨r0_1, hx0_1, hq⟩ := bnd hq
  refine st_ef hf rfl rfl rfl (e_call hf rfl Tryz.call29 rfl (spec_l1In_ok _ op 1 10 _ hx0_1)) ?_
  clear hf a; rintro v0_1 w0_1 a ho0_1 hf
  obtain ⟨rfl, hB⟩ := ho0_1
  replace hm := hm.below' hB; clear hB
  refine st_y hf rfl rfl rfl (y_assign rfl rfl) fun a hf => st_end (x_then_n (wp_ret ?_))
  obtain rfl := Option.some.inj hq
  refine ret_tmp hf Tryz.results79 rfl ?_
  exact ⟨rfl, hm.below⟩

theorem spec_l5Truth_ok (w0 : World) (is : Bool) (r : Int) (hq : spec_l5Truth is = some r) :
    Con Tryz.prog 104 [(.bool (is))] w0 (fun v w' => v = (.int .i64 (r)) ∧ Below w0.heap.size w0 w') := by
  unfold spec_l5Truth at hq
  refine con_body (l := [(0, (.bool (is)))]) Tryz.func104 rfl Tryz.ntmps104 (Args.get ⟨rfl, trivial⟩) rfl ?_
  intro a hf
  have hm := Mem.start w0
  refine wp_seq (wp_region_lit (st_y hf rfl rfl rfl (y_assign rfl rfl) fun a hf => st_end (x_then_n (wp_seq (wp_seq (wp_region_lit (st_y hf rfl rfl rfl (y_move rfl rfl) fun a hf => ?_)))))))
  refine st_end (x_then_n ?_)
  rcases bcases (is) with h0_1 | h0_1
  ·
   replace hq := (ite_t h0_1).symm.trans hq
   refine cond_t hf rfl h0_1 (wp_seq (wp_region_lit (st_y hf rfl rfl rfl (y_assign rfl rfl) fun a hf => st_end (x_then_n (wp_ret (x_then_ret ?_))))))
   obtain rfl := Option.some.inj hq
   refine ret_tmp hf Tryz.results104 rfl ?_
   exact ⟨rfl, hm.below⟩
  ·
   replace hq := (ite_f h0_1).symm.trans hq
   refine cond_f hf rfl h0_1 (wp_skip (x_then_n (wp_seq (wp_region_lit (st_y hf rfl rfl rfl (y_assign rfl rfl) fun a hf => st_end (x_then_n (wp_ret ?_)))))))
   obtain rfl := Option.some.inj hq
   refine ret_tmp hf Tryz.results104 rfl ?_
   exact ⟨rfl, hm.below⟩

theorem spec_l5Two_ok (w0 : World) (op : Int) (a_ : Int) (b_ : Int) (r : Int × Int) (hq : spec_l5Two op a_ b_ = some r) :
    Con Tryz.prog 105 [(.int .i64 (op)), (.int .i64 (a_)), (.int .i64 (b_))] w0 (fun v w' => v = (.tuple #[(.int .i64 (r.1)), (.int .i64 (r.2))]) ∧ Below w0.heap.size w0 w') := by
  unfold spec_l5Two at hq
  refine con_body (l := [(0, (.int .i64 (op))), (1, (.int .i64 (a_))), (2, (.int .i64 (b_)))]) Tryz.func105 rfl Tryz.ntmps105 (Args.get ⟨rfl, rfl, rfl, trivial⟩) rfl ?_
  intro a hf
  have hm := Mem.start w0
  refine wp_seq (wp_region_lit (st_y hf rfl rfl rfl (y_assign rfl rfl) fun a hf => st_y hf rfl rfl rfl (y_assign rfl rfl) fun a hf => st_end (x_then_n (wp_seq (wp_seq (wp_region_lit ?_))))))
  refine st_y hf rfl rfl rfl (y_move rfl rfl) fun a hf => st_end (x_then_n (wp_block (wp_seq (wp_region_lit (st_y hf rfl rfl rfl (y_eql rfl rfl rfl) fun a hf => st_y hf rfl rfl rfl (y_assign rfl rfl) fun a hf => st_end ?_)))))
  refine x_then_n ?_
  rcases bcases (decide (op = 3)) with h0_1 | h0_1
  ·
   replace hq := (ite_t h0_1).symm.trans hq
   have h0_2 := of_decide_eq_true h0_1
   refine cond_t hf rfl h0_1 (wp_seq (wp_region_lit (st_y hf rfl rfl rfl (y_move rfl rfl) fun a hf => st_y hf rfl rfl rfl (y_move rfl rfl) fun a hf => st_y hf rfl rfl rfl (y_addw rfl rfl rfl) fun a hf => st_y hf rfl rfl rfl (y_rem rfl rfl rfl (by decide)) fun a hf => st_y hf rfl rfl rfl (y_assign rfl rfl) fun a hf => st_y hf rfl rfl rfl (y_assign rfl rfl) fun a hf => ?_)))
   refine st_end (x_then_n (wp_ret (x_blk_ret (x_then_ret ?_))))
   obtain rfl := Option.some.inj hq
   refine ret_tmp2 hf Tryz.results105 rfl rfl ?_
   exact ⟨rfl, hm.below⟩
  ·
   replace hq := (ite_f h0_1).symm.trans hq
   have h0_3 := of_decide_eq_false h0_1
   refine cond_f hf rfl h0_1 (wp_seq (wp_region_lit (st_y hf rfl rfl rfl (y_eql rfl rfl rfl) fun a hf => st_y hf rfl rfl rfl (y_assign rfl rfl) fun a hf => st_end (x_then_n ?_))))
   rcases bcases (decide (op = 4)) with h0_4 | h0_4
   ·
    replace hq := (ite_t h0_4).symm.trans hq
    have h0_5 := of_decide_eq_true h0_4
    refine cond_t hf rfl h0_4 (wp_seq (wp_region_lit (st_y hf rfl rfl rfl (y_move rfl rfl) fun a hf => st_y hf rfl rfl rfl (y_move rfl rfl) fun a hf => st_y hf rfl rfl rfl (y_subw rfl rfl rfl) fun a hf => st_y hf rfl rfl rfl (y_addw rfl rfl rfl) fun a hf => st_y hf rfl rfl rfl (y_rem rfl rfl rfl (by decide)) fun a hf => st_y hf rfl rfl rfl (y_assign rfl rfl) fun a hf => ?_)))
    refine st_y hf rfl rfl rfl (y_assign rfl rfl) fun a hf => st_end (x_then_n (wp_ret (x_blk_ret (x_then_ret ?_))))
    obtain rfl := Option.some.inj hq
    refine ret_tmp2 hf Tryz.results105 rfl rfl ?_
    exact ⟨rfl, hm.below⟩
   ·
    replace hq := (ite_f h0_4).symm.trans hq
    have h0_6 := of_decide_eq_false h0_4
    refine cond_f hf rfl h0_4 (wp_seq (wp_region_lit (st_y hf rfl rfl rfl (y_eql rfl rfl rfl) fun a hf => st_y hf rfl rfl rfl (y_assign rfl rfl) fun a hf => st_end (x_then_n ?_))))
    rcases bcases (decide (op = 5)) with h0_7 | h0_7
    ·
     replace hq := (ite_t h0_7).symm.trans hq
     have h0_8 := of_decide_eq_true h0_7
     refine cond_t hf rfl h0_7 (wp_seq (wp_region_lit (st_y hf rfl rfl rfl (y_move rfl rfl) fun a hf => st_y hf rfl rfl rfl (y_move rfl rfl) fun a hf => st_y hf rfl rfl rfl (y_mulw rfl rfl rfl) fun a hf => st_y hf rfl rfl rfl (y_rem rfl rfl rfl (by decide)) fun a hf => st_y hf rfl rfl rfl (y_assign rfl rfl) fun a hf => st_y hf rfl rfl rfl (y_assign rfl rfl) fun a hf => ?_)))
     refine st_end (x_then_n (wp_ret (x_blk_ret (x_then_ret ?_))))
     obtain rfl := Option.some.inj hq
     refine ret_tmp2 hf Tryz.results105 rfl rfl ?_
     exact ⟨rfl, hm.below⟩
    ·
     replace hq := (ite_f h0_7).symm.trans hq
     have h0_9 := of_decide_eq_false h0_7
     refine cond_f hf rfl h0_7 (wp_seq (wp_region_lit (st_y hf rfl rfl rfl (y_eql rfl rfl rfl) fun a hf => st_y hf rfl rfl rfl (y_assign rfl rfl) fun a hf => st_end (x_then_n ?_))))
     rcases bcases (decide (op = 8)) with h0_10 | h0_10
     ·
      replace hq := (ite_t h0_10).symm.trans hq
      have h0_11 := of_decide_eq_true h0_10
      refine cond_t hf rfl h0_10 (wp_seq (wp_region_lit (st_y hf rfl rfl rfl (y_move rfl rfl) fun a hf => st_y hf rfl rfl rfl (y_move rfl rfl) fun a hf => st_y hf rfl rfl rfl (y_lss rfl rfl rfl) fun a hf => ?_)))
      obtain ⟨r0_1, hx0_1, hq⟩ := bnd hq
      refine st_ef hf rfl rfl rfl (e_call hf rfl Tryz.call104 rfl (spec_l5Truth_ok _ (decide (a_ < b_)) _ hx0_1)) ?_
      clear hf a; rintro v0_1 w0_1 a ho0_1 hf
      obtain ⟨rfl, hB⟩ := ho0_1
      replace hm := hm.below' hB; clear hB
      refine st_y hf rfl rfl rfl (y_assign rfl rfl) fun a hf => st_y hf rfl rfl rfl (y_assign rfl rfl) fun a hf => st_end (x_then_n (wp_ret (x_blk_ret (x_then_ret ?_))))
      obtain rfl := Option.some.inj hq
      refine ret_tmp2 hf Tryz.results105 rfl rfl ?_
      exact ⟨rfl, hm.below⟩
     ·
      replace hq := (ite_f h0_10).symm.trans hq
      have h0_12 := of_decide_eq_false h0_10
      refine cond_f hf rfl h0_10 (wp_seq (wp_region_lit (st_y hf rfl rfl rfl (y_eql rfl rfl rfl) fun a hf => st_y hf rfl rfl rfl (y_assign rfl rfl) fun a hf => st_end (x_then_n ?_))))
      rcases bcases (decide (op = 9)) with h0_13 | h0_13
      ·
       replace hq := (ite_t h0_13).symm.trans hq
       have h0_14 := of_decide_eq_true h0_13
       refine cond_t hf rfl h0_13 (wp_seq (wp_region_lit (st_y hf rfl rfl rfl (y_move rfl rfl) fun a hf => st_y hf rfl rfl rfl (y_move rfl rfl) fun a hf => st_y hf rfl rfl rfl (y_eql rfl rfl rfl) fun a hf => ?_)))
       obtain ⟨r0_2, hx0_2, hq⟩ := bnd hq
       refine st_ef hf rfl rfl rfl (e_call hf rfl Tryz.call104 rfl (spec_l5Truth_ok _ (decide (a_ = b_)) _ hx0_2)) ?_
       clear hf a; rintro v0_2 w0_2 a ho0_2 hf
       obtain ⟨rfl, hB⟩ := ho0_2
       replace hm := hm.below' hB; clear hB
       refine st_y hf rfl rfl rfl (y_assign rfl rfl) fun a hf => st_y hf rfl rfl rfl (y_assign rfl rfl) fun a hf => st_end (x_then_n (wp_ret (x_blk_ret (x_then_ret ?_))))
       obtain rfl := Option.some.inj hq
       refine ret_tmp2 hf Tryz.results105 rfl rfl ?_
       exact ⟨rfl, hm.below⟩
      ·
       replace hq := (ite_f h0_13).symm.trans hq
       have h0_15 := of_decide_eq_false h0_13
       refine cond_f hf rfl h0_13 (wp_skip (x_blk_n (x_then_n (wp_seq (wp_seq (wp_region_lit (st_y hf rfl rfl rfl (y_move rfl rfl) fun a hf => st_y hf rfl rfl rfl (y_eql rfl rfl rfl) fun a hf => ?_)))))))
       refine st_end (x_then_n ?_)
       rcases bcases (decide (b_ = 0)) with h0_16 | h0_16
       ·
        replace hq := (ite_t h0_16).symm.trans hq
        have h0_17 := of_decide_eq_true h0_16
        refine cond_t hf rfl h0_16 (wp_seq (wp_region_lit (st_y hf rfl rfl rfl (y_assign rfl rfl) fun a hf => st_y hf rfl rfl rfl (y_assign rfl rfl) fun a hf => st_end (x_then_n (wp_ret (x_then_ret ?_))))))
        obtain rfl := Option.some.inj hq
        refine ret_tmp2 hf Tryz.results105 rfl rfl ?_
        exact ⟨rfl, hm.below⟩
       ·
        replace hq := (ite_f h0_16).symm.trans hq
        have h0_18 := of_decide_eq_false h0_16
        refine cond_f hf rfl h0_16 (wp_skip (x_then_n (wp_seq (wp_seq (wp_region_lit (st_y hf rfl rfl rfl (y_move rfl rfl) fun a hf => st_y hf rfl rfl rfl (y_eql rfl rfl rfl) fun a hf => st_end ?_))))))
        refine x_then_n ?_
        rcases bcases (decide (op = 6)) with h0_19 | h0_19
        ·
         replace hq := (ite_t h0_19).symm.trans hq
         have h0_20 := of_decide_eq_true h0_19
         refine cond_t hf rfl h0_19 (wp_seq (wp_region_lit (st_y hf rfl rfl rfl (y_move rfl rfl) fun a hf => st_y hf rfl rfl rfl (y_move rfl rfl) fun a hf => ?_)))
         obtain ⟨q0_1, hx0_3, hq⟩ := bnd hq
         obtain ⟨h0_21, rfl⟩ := quoM_some.1 hx0_3
         refine st_y hf rfl rfl rfl (y_quo rfl rfl rfl h0_21) fun a hf => st_y hf rfl rfl rfl (y_assign rfl rfl) fun a hf => st_y hf rfl rfl rfl (y_assign rfl rfl) fun a hf => st_end (x_then_n (wp_ret (x_then_ret ?_)))
         obtain rfl := Option.some.inj hq
         refine ret_tmp2 hf Tryz.results105 rfl rfl ?_
         exact ⟨rfl, hm.below⟩
        ·
         replace hq := (ite_f h0_19).symm.trans hq
         have h0_22 := of_decide_eq_false h0_19
         refine cond_f hf rfl h0_19 (wp_skip (x_then_n (wp_seq (wp_region_lit (st_y hf rfl rfl rfl (y_move rfl rfl) fun a hf => st_y hf rfl rfl rfl (y_move rfl rfl) fun a hf => ?_)))))
         obtain ⟨q0_2, hx0_4, hq⟩ := bnd hq
         obtain ⟨h0_23, rfl⟩ := remM_some.1 hx0_4
         refine st_y hf rfl rfl rfl (y_rem rfl rfl rfl h0_23) fun a hf => st_y hf rfl rfl rfl (y_assign rfl rfl) fun a hf => st_y hf rfl rfl rfl (y_assign rfl rfl) fun a hf => st_end (x_then_n (wp_ret ?_))
         obtain rfl := Option.some.inj hq
         refine ret_tmp2 hf Tryz.results105 rfl rfl ?_
         exact ⟨rfl, hm.below⟩

theorem spec_l8Do_ok (w0 : World) (op : Int) (a_ : Int) (b_ : Int) (r : Int × Int) (hq : spec_l8Do op a_ b_ = some r) :
    Con Tryz.prog 80 [(.int .i64 (op)), (.int .i64 (a_)), (.int .i64 (b_))] w0 (fun v w' => v = (.tuple #[(.int .i64 (r.1)), (.int .i64 (r.2))]) ∧ Below w0.heap.size w0 w') := by
  unfold spec_l8Do at hq
  refine con_body (l := [(0, (.int .i64 (op))), (1, (.int .i64 (a_))), (2, (.int .i64 (b_)))]) Tryz.func80 rfl Tryz.ntmps80 (Args.get ⟨rfl, rfl, rfl, trivial⟩) rfl ?_
  intro a hf
  have hm := Mem.start w0
  refine wp_seq (wp_region_lit (st_y hf rfl rfl rfl (y_assign rfl rfl) fun a hf => st_y hf rfl rfl rfl (y_assign rfl rfl) fun a hf => st_end (x_then_n (wp_seq (wp_seq (wp_region_lit ?_))))))
  refine st_y hf rfl rfl rfl (y_move rfl rfl) fun a hf => st_end (x_then_n (wp_block (wp_seq (wp_seq (wp_region_lit (st_y hf rfl rfl rfl (y_eql rfl rfl rfl) fun a hf => st_y hf rfl rfl rfl (y_assign rfl rfl) fun a hf => ?_))))))
  refine st_end (x_then_n ?_)
  obtain ⟨s0_1, hq0_1, hq⟩ := bnd hq
  refine code_cut (K := fun a w => Fr 24 [(0, (.int .i64 (op))), (1, (.int .i64 (a_))), (2, (.int .i64 (b_))), (8, (.int .i64 (op))), (9, (.bool (s0_1)))] a ∧ Mem w0 (hp w0) w []) ?_ ?_
  ·
   rcases bcases (decide (op = 1)) with h1_1 | h1_1
   ·
    replace hq0_1 := (ite_t h1_1).symm.trans hq0_1
    have h1_2 := of_decide_eq_true h1_1
    refine cond_t hf rfl h1_1 (wp_skip (x_then_n ?_))
    obtain rfl := Option.some.inj hq0_1
    exact ⟨hf.sub ⟨rfl, rfl, rfl, rfl, rfl, trivial⟩, hm.pick [] (by decide) rfl⟩
   ·
    replace hq0_1 := (ite_f h1_1).symm.trans hq0_1
    have h1_3 := of_decide_eq_false h1_1
    refine cond_f hf rfl h1_1 (wp_region_lit (st_y hf rfl rfl rfl (y_eql rfl rfl rfl) fun a hf => st_y hf rfl rfl rfl (y_assign rfl rfl) fun a hf => st_end (x_then_n ?_)))
    obtain rfl := Option.some.inj hq0_1
    exact ⟨hf.sub ⟨rfl, rfl, rfl, rfl, rfl, trivial⟩, hm.pick [] (by decide) rfl⟩
  ·
   clear hf hm
   rintro a w ⟨hf, hm⟩
   refine x_then_n ?_
   rcases bcases (s0_1) with h0_1 | h0_1
   ·
    replace hq := (ite_t h0_1).symm.trans hq
    refine cond_t hf rfl h0_1 (wp_seq (wp_region_lit (st_y hf rfl rfl rfl (y_move rfl rfl) fun a hf => st_y hf rfl rfl rfl (y_assign rfl rfl) fun a hf => st_y hf rfl rfl rfl (y_assign rfl rfl) fun a hf => st_end (x_then_n (wp_ret ?_)))))
    refine x_blk_ret (x_then_ret ?_)
    obtain rfl := Option.some.inj hq
    refine ret_tmp2 hf Tryz.results80 rfl rfl ?_
    exact ⟨rfl, hm.below⟩
   ·
    replace hq := (ite_f h0_1).symm.trans hq
    refine cond_f hf rfl h0_1 (wp_seq (wp_region_lit (st_y hf rfl rfl rfl (y_eql rfl rfl rfl) fun a hf => st_y hf rfl rfl rfl (y_assign rfl rfl) fun a hf => st_end (x_then_n ?_))))
    rcases bcases (decide (op = 10)) with h0_2 | h0_2
    ·
     replace hq := (ite_t h0_2).symm.trans hq
     have h0_3 := of_decide_eq_true h0_2
     refine cond_t hf rfl h0_2 (wp_seq (wp_region_lit (st_y hf rfl rfl rfl (y_move rfl rfl) fun a hf => st_y hf rfl rfl rfl (y_eql rfl rfl rfl) fun a hf => ?_)))
     obtain ⟨r0_1, hx0_1, hq⟩ := bnd hq
     refine st_ef hf rfl rfl rfl (e_call hf rfl Tryz.call104 rfl (spec_l5Truth_ok _ (decide (a_ = 0)) _ hx0_1)) ?_
     clear hf a; rintro v0_1 w0_1 a ho0_1 hf
     obtain ⟨rfl, hB⟩ := ho0_1
     replace hm := hm.below' hB; clear hB
     refine st_y hf rfl rfl rfl (y_assign rfl rfl) fun a hf => st_y hf rfl rfl rfl (y_assign rfl rfl) fun a hf => st_end (x_then_n (wp_ret (x_blk_ret (x_then_ret ?_))))
     obtain rfl := Option.some.inj hq
     refine ret_tmp2 hf Tryz.results80 rfl rfl ?_
     exact ⟨rfl, hm.below⟩
    ·
     replace hq := (ite_f h0_2).symm.trans hq
     have h0_4 := of_decide_eq_false h0_2
     refine cond_f hf rfl h0_2 (wp_skip (x_blk_n (x_then_n (wp_seq (wp_region_lit (st_y hf rfl rfl rfl (y_move rfl rfl) fun a hf => st_y hf rfl rfl rfl (y_move rfl rfl) fun a hf => st_y hf rfl rfl rfl (y_move rfl rfl) fun a hf => ?_))))))
     obtain ⟨r0_2, hx0_2, hq⟩ := bnd hq
     refine st_ef hf rfl rfl rfl (e_call hf rfl Tryz.call105 rfl (spec_l5Two_ok _ op a_ b_ _ hx0_2)) ?_
     clear hf a; rintro v0_2 w0_2 a ho0_2 hf
     obtain ⟨rfl, hB⟩ := ho0_2
     replace hm := hm.below' hB; clear hB
     refine st_y hf rfl rfl rfl (y_extract rfl rfl rfl) fun a hf => st_y hf rfl rfl rfl (y_extract rfl rfl rfl) fun a hf => st_y hf rfl rfl rfl (y_assign rfl rfl) fun a hf => st_y hf rfl rfl rfl (y_assign rfl rfl) fun a hf => st_end (x_then_n (wp_ret ?_))
     obtain rfl := Option.some.inj hq
     refine ret_tmp2 hf Tryz.results80 rfl rfl ?_
     exact ⟨rfl, hm.below⟩

theorem pspec_l8Run__code_all : (∀ (r_ : l8Run) (k_ : Int) (in_ : List Int) (r : Int × l8Run), pspec_l8Run__code r_ k_ in_ = some r → ∀ (w0 : World) (hz : Heap) (bp0 : Nat) (v1p : Value) (h1p : GT.rep hz [v1p] r_.u.codes) (v2p : Value) (v3p : Value) (v4p : Value) (v1 : Value) (h1 : GT.rep hz [v1] in_) (hm0 : Mem w0 hz w0 [blk bp0 [v1p, v2p, (.int .i64 (r_.out.end_)), (.int .i64 (r_.out.value)), v3p, (.int .i64 (r_.steps)), (.bool (r_.over)), v4p] 52, ow [v2p] r_.out.said, ow [v3p] r_.out.cells, ow [v4p] r_.trace]), Con Tryz.prog 41 [(.pointer (some ⟨bp0, 0, none⟩)), (.int .i64 (k_)), v1] w0 (fun v w' => ∃ (x2 : Value) (x3 : Value) (x4 : Value), v = (.int .i64 (r.1)) ∧ Mem w0 hz w' [blk bp0 [v1p, x2, (.int .i64 (r.2.out.end_)), (.int .i64 (r.2.out.value)), x3, (.int .i64 (r.2.steps)), (.bool (r.2.over)), x4] 52, ow [x2] r.2.out.said, ow [x3] r.2.out.cells, ow [x4] r.2.trace])) ∧
    (∀ (r_ : l8Run) (x_ : Ins_) (regs : List Int) (r : l8Run × (List Int)), pspec_l8Run__ins r_ x_ regs = some r → ∀ (w0 : World) (hz : Heap) (bp0 : Nat) (v1p : Value) (h1p : GT.rep hz [v1p] r_.u.codes) (v2p : Value) (v3p : Value) (v4p : Value) (v1 : Value) (h1 : GT.rep hz [v1] x_.args) (v2 : Value) (hm0 : Mem w0 hz w0 [blk bp0 [v1p, v2p, (.int .i64 (r_.out.end_)), (.int .i64 (r_.out.value)), v3p, (.int .i64 (r_.steps)), (.bool (r_.over)), v4p] 52, ow [v2p] r_.out.said, ow [v3p] r_.out.cells, ow [v4p] r_.trace, ow [v2] regs]), Con Tryz.prog 56 [(.pointer (some ⟨bp0, 0, none⟩)), (.agg #[(.int .i64 (x_.op)), (.int .i64 (x_.to)), v1, (.int .i64 (x_.n_))]), v2] w0 (fun v w' => ∃ (x2 : Value) (x3 : Value) (x4 : Value), v = (.tuple #[]) ∧ Mem w0 hz w' [blk bp0 [v1p, x2, (.int .i64 (r.1.out.end_)), (.int .i64 (r.1.out.value)), x3, (.int .i64 (r.1.steps)), (.bool (r.1.over)), x4] 52, ow [x2] r.1.out.said, ow [x3] r.1.out.cells, ow [x4] r.1.trace, ow [v2] r.2])) := by
  refine pspec_l8Run__code.mutual_partial_correctness (motive_1 := fun r_ k_ in_ r => ∀ (w0 : World) (hz : Heap) (bp0 : Nat) (v1p : Value) (h1p : GT.rep hz [v1p] r_.u.codes) (v2p : Value) (v3p : Value) (v4p : Value) (v1 : Value) (h1 : GT.rep hz [v1] in_) (hm0 : Mem w0 hz w0 [blk bp0 [v1p, v2p, (.int .i64 (r_.out.end_)), (.int .i64 (r_.out.value)), v3p, (.int .i64 (r_.steps)), (.bool (r_.over)), v4p] 52, ow [v2p] r_.out.said, ow [v3p] r_.out.cells, ow [v4p] r_.trace]), Con Tryz.prog 41 [(.pointer (some ⟨bp0, 0, none⟩)), (.int .i64 (k_)), v1] w0 (fun v w' => ∃ (x2 : Value) (x3 : Value) (x4 : Value), v = (.int .i64 (r.1)) ∧ Mem w0 hz w' [blk bp0 [v1p, x2, (.int .i64 (r.2.out.end_)), (.int .i64 (r.2.out.value)), x3, (.int .i64 (r.2.steps)), (.bool (r.2.over)), x4] 52, ow [x2] r.2.out.said, ow [x3] r.2.out.cells, ow [x4] r.2.trace])) (motive_2 := fun r_ x_ regs r => ∀ (w0 : World) (hz : Heap) (bp0 : Nat) (v1p : Value) (h1p : GT.rep hz [v1p] r_.u.codes) (v2p : Value) (v3p : Value) (v4p : Value) (v1 : Value) (h1 : GT.rep hz [v1] x_.args) (v2 : Value) (hm0 : Mem w0 hz w0 [blk bp0 [v1p, v2p, (.int .i64 (r_.out.end_)), (.int .i64 (r_.out.value)), v3p, (.int .i64 (r_.steps)), (.bool (r_.over)), v4p] 52, ow [v2p] r_.out.said, ow [v3p] r_.out.cells, ow [v4p] r_.trace, ow [v2] regs]), Con Tryz.prog 56 [(.pointer (some ⟨bp0, 0, none⟩)), (.agg #[(.int .i64 (x_.op)), (.int .i64 (x_.to)), v1, (.int .i64 (x_.n_))]), v2] w0 (fun v w' => ∃ (x2 : Value) (x3 : Value) (x4 : Value), v = (.tuple #[]) ∧ Mem w0 hz w' [blk bp0 [v1p, x2, (.int .i64 (r.1.out.end_)), (.int .i64 (r.1.out.value)), x3, (.int .i64 (r.1.steps)), (.bool (r.1.over)), x4] 52, ow [x2] r.1.out.said, ow [x3] r.1.out.cells, ow [x4] r.1.trace, ow [v2] r.2])) ?_ ?_
  · intro rec_ ih_ r_ k_ in_ r hq w0 hz bp0 v1p h1p v2p v3p v4p v1 h1 hm0
    have pspec_l8Run__ins_rec : ∀ (w0 : World) (hz : Heap) (r_ : l8Run) (bp0 : Nat) (v1p : Value) (h1p : GT.rep hz [v1p] r_.u.codes) (v2p : Value) (v3p : Value) (v4p : Value) (x_ : Ins_) (v1 : Value) (h1 : GT.rep hz [v1] x_.args) (regs : List Int) (v2 : Value) (hm0 : Mem w0 hz w0 [blk bp0 [v1p, v2p, (.int .i64 (r_.out.end_)), (.int .i64 (r_.out.value)), v3p, (.int .i64 (r_.steps)), (.bool (r_.over)), v4p] 52, ow [v2p] r_.out.said, ow [v3p] r_.out.cells, ow [v4p] r_.trace, ow [v2] regs]) (r : l8Run × (List Int)) (hq : rec_ r_ x_ regs = some r), Con Tryz.prog 56 [(.pointer (some ⟨bp0, 0, none⟩)), (.agg #[(.int .i64 (x_.op)), (.int .i64 (x_.to)), v1, (.int .i64 (x_.n_))]), v2] w0 (fun v w' => ∃ (x2 : Value) (x3 : Value) (x4 : Value), v = (.tuple #[]) ∧ Mem w0 hz w' [blk bp0 [v1p, x2, (.int .i64 (r.1.out.end_)), (.int .i64 (r.1.out.value)), x3, (.int .i64 (r.1.steps)), (.bool (r.1.over)), x4] 52, ow [x2] r.1.out.said, ow [x3] r.1.out.cells, ow [x4] r.1.trace, ow [v2] r.2]) := fun w0 hz r_ bp0 v1p h1p v2p v3p v4p x_ v1 h1 regs v2 hm0 r hq => ih_ r_ x_ regs r hq w0 hz bp0 v1p h1p v2p v3p v4p v1 h1 v2 hm0
    refine con_body (l := [(0, (.pointer (some ⟨bp0, 0, none⟩))), (1, (.int .i64 (k_))), (2, v1)]) Tryz.func41 rfl Tryz.ntmps41 (Args.get ⟨rfl, rfl, rfl, trivial⟩) rfl ?_
    intro a hf
    have hm := hm0
    refine wp_seq (wp_region_lit (st_y hf rfl rfl rfl (y_assign rfl rfl) fun a hf => st_end (x_then_n (wp_seq (wp_region_lit (st_y hf rfl rfl rfl (y_move rfl rfl) fun a hf => st_y hf rfl rfl rfl (y_nilptr rfl rfl) fun a hf => ?_))))))
    refine st_y hf rfl rfl rfl (y_fieldAddr fo_52_0 rfl rfl) fun a hf => st_y hf rfl rfl rfl (y_fieldAddr fo_30_0 rfl rfl) fun a hf => st_y hf rfl rfl rfl (y_load1 Tryz.isAgg28 rfl rfl (hm.blk_cell 0 rfl rfl)) fun a hf => st_y hf rfl rfl rfl (y_move rfl rfl) fun a hf => ?_
    obtain ⟨x0_1, hx0_1, hq⟩ := bnd hq
    obtain ⟨h0_1, hx0_2⟩ := getI_some.1 hx0_1
    obtain ⟨b0_1, o0_1, c0_1, he⟩ := idx_form' h1p hx0_2
    subst he
    obtain ⟨_, _, hc0_1, hr0_1⟩ := ro_get' h1p hx0_2
    obtain ⟨_, _, rfl, rfl, _, _, rfl, rfl, h0_2⟩ := hr0_1
    obtain ⟨v0_1, rfl, -⟩ := id h0_2
    replace h0_2 : GT.rep hz [v0_1] x0_1.blocks := h0_2
    replace hc0_1 : CellsAt hz b0_1 (o0_1 + (k_).toNat * 3) [(.int .i64 (x0_1.params)), (.int .i64 (x0_1.regs)), v0_1] := hc0_1
    refine st_y hf rfl rfl rfl (y_indexAddr st_28 rfl rfl rfl h0_1 (idx_lt hx0_2)) fun a hf => st_y hf rfl rfl rfl (y_loadN (cs := [(.int .i64 (x0_1.params)), (.int .i64 (x0_1.regs)), v0_1]) Tryz.isAgg69 Tryz.sizeOf69 rfl rfl (hc0_1.mono hm.lez)) fun a hf => st_ef hf rfl rfl rfl (e_alloc hm Tryz.zeroValue69 rfl rfl) ?_
    clear hf a; rintro _ w0_1 a ⟨b0_2, rfl, hm⟩ hf
    refine st_ef0 hf rfl rfl (e_storeN 0 hf hm rfl Tryz.sizeOf69 rfl rfl rfl (one_cons rfl (one_cons rfl (one_cons (rep_one h0_2) one_nil))) rfl rfl) ?_
    clear hf a; rintro _ w0_2 a hm hf
    refine st_end (x_then_n (wp_seq (wp_region_lit (st_y hf rfl rfl rfl (y_fieldAddr fo_69_1 rfl rfl) fun a hf => st_y hf rfl rfl rfl (y_load1 Tryz.isAgg3 rfl rfl (hm.blk_cell 0 rfl rfl)) fun a hf => ?_))))
    obtain ⟨ys0_1, hx0_3, hq⟩ := bnd hq
    obtain ⟨⟨h0_31, h0_32⟩, h0_3e⟩ := makeM_some.1 hx0_3
    refine st_ef hf rfl rfl rfl (e_make (x0 := (0 : Int)) et_25 (fun _ => (Flat.own_iff.2 rfl)) hf hm rfl rfl rfl h0_31 (Int.le_refl _) h0_32) ?_
    clear hf a; rintro v0_2 w0_3 a hm hf
    rw [h0_3e] at hm
    have h0_3l : (ys0_1.length : Int) = x0_1.regs := by rw [← h0_3e]; simp only [List.length_replicate]; omega
    refine st_y hf rfl rfl rfl (y_assign rfl rfl) fun a hf => st_end (x_then_n (wp_seq (wp_region_lit (st_y hf rfl rfl rfl (y_move rfl rfl) fun a hf => st_y hf rfl rfl rfl (y_move rfl rfl) fun a hf => st_ef hf rfl rfl rfl (e_copy (α := Int) (xs := ys0_1) (ys := in_) (lo := 0) (hi := ys0_1.length) 0 st_25 (show 0 < 1 from by decide) hf hm rfl (hm.now h1) rfl (by rw [hm.subV_whole (α := Int) 0 rfl]; rfl) rfl (Nat.zero_le _) (Nat.le_refl _)) ?_))))
    clear hf a; rintro _ w0_4 a ⟨rfl, hm⟩ hf
    refine st_end (x_then_n (wp_seq (wp_region_lit (st_y hf rfl rfl rfl (y_assign rfl rfl) fun a hf => st_end (x_then_n ?_)))))
    obtain ⟨p0_1, c0_2, he, hl0_1⟩ := ro_slice (hm.ow_rep 3 rfl)
    subst he
    obtain ⟨p0_2, c0_3, he, hl0_2⟩ := ro_slice (hm.ow_rep 4 rfl)
    subst he
    obtain ⟨p0_3, c0_4, he, hl0_3⟩ := ro_slice (hm.ow_rep 5 rfl)
    subst he
    obtain ⟨p0_4, c0_5, he, hl0_4⟩ := ro_slice (hm.ow_rep 0 rfl)
    subst he
    refine wp_block ?_
    obtain ⟨r0_1, hl0_5, hq⟩ := bnd hq
    refine wp_loopM _ (fun xs1_1 a w => ∃ (v1_1 : Value) (v1_2 : Value) (v1_3 : Value), Fr 111 [(0, (.pointer (some ⟨bp0, 0, none⟩))), (1, (.int .i64 (k_))), (7, (.pointer (some ⟨b0_2, 0, none⟩))), (8, (.slice p0_4 (copyL ys0_1 in_ 0 ys0_1.length).length c0_5)), (9, (.int .i64 (xs1_1.2.2.2.2.2.2.2.2)))] a ∧ Mem w0 hz w [blk bp0 [(.slice (some ⟨b0_1, o0_1, none⟩) r_.u.codes.length c0_1), v1_1, (.int .i64 (xs1_1.2.1)), (.int .i64 (xs1_1.2.2.1)), v1_2, (.int .i64 (xs1_1.2.2.2.2.1)), (.bool (xs1_1.2.2.2.2.2.1)), v1_3] 52, ow [v1_1] xs1_1.1, ow [v1_2] xs1_1.2.2.2.1, ow [v1_3] xs1_1.2.2.2.2.2.2.1, blk b0_2 [(.int .i64 (x0_1.params)), (.int .i64 (x0_1.regs)), v0_1] 69, ow [(.slice p0_4 (copyL ys0_1 in_ 0 ys0_1.length).length c0_5)] xs1_1.2.2.2.2.2.2.2.1]) hl0_5 ?_ ?_
    ·
     exact ⟨(.slice p0_1 r_.out.said.length c0_2), (.slice p0_2 r_.out.cells.length c0_3), (.slice p0_3 r_.trace.length c0_4), hf.sub ⟨rfl, rfl, rfl, rfl, rfl, trivial⟩, hm.pick [2, 3, 4, 5, 1, 0] (by decide) rfl⟩
    ·
     clear hf hm
     rintro xs1_1 a w q0_1 ⟨v1_1, v1_2, v1_3, hf, hm⟩ hb0_1 ho0_1
     refine wp_block (wp_seq (wp_region_lit (st_y hf rfl rfl rfl (y_fieldAddr fo_69_2 rfl rfl) fun a hf => st_y hf rfl rfl rfl (y_load1 Tryz.isAgg67 rfl rfl (hm.blk_cell 4 rfl rfl)) fun a hf => st_y hf rfl rfl rfl (y_move rfl rfl) fun a hf => ?_)))
     obtain ⟨x1_1, hx1_1, hb0_1⟩ := bnd hb0_1
     obtain ⟨h1_1, hx1_2⟩ := getI_some.1 hx1_1
     obtain ⟨b1_1, o1_1, c1_1, he⟩ := idx_form' h0_2 hx1_2
     subst he
     obtain ⟨_, _, hc1_1, hr1_1⟩ := ro_get' h0_2 hx1_2
     obtain ⟨_, _, rfl, h1_2, _, _, rfl, h1_3, _, _, rfl, rfl, _, _, rfl, rfl, h1_4⟩ := hr1_1
     obtain ⟨v1_4, rfl, -⟩ := id h1_2
     replace h1_2 : GT.rep hz [v1_4] x1_1.phis := h1_2
     obtain ⟨v1_5, rfl, -⟩ := id h1_3
     replace h1_3 : GT.rep hz [v1_5] x1_1.ins := h1_3
     obtain ⟨v1_6, rfl, -⟩ := id h1_4
     replace h1_4 : GT.rep hz [v1_6] x1_1.next_ := h1_4
     replace hc1_1 : CellsAt hz b1_1 (o1_1 + (xs1_1.2.2.2.2.2.2.2.2).toNat * 5) [v1_4, v1_5, (.int .i64 (x1_1.jump)), (.int .i64 (x1_1.on)), v1_6] := hc1_1
     refine st_y hf rfl rfl rfl (y_indexAddr st_67 rfl rfl rfl h1_1 (idx_lt hx1_2)) fun a hf => st_y hf rfl rfl rfl (y_loadN (cs := [v1_4, v1_5, (.int .i64 (x1_1.jump)), (.int .i64 (x1_1.on)), v1_6]) Tryz.isAgg86 Tryz.sizeOf86 rfl rfl (hc1_1.mono hm.lez)) fun a hf => st_ef hf rfl rfl rfl (e_alloc hm Tryz.zeroValue86 rfl rfl) ?_
     clear hf a; rintro _ w1_1 a ⟨b1_2, rfl, hm⟩ hf
     refine st_ef0 hf rfl rfl (e_storeN 0 hf hm rfl Tryz.sizeOf86 rfl rfl rfl (one_cons (rep_one h1_2) (one_cons (rep_one h1_3) (one_cons rfl (one_cons rfl (one_cons (rep_one h1_4) one_nil))))) rfl rfl) ?_
     clear hf a; rintro _ w1_2 a hm hf
     refine st_end (x_then_n (wp_seq (wp_seq (wp_region_lit (st_y hf rfl rfl rfl (y_move rfl rfl) fun a hf => st_y hf rfl rfl rfl (y_move rfl rfl) fun a hf => st_y hf rfl rfl rfl (y_nilptr rfl rfl) fun a hf => st_y hf rfl rfl rfl (y_fieldAddr fo_52_0 rfl rfl) fun a hf => ?_)))))
     refine st_y hf rfl rfl rfl (y_fieldAddr fo_30_0 rfl rfl) fun a hf => st_y hf rfl rfl rfl (y_load1 Tryz.isAgg28 rfl rfl (hm.blk_cell 1 rfl rfl)) fun a hf => ?_
     have hl1_1 := rep_len h1p
     refine st_y hf rfl rfl rfl (y_len_slice st_28.und rfl rfl) fun a hf => st_y hf rfl rfl rfl (y_sub64 rfl rfl rfl (by omega) (by omega)) fun a hf => st_y hf rfl rfl rfl (y_eql rfl rfl rfl) fun a hf => st_end (x_then_n ?_)
     obtain ⟨s1_1, hq1_1, hb0_1⟩ := bnd hb0_1
     refine code_cut (K := fun a w => ∃ (v1_7 : Value), Fr 111 [(0, (.pointer (some ⟨bp0, 0, none⟩))), (1, (.int .i64 (k_))), (7, (.pointer (some ⟨b0_2, 0, none⟩))), (8, (.slice p0_4 (copyL ys0_1 in_ 0 ys0_1.length).length c0_5)), (9, (.int .i64 (xs1_1.2.2.2.2.2.2.2.2))), (10, (.pointer (some ⟨b1_2, 0, none⟩)))] a ∧ Mem w0 hz w [blk bp0 [(.slice (some ⟨b0_1, o0_1, none⟩) r_.u.codes.length c0_1), v1_1, (.int .i64 (xs1_1.2.1)), (.int .i64 (xs1_1.2.2.1)), v1_2, (.int .i64 (xs1_1.2.2.2.2.1)), (.bool (xs1_1.2.2.2.2.2.1)), v1_7] 52, ow [v1_1] xs1_1.1, ow [v1_2] xs1_1.2.2.2.1, ow [v1_7] s1_1, blk b0_2 [(.int .i64 (x0_1.params)), (.int .i64 (x0_1.regs)), (.slice (some ⟨b1_1, o1_1, none⟩) x0_1.blocks.length c1_1)] 69, ow [(.slice p0_4 (copyL ys0_1 in_ 0 ys0_1.length).length c0_5)] xs1_1.2.2.2.2.2.2.2.1, blk b1_2 [v1_4, v1_5, (.int .i64 (x1_1.jump)), (.int .i64 (x1_1.on)), v1_6] 86]) ?_ ?_
     ·
      rcases bcases (decide (k_ = (((r_.u.codes.length : Int)) - 1))) with h2_1 | h2_1
      ·
       replace hq1_1 := (ite_t h2_1).symm.trans hq1_1
       have h2_2 := of_decide_eq_true h2_1
       refine cond_t hf rfl h2_1 (wp_region_lit (st_y hf rfl rfl rfl (y_move rfl rfl) fun a hf => st_y hf rfl rfl rfl (y_move rfl rfl) fun a hf => st_y hf rfl rfl rfl (y_nilptr rfl rfl) fun a hf => st_y hf rfl rfl rfl (y_fieldAddr fo_52_4 rfl rfl) fun a hf => st_y hf rfl rfl rfl (y_load1 Tryz.isAgg25 rfl rfl (hm.blk_cell 1 rfl rfl)) fun a hf => st_y hf rfl rfl rfl (y_move rfl rfl) fun a hf => st_ef hf rfl rfl rfl (e_build (vs := #[(0, (.int .i64 (xs1_1.2.2.2.2.2.2.2.2)))]) (cs := [(.int .i64 (xs1_1.2.2.2.2.2.2.2.2))]) et_25 hf hm rfl rfl (by kernel_rfl) rfl rfl) ?_))
       clear hf a; rintro _ w2_1 a ⟨b2_1, rfl, hm⟩ hf
       replace hm := hm.lit (xs := ([xs1_1.2.2.2.2.2.2.2.2] : List Int)) 0 rfl rfl rfl rfl
       obtain ⟨ys2_1, hx2_1, hq1_1⟩ := bnd hq1_1
       obtain ⟨h2_3, h2_3e⟩ := appM_some.1 hx2_1
       refine st_ef hf rfl rfl rfl (e_append 5 et_25 hf hm rfl (hm.ow_rep 0 rfl) rfl rfl rfl h2_3) ?_
       clear hf a; rintro v2_1 w2_2 a hm hf
       rw [h2_3e] at hm
       refine st_y hf rfl rfl rfl (y_nilptr rfl rfl) fun a hf => st_y hf rfl rfl rfl (y_fieldAddr fo_52_4 rfl rfl) fun a hf => st_ef0 hf rfl rfl (e_store1 2 hf hm rfl Tryz.sizeOf25 rfl rfl rfl (rep_one (hm.ow_rep 5 rfl)) rfl) ?_
       clear hf a; rintro _ w2_3 a hm hf
       refine st_end (x_then_n ?_)
       obtain rfl := Option.some.inj hq1_1
       exact ⟨v2_1, hf.sub ⟨rfl, rfl, rfl, rfl, rfl, rfl, trivial⟩, hm.pick [2, 3, 4, 5, 6, 7, 1] (by decide) rfl⟩
      ·
       replace hq1_1 := (ite_f h2_1).symm.trans hq1_1
       have h2_4 := of_decide_eq_false h2_1
       refine cond_f hf rfl h2_1 (wp_skip (x_then_n ?_))
       obtain rfl := Option.some.inj hq1_1
       exact ⟨v1_3, hf.sub ⟨rfl, rfl, rfl, rfl, rfl, rfl, trivial⟩, hm.pick [1, 2, 3, 4, 5, 6, 0] (by decide) rfl⟩
     ·
      clear hf hm
      rintro a w ⟨v1_7, hf, hm⟩
      refine x_then_n (wp_seq (wp_seq (wp_region_lit (st_y hf rfl rfl rfl (y_assign rfl rfl) fun a hf => st_end (x_then_n ?_)))))
      obtain ⟨p1_1, c1_2, he, hl1_2⟩ := ro_slice (hm.ow_rep 1 rfl)
      subst he
      obtain ⟨p1_2, c1_3, he, hl1_3⟩ := ro_slice (hm.ow_rep 2 rfl)
      subst he
      obtain ⟨p1_3, c1_4, he, hl1_4⟩ := ro_slice (hm.ow_rep 3 rfl)
      subst he
      refine wp_block ?_
      obtain ⟨r1_1, hl1_5, hb0_1⟩ := bnd hb0_1
      refine wp_forN _ (fun i2_1 xs2_1 a w => ∃ (v2_2 : Value) (v2_3 : Value) (v2_4 : Value), Fr 111 [(0, (.pointer (some ⟨bp0, 0, none⟩))), (1, (.int .i64 (k_))), (7, (.pointer (some ⟨b0_2, 0, none⟩))), (8, (.slice p0_4 (copyL ys0_1 in_ 0 ys0_1.length).length c0_5)), (9, (.int .i64 (xs1_1.2.2.2.2.2.2.2.2))), (10, (.pointer (some ⟨b1_2, 0, none⟩))), (11, (.int .i64 (i2_1)))] a ∧ Mem w0 hz w [blk bp0 [(.slice (some ⟨b0_1, o0_1, none⟩) r_.u.codes.length c0_1), v2_2, (.int .i64 (xs2_1.2.1)), (.int .i64 (xs2_1.2.2.1)), v2_3, (.int .i64 (xs2_1.2.2.2.2.1)), (.bool (xs2_1.2.2.2.2.2.1)), v2_4] 52, ow [v2_2] xs2_1.1, ow [v2_3] xs2_1.2.2.2.1, ow [v2_4] xs2_1.2.2.2.2.2.2.1, blk b0_2 [(.int .i64 (x0_1.params)), (.int .i64 (x0_1.regs)), (.slice (some ⟨b1_1, o1_1, none⟩) x0_1.blocks.length c1_1)] 69, ow [(.slice p0_4 (copyL ys0_1 in_ 0 ys0_1.length).length c0_5)] xs2_1.2.2.2.2.2.2.2, blk b1_2 [v1_4, v1_5, (.int .i64 (x1_1.jump)), (.int .i64 (x1_1.on)), v1_6] 86]) (0) ((x1_1.ins.length : Int)) hl1_5 ?_ ?_ ?_
      ·
       exact ⟨(.slice p1_1 xs1_1.1.length c1_2), (.slice p1_2 xs1_1.2.2.2.1.length c1_3), (.slice p1_3 s1_1.length c1_4), hf.sub ⟨rfl, rfl, rfl, rfl, rfl, rfl, rfl, trivial⟩, hm.pick [0, 1, 2, 3, 4, 5, 6] (by decide) rfl⟩
      ·
       clear hf hm
       rintro i2_1 xs2_1 a w ⟨v2_2, v2_3, v2_4, hf, hm⟩ hi2_1 hi2_2 q1_1 hb1_1 ho1_1
       refine wp_seq (wp_seq (wp_region_lit (st_y hf rfl rfl rfl (y_move rfl rfl) fun a hf => st_y hf rfl rfl rfl (y_fieldAddr fo_86_1 rfl rfl) fun a hf => st_y hf rfl rfl rfl (y_load1 Tryz.isAgg84 rfl rfl (hm.blk_cell 6 rfl rfl)) fun a hf => ?_)))
       obtain ⟨p2_1, c2_1, he, hl2_1⟩ := ro_slice h1_3
       subst he
       refine st_y hf rfl rfl rfl (y_len_slice st_84.und rfl rfl) fun a hf => st_y hf rfl rfl rfl (y_lss rfl rfl rfl) fun a hf => st_end (x_then_n (cond_t hf rfl (decide_eq_true (by omega)) (wp_skip (x_then_n (wp_seq (wp_block ?_))))))
       refine wp_seq (wp_seq (wp_region_lit (st_y hf rfl rfl rfl (y_move rfl rfl) fun a hf => ?_)))
       obtain ⟨r2_1, hx2_2, hb1_1⟩ := bnd hb1_1
       obtain ⟨hz2_1, hle, hm1, hsub, hk2_1⟩ := hm.take2 (L1 := [blk bp0 [(.slice (some ⟨b0_1, o0_1, none⟩) r_.u.codes.length c0_1), v2_2, (.int .i64 (xs2_1.2.1)), (.int .i64 (xs2_1.2.2.1)), v2_3, (.int .i64 (xs2_1.2.2.2.2.1)), (.bool (xs2_1.2.2.2.2.2.1)), v2_4] 52, ow [v2_2] xs2_1.1, ow [v2_3] xs2_1.2.2.2.1, ow [v2_4] xs2_1.2.2.2.2.2.2.1]) (L2 := [blk b0_2 [(.int .i64 (x0_1.params)), (.int .i64 (x0_1.regs)), (.slice (some ⟨b1_1, o1_1, none⟩) x0_1.blocks.length c1_1)] 69, ow [(.slice p0_4 (copyL ys0_1 in_ 0 ys0_1.length).length c0_5)] xs2_1.2.2.2.2.2.2.2, blk b1_2 [v1_4, (.slice p2_1 x1_1.ins.length c2_1), (.int .i64 (x1_1.jump)), (.int .i64 (x1_1.on)), v1_6] 86]) [0, 1, 2, 3] [4, 5, 6] (by decide) rfl rfl
       refine st_ef hf rfl rfl rfl (e_call hf rfl Tryz.call55 rfl (pspec_l8Run__take_ok _ hz2_1 (⟨r_.u, (⟨xs2_1.1, xs2_1.2.1, xs2_1.2.2.1, xs2_1.2.2.2.1⟩ : Outcome_), xs2_1.2.2.2.2.1, xs2_1.2.2.2.2.2.1, xs2_1.2.2.2.2.2.2.1⟩ : l8Run) bp0 (.slice (some ⟨b0_1, o0_1, none⟩) r_.u.codes.length c0_1) (GT.mono hle h1p) v2_2 v2_3 v2_4 hm1  _ hx2_2)) ?_
       clear hf a; rintro v2_5 w2_4 a ho2_1 hf
       obtain ⟨v2_6, v2_7, v2_8, rfl, hB⟩ := ho2_1
       replace hm := hk2_1 _ _ hB; clear hB
       refine st_end (x_then_n ?_)
       obtain ⟨s2_1, hq2_1, hb1_1⟩ := bnd hb1_1
       refine code_cut (K := fun a w => ∃ (v2_9 : Value) (v2_10 : Value) (v2_11 : Value), Fr 111 [(0, (.pointer (some ⟨bp0, 0, none⟩))), (1, (.int .i64 (k_))), (7, (.pointer (some ⟨b0_2, 0, none⟩))), (8, (.slice p0_4 (copyL ys0_1 in_ 0 ys0_1.length).length c0_5)), (9, (.int .i64 (xs1_1.2.2.2.2.2.2.2.2))), (10, (.pointer (some ⟨b1_2, 0, none⟩))), (11, (.int .i64 (i2_1)))] a ∧ Mem w0 hz w [blk bp0 [(.slice (some ⟨b0_1, o0_1, none⟩) r_.u.codes.length c0_1), v2_9, (.int .i64 (s2_1.2.1)), (.int .i64 (s2_1.2.2.1)), v2_10, (.int .i64 (s2_1.2.2.2.2.1)), (.bool (s2_1.2.2.2.2.2.1)), v2_11] 52, ow [v2_9] s2_1.1, ow [v2_10] s2_1.2.2.2.1, ow [v2_11] s2_1.2.2.2.2.2.2.1, blk b0_2 [(.int .i64 (x0_1.params)), (.int .i64 (x0_1.regs)), (.slice (some ⟨b1_1, o1_1, none⟩) x0_1.blocks.length c1_1)] 69, ow [(.slice p0_4 (copyL ys0_1 in_ 0 ys0_1.length).length c0_5)] s2_1.2.2.2.2.2.2.2, blk b1_2 [v1_4, (.slice p2_1 x1_1.ins.length c2_1), (.int .i64 (x1_1.jump)), (.int .i64 (x1_1.on)), v1_6] 86]) ?_ ?_
       ·
        rcases bcases (r2_1.1) with h3_1 | h3_1
        ·
         replace hq2_1 := (ite_t h3_1).symm.trans hq2_1
         refine cond_t hf rfl h3_1 (wp_region_lit (st_y hf rfl rfl rfl (y_move rfl rfl) fun a hf => st_y hf rfl rfl rfl (y_fieldAddr fo_86_1 rfl rfl) fun a hf => st_y hf rfl rfl rfl (y_load1 Tryz.isAgg84 rfl rfl (hm.blk_cell 6 rfl rfl)) fun a hf => st_y hf rfl rfl rfl (y_move rfl rfl) fun a hf => ?_))
         obtain ⟨x3_1, hx3_1, hq2_1⟩ := bnd hq2_1
         obtain ⟨h3_2, hx3_2⟩ := getI_some.1 hx3_1
         obtain ⟨b3_1, o3_1, c3_1, he⟩ := idx_form' h1_3 hx3_2
         simp only [Value.slice.injEq, Option.some.injEq] at he; obtain ⟨rfl, _, rfl⟩ := he
         obtain ⟨_, _, hc3_1, hr3_1⟩ := ro_get' h1_3 hx3_2
         obtain ⟨_, _, rfl, rfl, _, _, rfl, rfl, _, _, rfl, h3_3, rfl⟩ := hr3_1
         obtain ⟨v3_1, rfl, -⟩ := id h3_3
         replace h3_3 : GT.rep hz [v3_1] x3_1.args := h3_3
         replace hc3_1 : CellsAt hz b3_1 (o3_1 + (i2_1).toNat * 4) [(.int .i64 (x3_1.op)), (.int .i64 (x3_1.to)), v3_1, (.int .i64 (x3_1.n_))] := hc3_1
         refine st_y hf rfl rfl rfl (y_indexAddr st_84 rfl rfl rfl h3_2 (idx_lt hx3_2)) fun a hf => st_y hf rfl rfl rfl (y_loadN (cs := [(.int .i64 (x3_1.op)), (.int .i64 (x3_1.to)), v3_1, (.int .i64 (x3_1.n_))]) Tryz.isAgg91 Tryz.sizeOf91 rfl rfl (hc3_1.mono hm.lez)) fun a hf => st_y hf rfl rfl rfl (y_move rfl rfl) fun a hf => ?_
         obtain ⟨r3_1, hx3_3, hq2_1⟩ := bnd hq2_1
         obtain ⟨hz3_1, hle, hm1, hsub, hk3_1⟩ := hm.take2 (L1 := [blk bp0 [(.slice (some ⟨b0_1, o0_1, none⟩) r_.u.codes.length c0_1), v2_6, (.int .i64 (r2_1.2.out.end_)), (.int .i64 (r2_1.2.out.value)), v2_7, (.int .i64 (r2_1.2.steps)), (.bool (r2_1.2.over)), v2_8] 52, ow [v2_6] r2_1.2.out.said, ow [v2_7] r2_1.2.out.cells, ow [v2_8] r2_1.2.trace, ow [(.slice p0_4 (copyL ys0_1 in_ 0 ys0_1.length).length c0_5)] xs2_1.2.2.2.2.2.2.2]) (L2 := [blk b0_2 [(.int .i64 (x0_1.params)), (.int .i64 (x0_1.regs)), (.slice (some ⟨b1_1, o1_1, none⟩) x0_1.blocks.length c1_1)] 69, blk b1_2 [v1_4, (.slice (some ⟨b3_1, o3_1, none⟩) x1_1.ins.length c2_1), (.int .i64 (x1_1.jump)), (.int .i64 (x1_1.on)), v1_6] 86]) [0, 1, 2, 3, 5] [4, 6] (by decide) rfl rfl
         refine st_ef hf rfl rfl rfl (e_call hf rfl Tryz.call56 rfl (pspec_l8Run__ins_rec _ hz3_1 (⟨r_.u, r2_1.2.out, r2_1.2.steps, r2_1.2.over, r2_1.2.trace⟩ : l8Run) bp0 (.slice (some ⟨b0_1, o0_1, none⟩) r_.u.codes.length c0_1) (GT.mono hle h1p) v2_6 v2_7 v2_8 x3_1 v3_1 (GT.mono hle h3_3) xs2_1.2.2.2.2.2.2.2 (.slice p0_4 (copyL ys0_1 in_ 0 ys0_1.length).length c0_5) hm1  _ hx3_3)) ?_
         clear hf a; rintro v3_2 w3_1 a ho3_1 hf
         obtain ⟨v3_3, v3_4, v3_5, rfl, hB⟩ := ho3_1
         replace hm := hk3_1 _ _ hB; clear hB
         refine st_end (x_then_n ?_)
         obtain rfl := Option.some.inj hq2_1
         exact ⟨v3_3, v3_4, v3_5, hf.sub ⟨rfl, rfl, rfl, rfl, rfl, rfl, rfl, trivial⟩, hm.pick [0, 1, 2, 3, 5, 4, 6] (by decide) rfl⟩
        ·
         replace hq2_1 := (ite_f h3_1).symm.trans hq2_1
         refine cond_f hf rfl h3_1 (wp_skip (x_then_n ?_))
         obtain rfl := Option.some.inj hq2_1
         exact ⟨v2_6, v2_7, v2_8, hf.sub ⟨rfl, rfl, rfl, rfl, rfl, rfl, rfl, trivial⟩, hm.pick [0, 1, 2, 3, 4, 5, 6] (by decide) rfl⟩
       ·
        clear hf hm
        rintro a w ⟨v2_9, v2_10, v2_11, hf, hm⟩
        refine x_then_n (wp_seq (wp_region_lit (st_y hf rfl rfl rfl (y_move rfl rfl) fun a hf => st_y hf rfl rfl rfl (y_nilptr rfl rfl) fun a hf => st_y hf rfl rfl rfl (y_fieldAddr fo_52_3 rfl rfl) fun a hf => st_y hf rfl rfl rfl (y_load1 Tryz.isAgg4 rfl rfl (hm.blk_cell 0 rfl rfl)) fun a hf => st_end (x_then_n ?_))))
        rcases bcases (s2_1.2.2.2.2.2.1) with h2_5 | h2_5
        ·
         replace hb1_1 := (ite_t h2_5).symm.trans hb1_1
         refine cond_t hf rfl h2_5 (wp_seq (wp_region_lit (st_y hf rfl rfl rfl (y_assign rfl rfl) fun a hf => st_end (x_then_n (wp_ret (x_blk_ret (x_then_ret ?_)))))))
         refine x_then_ret (x_blk_ret (x_then_ret (x_blk_ret (x_then_ret (x_blk_ret ?_)))))
         obtain rfl := Option.some.inj hb1_1
         obtain rfl := ho1_1 _ rfl
         replace hb0_1 := sum_r hb0_1
         obtain rfl := Option.some.inj hb0_1
         obtain rfl := ho0_1 _ rfl
         obtain rfl := Option.some.inj hq
         refine ret_tmp hf Tryz.results41 rfl ?_
         exact ⟨v2_9, v2_10, v2_11, rfl, hm.pick [0, 1, 2, 3] (by decide) rfl⟩
        ·
         replace hb1_1 := (ite_f h2_5).symm.trans hb1_1
         refine cond_f hf rfl h2_5 (wp_skip (x_blk_n (x_then_n (wp_region_lit (st_y hf rfl rfl rfl (y_move rfl rfl) fun a hf => st_y hf rfl rfl rfl (y_add64 rfl rfl rfl (by omega) (by omega)) fun a hf => st_y hf rfl rfl rfl (y_assign rfl rfl) fun a hf => st_end ?_)))))
         refine x_then_n ?_
         obtain rfl := Option.some.inj hb1_1
         exact ⟨_, rfl, v2_9, v2_10, v2_11, hf.sub ⟨rfl, rfl, rfl, rfl, rfl, rfl, rfl, trivial⟩, hm.pick [0, 1, 2, 3, 4, 5, 6] (by decide) rfl⟩
      ·
       clear hf hm
       rintro i1_2 xs1_2 a w ⟨v1_8, v1_9, v1_10, hf, hm⟩ hi1_1 hi1_2 rfl
       replace hb0_1 := sum_l hb0_1
       refine wp_seq (wp_seq (wp_region_lit (st_y hf rfl rfl rfl (y_move rfl rfl) fun a hf => st_y hf rfl rfl rfl (y_fieldAddr fo_86_1 rfl rfl) fun a hf => st_y hf rfl rfl rfl (y_load1 Tryz.isAgg84 rfl rfl (hm.blk_cell 6 rfl rfl)) fun a hf => ?_)))
       obtain ⟨p1_4, c1_5, he, hl1_6⟩ := ro_slice h1_3
       subst he
       refine st_y hf rfl rfl rfl (y_len_slice st_84.und rfl rfl) fun a hf => st_y hf rfl rfl rfl (y_lss rfl rfl rfl) fun a hf => st_end (x_then_n (cond_f hf rfl (decide_eq_false (by omega)) (wp_exit (x_then_exit (x_then_exit (x_blk_hit ?_))))))
       refine x_then_n (wp_seq (wp_seq (wp_region_lit (st_y hf rfl rfl rfl (y_move rfl rfl) fun a hf => ?_))))
       obtain ⟨r1_2, hx1_3, hb0_1⟩ := bnd hb0_1
       obtain ⟨hz1_1, hle, hm1, hsub, hk1_1⟩ := hm.take2 (L1 := [blk bp0 [(.slice (some ⟨b0_1, o0_1, none⟩) r_.u.codes.length c0_1), v1_8, (.int .i64 (xs1_2.2.1)), (.int .i64 (xs1_2.2.2.1)), v1_9, (.int .i64 (xs1_2.2.2.2.2.1)), (.bool (xs1_2.2.2.2.2.2.1)), v1_10] 52, ow [v1_8] xs1_2.1, ow [v1_9] xs1_2.2.2.2.1, ow [v1_10] xs1_2.2.2.2.2.2.2.1]) (L2 := [blk b0_2 [(.int .i64 (x0_1.params)), (.int .i64 (x0_1.regs)), (.slice (some ⟨b1_1, o1_1, none⟩) x0_1.blocks.length c1_1)] 69, ow [(.slice p0_4 (copyL ys0_1 in_ 0 ys0_1.length).length c0_5)] xs1_2.2.2.2.2.2.2.2, blk b1_2 [v1_4, (.slice p1_4 x1_1.ins.length c1_5), (.int .i64 (x1_1.jump)), (.int .i64 (x1_1.on)), v1_6] 86]) [0, 1, 2, 3] [4, 5, 6] (by decide) rfl rfl
       refine st_ef hf rfl rfl rfl (e_call hf rfl Tryz.call55 rfl (pspec_l8Run__take_ok _ hz1_1 (⟨r_.u, (⟨xs1_2.1, xs1_2.2.1, xs1_2.2.2.1, xs1_2.2.2.2.1⟩ : Outcome_), xs1_2.2.2.2.2.1, xs1_2.2.2.2.2.2.1, xs1_2.2.2.2.2.2.2.1⟩ : l8Run) bp0 (.slice (some ⟨b0_1, o0_1, none⟩) r_.u.codes.length c0_1) (GT.mono hle h1p) v1_8 v1_9 v1_10 hm1  _ hx1_3)) ?_
       clear hf a; rintro v1_11 w1_3 a ho1_2 hf
       obtain ⟨v1_12, v1_13, v1_14, rfl, hB⟩ := ho1_2
       replace hm := hk1_1 _ _ hB; clear hB
       refine st_y hf rfl rfl rfl (y_not rfl rfl) fun a hf => st_end (x_then_n ?_)
       rcases bcases (!(r1_2.1)) with h1_5 | h1_5
       ·
        replace hb0_1 := (ite_t h1_5).symm.trans hb0_1
        have h1_6 := bnot_t' h1_5
        refine cond_t hf rfl h1_5 (wp_seq (wp_region_lit (st_y hf rfl rfl rfl (y_assign rfl rfl) fun a hf => st_end (x_then_n (wp_ret (x_then_ret (x_blk_ret ?_)))))))
        refine x_then_ret (x_blk_ret ?_)
        obtain rfl := Option.some.inj hb0_1
        obtain rfl := ho0_1 _ rfl
        obtain rfl := Option.some.inj hq
        refine ret_tmp hf Tryz.results41 rfl ?_
        exact ⟨v1_12, v1_13, v1_14, rfl, hm.pick [0, 1, 2, 3] (by decide) rfl⟩
       ·
        replace hb0_1 := (ite_f h1_5).symm.trans hb0_1
        have h1_7 := bnot_f' h1_5
        refine cond_f hf rfl h1_5 (wp_skip (x_then_n (wp_seq (wp_region_lit (st_y hf rfl rfl rfl (y_assign rfl rfl) fun a hf => st_end (x_then_n (wp_seq ?_)))))))
        obtain ⟨c1_6, hq1_2, hb0_1⟩ := bnd hb0_1
        refine code_cut (K := fun a w => ∃ s1_2, c1_6 = .inl s1_2 ∧ Fr 111 [(0, (.pointer (some ⟨bp0, 0, none⟩))), (1, (.int .i64 (k_))), (7, (.pointer (some ⟨b0_2, 0, none⟩))), (8, (.slice p0_4 (copyL ys0_1 in_ 0 ys0_1.length).length c0_5)), (9, (.int .i64 (xs1_1.2.2.2.2.2.2.2.2))), (12, (.int .i64 (s1_2)))] a ∧ Mem w0 hz w [blk bp0 [(.slice (some ⟨b0_1, o0_1, none⟩) r_.u.codes.length c0_1), v1_12, (.int .i64 (r1_2.2.out.end_)), (.int .i64 (r1_2.2.out.value)), v1_13, (.int .i64 (r1_2.2.steps)), (.bool (r1_2.2.over)), v1_14] 52, ow [v1_12] r1_2.2.out.said, ow [v1_13] r1_2.2.out.cells, ow [v1_14] r1_2.2.trace, blk b0_2 [(.int .i64 (x0_1.params)), (.int .i64 (x0_1.regs)), (.slice (some ⟨b1_1, o1_1, none⟩) x0_1.blocks.length c1_1)] 69, ow [(.slice p0_4 (copyL ys0_1 in_ 0 ys0_1.length).length c0_5)] xs1_2.2.2.2.2.2.2.2]) ?_ ?_
        ·
         refine wp_block (wp_seq (wp_region_lit (st_y hf rfl rfl rfl (y_fieldAddr fo_86_2 rfl rfl) fun a hf => st_y hf rfl rfl rfl (y_load1 Tryz.isAgg3 rfl rfl (hm.blk_cell 6 rfl rfl)) fun a hf => st_y hf rfl rfl rfl (y_eql rfl rfl rfl) fun a hf => st_y hf rfl rfl rfl (y_assign rfl rfl) fun a hf => st_end (x_then_n ?_))))
         rcases bcases (decide (x1_1.jump = 3)) with h2_6 | h2_6
         ·
          replace hq1_2 := (ite_t h2_6).symm.trans hq1_2
          have h2_7 := of_decide_eq_true h2_6
          refine cond_t hf rfl h2_6 (wp_seq (wp_region_lit (st_y hf rfl rfl rfl (y_move rfl rfl) fun a hf => st_y hf rfl rfl rfl (y_fieldAddr fo_86_3 rfl rfl) fun a hf => st_y hf rfl rfl rfl (y_load1 Tryz.isAgg3 rfl rfl (hm.blk_cell 6 rfl rfl)) fun a hf => ?_)))
          obtain ⟨x2_1, hx2_3, hq1_2⟩ := bnd hq1_2
          obtain ⟨h2_8, hx2_4⟩ := getI_some.1 hx2_3
          obtain ⟨b2_2, o2_1, c2_2, he⟩ := idx_form (hm.ow_rep 5 rfl) hx2_4
          simp only [Value.slice.injEq, Option.some.injEq] at he; obtain ⟨rfl, _, rfl⟩ := he
          have hL2_1 := rep_slice_len (hm.ow_rep 5 rfl)
          refine st_y hf rfl rfl rfl (y_indexAddr st_25 rfl rfl rfl h2_8 (idx_lt2 hx2_4 hL2_1)) fun a hf => st_y hf rfl rfl rfl (y_load1 Tryz.isAgg3 rfl rfl ((flat_cells (cs := [(.int .i64 (x2_1))]) (hm.ow_rep 5 rfl) hx2_4 rfl).cell (j := 0) rfl)) fun a hf => st_y hf rfl rfl rfl (y_assign rfl rfl) fun a hf => st_end (x_then_n (wp_ret (x_blk_ret (x_then_ret (x_then_ret ?_)))))
          refine x_blk_ret (x_then_ret (x_blk_ret ?_))
          obtain rfl := Option.some.inj hq1_2
          replace hb0_1 := sum_r hb0_1
          obtain rfl := Option.some.inj hb0_1
          obtain rfl := ho0_1 _ rfl
          obtain rfl := Option.some.inj hq
          refine ret_tmp hf Tryz.results41 rfl ?_
          exact ⟨v1_12, v1_13, v1_14, rfl, hm.pick [0, 1, 2, 3] (by decide) rfl⟩
         ·
          replace hq1_2 := (ite_f h2_6).symm.trans hq1_2
          have h2_9 := of_decide_eq_false h2_6
          refine cond_f hf rfl h2_6 (wp_seq ?_)
          obtain ⟨s2_2, hq2_2, hq1_2⟩ := bnd hq1_2
          refine code_cut (K := fun a w => Fr 111 [(0, (.pointer (some ⟨bp0, 0, none⟩))), (1, (.int .i64 (k_))), (7, (.pointer (some ⟨b0_2, 0, none⟩))), (8, (.slice p0_4 (copyL ys0_1 in_ 0 ys0_1.length).length c0_5)), (9, (.int .i64 (xs1_1.2.2.2.2.2.2.2.2))), (10, (.pointer (some ⟨b1_2, 0, none⟩))), (88, (.bool (s2_2)))] a ∧ Mem w0 hz w [blk bp0 [(.slice (some ⟨b0_1, o0_1, none⟩) r_.u.codes.length c0_1), v1_12, (.int .i64 (r1_2.2.out.end_)), (.int .i64 (r1_2.2.out.value)), v1_13, (.int .i64 (r1_2.2.steps)), (.bool (r1_2.2.over)), v1_14] 52, ow [v1_12] r1_2.2.out.said, ow [v1_13] r1_2.2.out.cells, ow [v1_14] r1_2.2.trace, blk b0_2 [(.int .i64 (x0_1.params)), (.int .i64 (x0_1.regs)), (.slice (some ⟨b1_1, o1_1, none⟩) x0_1.blocks.length c1_1)] 69, ow [(.slice p0_4 (copyL ys0_1 in_ 0 ys0_1.length).length c0_5)] xs1_2.2.2.2.2.2.2.2, blk b1_2 [v1_4, (.slice p1_4 x1_1.ins.length c1_5), (.int .i64 (x1_1.jump)), (.int .i64 (x1_1.on)), v1_6] 86]) ?_ ?_
          ·
           refine wp_region_lit (st_y hf rfl rfl rfl (y_fieldAddr fo_86_2 rfl rfl) fun a hf => st_y hf rfl rfl rfl (y_load1 Tryz.isAgg3 rfl rfl (hm.blk_cell 6 rfl rfl)) fun a hf => st_y hf rfl rfl rfl (y_eql rfl rfl rfl) fun a hf => st_y hf rfl rfl rfl (y_move rfl rfl) fun a hf => ?_)
           rcases bcases (decide (x1_1.jump = 1)) with h3_4 | h3_4
           ·
            replace hq2_2 := (ite_t h3_4).symm.trans hq2_2
            have h3_5 := of_decide_eq_true h3_4
            refine st_no hf rfl rfl (lk_b rfl h3_4) rfl rfl rfl fun a hf => st_no hf rfl rfl (lk_b rfl h3_4) rfl rfl rfl fun a hf => st_no hf rfl rfl (lk_b rfl h3_4) rfl rfl rfl fun a hf => st_no hf rfl rfl (lk_b rfl h3_4) rfl rfl rfl fun a hf => st_no hf rfl rfl (lk_b rfl h3_4) rfl rfl rfl fun a hf => st_no hf rfl rfl (lk_b rfl h3_4) rfl rfl rfl fun a hf => st_y hf rfl rfl rfl (y_pick_t rfl (ev_b rfl h3_4) rfl) fun a hf => st_y hf rfl rfl rfl (y_assign rfl rfl) fun a hf => st_end ?_
            refine x_then_n ?_
            obtain rfl := Option.some.inj hq2_2
            exact ⟨hf.sub ⟨rfl, rfl, rfl, rfl, rfl, rfl, rfl, trivial⟩, hm.pick [0, 1, 2, 3, 4, 5, 6] (by decide) rfl⟩
           ·
            replace hq2_2 := (ite_f h3_4).symm.trans hq2_2
            have h3_6 := of_decide_eq_false h3_4
            refine st_yg hf rfl rfl (lk_b rfl h3_4) rfl rfl (y_move rfl rfl) fun a hf => st_yg hf rfl rfl (lk_b rfl h3_4) rfl rfl (y_fieldAddr fo_86_3 rfl rfl) fun a hf => st_yg hf rfl rfl (lk_b rfl h3_4) rfl rfl (y_load1 Tryz.isAgg3 rfl rfl (hm.blk_cell 6 rfl rfl)) fun a hf => ?_
            obtain ⟨x3_2, hx3_4, hq2_2⟩ := bnd hq2_2
            obtain ⟨h3_7, hx3_5⟩ := getI_some.1 hx3_4
            obtain ⟨b3_2, o3_2, c3_2, he⟩ := idx_form (hm.ow_rep 5 rfl) hx3_5
            simp only [Value.slice.injEq, Option.some.injEq] at he; obtain ⟨rfl, _, rfl⟩ := he
            have hL3_1 := rep_slice_len (hm.ow_rep 5 rfl)
            refine st_yg hf rfl rfl (lk_b rfl h3_4) rfl rfl (y_indexAddr st_25 rfl rfl rfl h3_7 (idx_lt2 hx3_5 hL3_1)) fun a hf => st_yg hf rfl rfl (lk_b rfl h3_4) rfl rfl (y_load1 Tryz.isAgg3 rfl rfl ((flat_cells (cs := [(.int .i64 (x3_2))]) (hm.ow_rep 5 rfl) hx3_5 rfl).cell (j := 0) rfl)) fun a hf => st_yg hf rfl rfl (lk_b rfl h3_4) rfl rfl (y_neq rfl rfl rfl) fun a hf => st_y hf rfl rfl rfl (y_pick_f rfl (ev_b rfl h3_4) rfl) fun a hf => st_y hf rfl rfl rfl (y_assign rfl rfl) fun a hf => st_end (x_then_n ?_)
            obtain rfl := Option.some.inj hq2_2
            exact ⟨hf.sub ⟨rfl, rfl, rfl, rfl, rfl, rfl, rfl, trivial⟩, hm.pick [0, 1, 2, 3, 4, 5, 6] (by decide) rfl⟩
          ·
           clear hf hm
           rintro a w ⟨hf, hm⟩
           refine x_then_n ?_
           obtain ⟨s2_3, hq2_3, hq1_2⟩ := bnd hq1_2
           refine code_cut (K := fun a w => Fr 111 [(0, (.pointer (some ⟨bp0, 0, none⟩))), (1, (.int .i64 (k_))), (7, (.pointer (some ⟨b0_2, 0, none⟩))), (8, (.slice p0_4 (copyL ys0_1 in_ 0 ys0_1.length).length c0_5)), (9, (.int .i64 (xs1_1.2.2.2.2.2.2.2.2))), (12, (.int .i64 (s2_3)))] a ∧ Mem w0 hz w [blk bp0 [(.slice (some ⟨b0_1, o0_1, none⟩) r_.u.codes.length c0_1), v1_12, (.int .i64 (r1_2.2.out.end_)), (.int .i64 (r1_2.2.out.value)), v1_13, (.int .i64 (r1_2.2.steps)), (.bool (r1_2.2.over)), v1_14] 52, ow [v1_12] r1_2.2.out.said, ow [v1_13] r1_2.2.out.cells, ow [v1_14] r1_2.2.trace, blk b0_2 [(.int .i64 (x0_1.params)), (.int .i64 (x0_1.regs)), (.slice (some ⟨b1_1, o1_1, none⟩) x0_1.blocks.length c1_1)] 69, ow [(.slice p0_4 (copyL ys0_1 in_ 0 ys0_1.length).length c0_5)] xs1_2.2.2.2.2.2.2.2]) ?_ ?_
           ·
            rcases bcases (s2_2) with h3_8 | h3_8
            ·
             replace hq2_3 := (ite_t h3_8).symm.trans hq2_3
             refine cond_t hf rfl h3_8 (wp_region_lit (st_y hf rfl rfl rfl (y_fieldAddr fo_86_4 rfl rfl) fun a hf => st_y hf rfl rfl rfl (y_load1 Tryz.isAgg25 rfl rfl (hm.blk_cell 6 rfl rfl)) fun a hf => ?_))
             obtain ⟨x3_3, hx3_6, hq2_3⟩ := bnd hq2_3
             obtain ⟨h3_9, hx3_7⟩ := getI_some.1 hx3_6
             obtain ⟨b3_3, o3_3, c3_3, he⟩ := idx_form h1_4 hx3_7
             subst he
             refine st_y hf rfl rfl rfl (y_indexAddr st_25 rfl rfl rfl h3_9 (idx_lt hx3_7)) fun a hf => st_y hf rfl rfl rfl (y_load1 Tryz.isAgg3 rfl rfl ((flat_cells (cs := [(.int .i64 (x3_3))]) (hm.now h1_4) hx3_7 rfl).cell (j := 0) rfl)) fun a hf => st_y hf rfl rfl rfl (y_assign rfl rfl) fun a hf => st_end (x_then_n ?_)
             obtain rfl := Option.some.inj hq2_3
             exact ⟨hf.sub ⟨rfl, rfl, rfl, rfl, rfl, rfl, trivial⟩, hm.pick [0, 1, 2, 3, 4, 5] (by decide) rfl⟩
            ·
             replace hq2_3 := (ite_f h3_8).symm.trans hq2_3
             refine cond_f hf rfl h3_8 (wp_region_lit (st_y hf rfl rfl rfl (y_fieldAddr fo_86_4 rfl rfl) fun a hf => st_y hf rfl rfl rfl (y_load1 Tryz.isAgg25 rfl rfl (hm.blk_cell 6 rfl rfl)) fun a hf => ?_))
             obtain ⟨x3_4, hx3_8, hq2_3⟩ := bnd hq2_3
             obtain ⟨h3_10, hx3_9⟩ := getI_some.1 hx3_8
             obtain ⟨b3_4, o3_4, c3_4, he⟩ := idx_form h1_4 hx3_9
             subst he
             refine st_y hf rfl rfl rfl (y_indexAddr st_25 rfl rfl rfl h3_10 (idx_lt hx3_9)) fun a hf => st_y hf rfl rfl rfl (y_load1 Tryz.isAgg3 rfl rfl ((flat_cells (cs := [(.int .i64 (x3_4))]) (hm.now h1_4) hx3_9 rfl).cell (j := 0) rfl)) fun a hf => st_y hf rfl rfl rfl (y_assign rfl rfl) fun a hf => st_end (x_then_n ?_)
             obtain rfl := Option.some.inj hq2_3
             exact ⟨hf.sub ⟨rfl, rfl, rfl, rfl, rfl, rfl, trivial⟩, hm.pick [0, 1, 2, 3, 4, 5] (by decide) rfl⟩
           ·
            clear hf hm
            rintro a w ⟨hf, hm⟩
            refine x_blk_n (x_then_n ?_)
            obtain rfl := Option.some.inj hq1_2
            exact ⟨_, rfl, hf.sub ⟨rfl, rfl, rfl, rfl, rfl, rfl, trivial⟩, hm.pick [0, 1, 2, 3, 4, 5] (by decide) rfl⟩
        ·
         clear hf hm
         rintro a w ⟨s1_2, rfl, hf, hm⟩
         replace hb0_1 := sum_l hb0_1
         refine x_then_n (wp_seq (wp_region_lit (st_y hf rfl rfl rfl (y_move rfl rfl) fun a hf => st_y hf rfl rfl rfl (y_loadN (cs := [(.int .i64 (x0_1.params)), (.int .i64 (x0_1.regs)), (.slice (some ⟨b1_1, o1_1, none⟩) x0_1.blocks.length c1_1)]) Tryz.isAgg69 Tryz.sizeOf69 rfl rfl (hm.blk_at 4 rfl)) fun a hf => st_y hf rfl rfl rfl (y_move rfl rfl) fun a hf => st_y hf rfl rfl rfl (y_move rfl rfl) fun a hf => st_y hf rfl rfl rfl (y_move rfl rfl) fun a hf => ?_)))
         obtain ⟨r1_3, hx1_4, hb0_1⟩ := bnd hb0_1
         obtain ⟨hz1_3, hle, hm1, hsub, hk1_2⟩ := hm.take2 (L1 := [ow [(.slice p0_4 (copyL ys0_1 in_ 0 ys0_1.length).length c0_5)] xs1_2.2.2.2.2.2.2.2]) (L2 := [blk bp0 [(.slice (some ⟨b0_1, o0_1, none⟩) r_.u.codes.length c0_1), v1_12, (.int .i64 (r1_2.2.out.end_)), (.int .i64 (r1_2.2.out.value)), v1_13, (.int .i64 (r1_2.2.steps)), (.bool (r1_2.2.over)), v1_14] 52, ow [v1_12] r1_2.2.out.said, ow [v1_13] r1_2.2.out.cells, ow [v1_14] r1_2.2.trace, blk b0_2 [(.int .i64 (x0_1.params)), (.int .i64 (x0_1.regs)), (.slice (some ⟨b1_1, o1_1, none⟩) x0_1.blocks.length c1_1)] 69]) [5] [0, 1, 2, 3, 4] (by decide) rfl rfl
         refine st_ef hf rfl rfl rfl (e_call hf rfl Tryz.call57 rfl (pspec_l8Run__phis_ok _ hz1_3 (⟨r_.u, r1_2.2.out, r1_2.2.steps, r1_2.2.over, r1_2.2.trace⟩ : l8Run) bp0 (.slice (some ⟨b0_1, o0_1, none⟩) r_.u.codes.length c0_1) (GT.mono hle h1p) v1_12 (fz_ow (hsub 1 _ rfl)) v1_13 (fz_ow (hsub 2 _ rfl)) v1_14 (fz_ow (hsub 3 _ rfl)) (fz_blk (hsub 0 _ rfl)) x0_1 (.slice (some ⟨b1_1, o1_1, none⟩) x0_1.blocks.length c1_1) (GT.mono hle h0_2) xs1_1.2.2.2.2.2.2.2.2 s1_2 xs1_2.2.2.2.2.2.2.2 (.slice p0_4 (copyL ys0_1 in_ 0 ys0_1.length).length c0_5) hm1  _ hx1_4)) ?_
         clear hf a; rintro v1_15 w1_4 a ho1_3 hf
         obtain ⟨rfl, hB⟩ := ho1_3
         replace hm := hk1_2 _ _ hB; clear hB
         refine st_end (x_then_n (wp_region_lit (st_y hf rfl rfl rfl (y_move rfl rfl) fun a hf => st_y hf rfl rfl rfl (y_assign rfl rfl) fun a hf => st_end (x_blk_n (x_then_n ?_)))))
         obtain rfl := Option.some.inj hb0_1
         exact ⟨_, rfl, v1_12, v1_13, v1_14, hf.sub ⟨rfl, rfl, rfl, rfl, rfl, trivial⟩, hm.pick [1, 2, 3, 4, 5, 0] (by decide) rfl⟩
  · intro rec_ ih_ r_ x_ regs r hq w0 hz bp0 v1p h1p v2p v3p v4p v1 h1 v2 hm0
    have pspec_l8Run__code_rec : ∀ (w0 : World) (hz : Heap) (r_ : l8Run) (bp0 : Nat) (v1p : Value) (h1p : GT.rep hz [v1p] r_.u.codes) (v2p : Value) (v3p : Value) (v4p : Value) (k_ : Int) (in_ : List Int) (v1 : Value) (h1 : GT.rep hz [v1] in_) (hm0 : Mem w0 hz w0 [blk bp0 [v1p, v2p, (.int .i64 (r_.out.end_)), (.int .i64 (r_.out.value)), v3p, (.int .i64 (r_.steps)), (.bool (r_.over)), v4p] 52, ow [v2p] r_.out.said, ow [v3p] r_.out.cells, ow [v4p] r_.trace]) (r : Int × l8Run) (hq : rec_ r_ k_ in_ = some r), Con Tryz.prog 41 [(.pointer (some ⟨bp0, 0, none⟩)), (.int .i64 (k_)), v1] w0 (fun v w' => ∃ (x2 : Value) (x3 : Value) (x4 : Value), v = (.int .i64 (r.1)) ∧ Mem w0 hz w' [blk bp0 [v1p, x2, (.int .i64 (r.2.out.end_)), (.int .i64 (r.2.out.value)), x3, (.int .i64 (r.2.steps)), (.bool (r.2.over)), x4] 52, ow [x2] r.2.out.said, ow [x3] r.2.out.cells, ow [x4] r.2.trace]) := fun w0 hz r_ bp0 v1p h1p v2p v3p v4p k_ in_ v1 h1 hm0 r hq => ih_ r_ k_ in_ r hq w0 hz bp0 v1p h1p v2p v3p v4p v1 h1 hm0
    refine con_body (l := [(0, (.pointer (some ⟨bp0, 0, none⟩))), (1, (.agg #[(.int .i64 (x_.op)), (.int .i64 (x_.to)), v1, (.int .i64 (x_.n_))])), (2, v2)]) Tryz.func56 rfl Tryz.ntmps56 (Args.get ⟨rfl, rfl, rfl, trivial⟩) rfl ?_
    intro a hf
    have hm := hm0
    refine wp_seq (wp_region_lit (st_ef hf rfl rfl rfl (e_box hf hm rfl rfl rfl) ?_))
    clear hf a; rintro _ w0_1 a ⟨b0_1, rfl, hm⟩ hf
    refine st_end (x_then_n (wp_seq (wp_region_lit (st_y hf rfl rfl rfl (y_fieldAddr fo_91_3 rfl rfl) fun a hf => st_y hf rfl rfl rfl (y_load1 Tryz.isAgg3 rfl rfl (hm.blk_cell 0 rfl rfl)) fun a hf => st_y hf rfl rfl rfl (y_assign rfl rfl) fun a hf => st_end (x_then_n ?_)))))
    refine wp_seq (wp_region_lit (st_y hf rfl rfl rfl (y_assign rfl rfl) fun a hf => st_end (x_then_n (wp_seq (wp_seq (wp_region_lit (st_y hf rfl rfl rfl (y_fieldAddr fo_91_2 rfl rfl) fun a hf => ?_)))))))
    refine st_y hf rfl rfl rfl (y_load1 Tryz.isAgg25 rfl rfl (hm.blk_cell 0 rfl rfl)) fun a hf => ?_
    obtain ⟨p0_1, c0_1, he, hl0_1⟩ := ro_slice h1
    subst he
    refine st_y hf rfl rfl rfl (y_len_slice st_25.und rfl rfl) fun a hf => st_y hf rfl rfl rfl (y_gtr rfl rfl rfl) fun a hf => st_end (x_then_n ?_)
    obtain ⟨s0_1, hq0_1, hq⟩ := bnd hq
    refine code_cut (K := fun a w => Fr 137 [(0, (.pointer (some ⟨bp0, 0, none⟩))), (2, v2), (4, (.pointer (some ⟨b0_1, 0, none⟩))), (6, (.int .i64 (s0_1))), (7, (.int .i64 (0)))] a ∧ Mem w0 hz w [blk bp0 [v1p, v2p, (.int .i64 (r_.out.end_)), (.int .i64 (r_.out.value)), v3p, (.int .i64 (r_.steps)), (.bool (r_.over)), v4p] 52, ow [v2p] r_.out.said, ow [v3p] r_.out.cells, ow [v4p] r_.trace, ow [v2] regs, blk b0_1 [(.int .i64 (x_.op)), (.int .i64 (x_.to)), (.slice p0_1 x_.args.length c0_1), (.int .i64 (x_.n_))] 91]) ?_ ?_
    ·
     rcases bcases (decide (0 < ((x_.args.length : Int)))) with h1_1 | h1_1
     ·
      replace hq0_1 := (ite_t h1_1).symm.trans hq0_1
      have h1_2 := of_decide_eq_true h1_1
      refine cond_t hf rfl h1_1 (wp_region_lit (st_y hf rfl rfl rfl (y_move rfl rfl) fun a hf => st_y hf rfl rfl rfl (y_fieldAddr fo_91_2 rfl rfl) fun a hf => st_y hf rfl rfl rfl (y_load1 Tryz.isAgg25 rfl rfl (hm.blk_cell 0 rfl rfl)) fun a hf => ?_))
      obtain ⟨x1_1, hx1_1, hq0_1⟩ := bnd hq0_1
      obtain ⟨h1_3, hx1_2⟩ := getI_some.1 hx1_1
      obtain ⟨b1_1, o1_1, c1_1, he⟩ := idx_form h1 hx1_2
      simp only [Value.slice.injEq, Option.some.injEq] at he; obtain ⟨rfl, _, rfl⟩ := he
      refine st_y hf rfl rfl rfl (y_indexAddr st_25 rfl rfl rfl h1_3 (idx_lt hx1_2)) fun a hf => st_y hf rfl rfl rfl (y_load1 Tryz.isAgg3 rfl rfl ((flat_cells (cs := [(.int .i64 (x1_1))]) (hm.now h1) hx1_2 rfl).cell (j := 0) rfl)) fun a hf => ?_
      obtain ⟨x1_2, hx1_3, hq0_1⟩ := bnd hq0_1
      obtain ⟨h1_4, hx1_4⟩ := getI_some.1 hx1_3
      obtain ⟨b1_2, o1_2, c1_2, he⟩ := idx_form (hm.ow_rep 5 rfl) hx1_4
      subst he
      refine st_y hf rfl rfl rfl (y_indexAddr st_25 rfl rfl rfl h1_4 (idx_lt hx1_4)) fun a hf => st_y hf rfl rfl rfl (y_load1 Tryz.isAgg3 rfl rfl ((flat_cells (cs := [(.int .i64 (x1_2))]) (hm.ow_rep 5 rfl) hx1_4 rfl).cell (j := 0) rfl)) fun a hf => st_y hf rfl rfl rfl (y_assign rfl rfl) fun a hf => st_end (x_then_n ?_)
      obtain rfl := Option.some.inj hq0_1
      exact ⟨hf.sub ⟨rfl, rfl, rfl, rfl, rfl, trivial⟩, hm.pick [1, 2, 3, 4, 5, 0] (by decide) rfl⟩
     ·
      replace hq0_1 := (ite_f h1_1).symm.trans hq0_1
      have h1_5 := of_decide_eq_false h1_1
      refine cond_f hf rfl h1_1 (wp_skip (x_then_n ?_))
      obtain rfl := Option.some.inj hq0_1
      exact ⟨hf.sub ⟨rfl, rfl, rfl, rfl, rfl, trivial⟩, hm.pick [1, 2, 3, 4, 5, 0] (by decide) rfl⟩
    ·
     clear hf hm
     rintro a w ⟨hf, hm⟩
     refine x_then_n (wp_seq (wp_seq (wp_region_lit (st_y hf rfl rfl rfl (y_fieldAddr fo_91_2 rfl rfl) fun a hf => st_y hf rfl rfl rfl (y_load1 Tryz.isAgg25 rfl rfl (hm.blk_cell 5 rfl rfl)) fun a hf => st_y hf rfl rfl rfl (y_len_slice st_25.und rfl rfl) fun a hf => st_y hf rfl rfl rfl (y_gtr rfl rfl rfl) fun a hf => st_end ?_))))
     refine x_then_n ?_
     obtain ⟨s0_2, hq0_2, hq⟩ := bnd hq
     refine code_cut (K := fun a w => Fr 137 [(0, (.pointer (some ⟨bp0, 0, none⟩))), (2, v2), (4, (.pointer (some ⟨b0_1, 0, none⟩))), (6, (.int .i64 (s0_1))), (7, (.int .i64 (s0_2)))] a ∧ Mem w0 hz w [blk bp0 [v1p, v2p, (.int .i64 (r_.out.end_)), (.int .i64 (r_.out.value)), v3p, (.int .i64 (r_.steps)), (.bool (r_.over)), v4p] 52, ow [v2p] r_.out.said, ow [v3p] r_.out.cells, ow [v4p] r_.trace, ow [v2] regs, blk b0_1 [(.int .i64 (x_.op)), (.int .i64 (x_.to)), (.slice p0_1 x_.args.length c0_1), (.int .i64 (x_.n_))] 91]) ?_ ?_
     ·
      rcases bcases (decide (1 < ((x_.args.length : Int)))) with h1_6 | h1_6
      ·
       replace hq0_2 := (ite_t h1_6).symm.trans hq0_2
       have h1_7 := of_decide_eq_true h1_6
       refine cond_t hf rfl h1_6 (wp_region_lit (st_y hf rfl rfl rfl (y_move rfl rfl) fun a hf => st_y hf rfl rfl rfl (y_fieldAddr fo_91_2 rfl rfl) fun a hf => st_y hf rfl rfl rfl (y_load1 Tryz.isAgg25 rfl rfl (hm.blk_cell 5 rfl rfl)) fun a hf => ?_))
       obtain ⟨x1_3, hx1_5, hq0_2⟩ := bnd hq0_2
       obtain ⟨h1_8, hx1_6⟩ := getI_some.1 hx1_5
       obtain ⟨b1_3, o1_3, c1_3, he⟩ := idx_form h1 hx1_6
       simp only [Value.slice.injEq, Option.some.injEq] at he; obtain ⟨rfl, _, rfl⟩ := he
       refine st_y hf rfl rfl rfl (y_indexAddr st_25 rfl rfl rfl h1_8 (idx_lt hx1_6)) fun a hf => st_y hf rfl rfl rfl (y_load1 Tryz.isAgg3 rfl rfl ((flat_cells (cs := [(.int .i64 (x1_3))]) (hm.now h1) hx1_6 rfl).cell (j := 0) rfl)) fun a hf => ?_
       obtain ⟨x1_4, hx1_7, hq0_2⟩ := bnd hq0_2
       obtain ⟨h1_9, hx1_8⟩ := getI_some.1 hx1_7
       obtain ⟨b1_4, o1_4, c1_4, he⟩ := idx_form (hm.ow_rep 4 rfl) hx1_8
       subst he
       refine st_y hf rfl rfl rfl (y_indexAddr st_25 rfl rfl rfl h1_9 (idx_lt hx1_8)) fun a hf => st_y hf rfl rfl rfl (y_load1 Tryz.isAgg3 rfl rfl ((flat_cells (cs := [(.int .i64 (x1_4))]) (hm.ow_rep 4 rfl) hx1_8 rfl).cell (j := 0) rfl)) fun a hf => st_y hf rfl rfl rfl (y_assign rfl rfl) fun a hf => st_end (x_then_n ?_)
       obtain rfl := Option.some.inj hq0_2
       exact ⟨hf.sub ⟨rfl, rfl, rfl, rfl, rfl, trivial⟩, hm.pick [0, 1, 2, 3, 4, 5] (by decide) rfl⟩
      ·
       replace hq0_2 := (ite_f h1_6).symm.trans hq0_2
       have h1_10 := of_decide_eq_false h1_6
       refine cond_f hf rfl h1_6 (wp_skip (x_then_n ?_))
       obtain rfl := Option.some.inj hq0_2
       exact ⟨hf.sub ⟨rfl, rfl, rfl, rfl, rfl, trivial⟩, hm.pick [0, 1, 2, 3, 4, 5] (by decide) rfl⟩
     ·
      clear hf hm
      rintro a w ⟨hf, hm⟩
      refine x_then_n ?_
      obtain ⟨c0_2, hq0_3, hq⟩ := bnd hq
      refine code_cut (K := fun a w => ∃ s0_3, c0_2 = .inl s0_3 ∧ ∃ (v0_1 : Value) (v0_2 : Value) (v0_3 : Value), Fr 137 [] a ∧ Mem w0 hz w [blk bp0 [v1p, v0_1, (.int .i64 (s0_3.2.1)), (.int .i64 (s0_3.2.2.1)), v0_2, (.int .i64 (s0_3.2.2.2.2.1)), (.bool (s0_3.2.2.2.2.2.1)), v0_3] 52, ow [v0_1] s0_3.1, ow [v0_2] s0_3.2.2.2.1, ow [v0_3] s0_3.2.2.2.2.2.2.1, ow [v2] s0_3.2.2.2.2.2.2.2]) ?_ ?_
      ·
       refine wp_block (wp_seq (wp_region_lit (st_y hf rfl rfl rfl (y_fieldAddr fo_91_0 rfl rfl) fun a hf => st_y hf rfl rfl rfl (y_load1 Tryz.isAgg3 rfl rfl (hm.blk_cell 5 rfl rfl)) fun a hf => ?_)))
       obtain ⟨r1_1, hx1_9, hq0_3⟩ := bnd hq0_3
       refine st_ef hf rfl rfl rfl (e_call hf rfl Tryz.call79 rfl (spec_l8Pure_ok _ x_.op _ hx1_9)) ?_
       clear hf a; rintro v1_1 w1_1 a ho1_1 hf
       obtain ⟨rfl, hB⟩ := ho1_1
       replace hm := hm.below' hB; clear hB
       refine st_y hf rfl rfl rfl (y_assign rfl rfl) fun a hf => st_end (x_then_n ?_)
       obtain ⟨c1_5, hq1_1, hq0_3⟩ := bnd hq0_3
       refine code_cut (K := fun a w => ∃ s1_1, c1_5 = .inl s1_1 ∧ ∃ (v1_2 : Value) (v1_3 : Value) (v1_4 : Value), Fr 137 [] a ∧ Mem w0 hz w [blk bp0 [v1p, v1_2, (.int .i64 (s1_1.2.1)), (.int .i64 (s1_1.2.2.1)), v1_3, (.int .i64 (s1_1.2.2.2.2.1)), (.bool (s1_1.2.2.2.2.2.1)), v1_4] 52, ow [v1_2] s1_1.1, ow [v1_3] s1_1.2.2.2.1, ow [v1_4] s1_1.2.2.2.2.2.2.1, ow [v2] s1_1.2.2.2.2.2.2.2]) ?_ ?_
       ·
        rcases bcases (r1_1) with h2_1 | h2_1
        ·
         replace hq1_1 := (ite_t h2_1).symm.trans hq1_1
         refine cond_t hf rfl h2_1 (wp_seq (wp_region_lit (st_y hf rfl rfl rfl (y_fieldAddr fo_91_0 rfl rfl) fun a hf => st_y hf rfl rfl rfl (y_load1 Tryz.isAgg3 rfl rfl (hm.blk_cell 5 rfl rfl)) fun a hf => st_y hf rfl rfl rfl (y_move rfl rfl) fun a hf => st_y hf rfl rfl rfl (y_move rfl rfl) fun a hf => ?_)))
         obtain ⟨r2_1, hx2_1, hq1_1⟩ := bnd hq1_1
         refine st_ef hf rfl rfl rfl (e_call hf rfl Tryz.call80 rfl (spec_l8Do_ok _ x_.op s0_1 s0_2 _ hx2_1)) ?_
         clear hf a; rintro v2_1 w2_1 a ho2_1 hf
         obtain ⟨rfl, hB⟩ := ho2_1
         replace hm := hm.below' hB; clear hB
         refine st_y hf rfl rfl rfl (y_move rfl rfl) fun a hf => st_y hf rfl rfl rfl (y_extract rfl rfl rfl) fun a hf => st_y hf rfl rfl rfl (y_extract rfl rfl rfl) fun a hf => st_y hf rfl rfl rfl (y_assign rfl rfl) fun a hf => st_y hf rfl rfl rfl (y_assign rfl rfl) fun a hf => st_end (x_then_n (wp_seq (wp_seq ?_)))
         refine wp_region_lit (st_y hf rfl rfl rfl (y_move rfl rfl) fun a hf => st_y hf rfl rfl rfl (y_neq rfl rfl rfl) fun a hf => st_end (x_then_n ?_))
         rcases bcases (decide (r2_1.2 ≠ 0)) with h2_2 | h2_2
         ·
          replace hq1_1 := (ite_t h2_2).symm.trans hq1_1
          have h2_3 := of_decide_eq_true h2_2
          refine cond_t hf rfl h2_2 (wp_seq (wp_region_lit (st_y hf rfl rfl rfl (y_move rfl rfl) fun a hf => st_y hf rfl rfl rfl (y_move rfl rfl) fun a hf => ?_)))
          obtain ⟨r2_2, hx2_2, hq1_1⟩ := bnd hq1_1
          obtain ⟨hz2_1, hle, hm1, hsub, hk2_1⟩ := hm.take2 (L1 := [blk bp0 [v1p, v2p, (.int .i64 (r_.out.end_)), (.int .i64 (r_.out.value)), v3p, (.int .i64 (r_.steps)), (.bool (r_.over)), v4p] 52, ow [v2p] r_.out.said, ow [v3p] r_.out.cells, ow [v4p] r_.trace]) (L2 := [ow [v2] regs, blk b0_1 [(.int .i64 (x_.op)), (.int .i64 (x_.to)), (.slice p0_1 x_.args.length c0_1), (.int .i64 (x_.n_))] 91]) [0, 1, 2, 3] [4, 5] (by decide) rfl rfl
          refine st_ef hf rfl rfl rfl (e_call hf rfl Tryz.call78 rfl (pspec_l8Run__stop_ok _ hz2_1 r_ bp0 v1p (GT.mono hle h1p) v2p v3p v4p r2_1.2 hm1  _ hx2_2)) ?_
          clear hf a; rintro v2_2 w2_2 a ho2_2 hf
          obtain ⟨v2_3, v2_4, v2_5, rfl, hB⟩ := ho2_2
          replace hm := hk2_1 _ _ hB; clear hB
          refine st_end (x_then_n (wp_ret (x_then_ret (x_then_ret (x_blk_ret (x_then_ret ?_))))))
          obtain rfl := Option.some.inj hq1_1
          replace hq0_3 := sum_r hq0_3
          obtain rfl := Option.some.inj hq0_3
          replace hq := sum_r hq
          obtain rfl := Option.some.inj hq
          refine ret_none hf Tryz.results56 ?_
          exact ⟨v2_3, v2_4, v2_5, rfl, hm.pick [0, 1, 2, 3, 4] (by decide) rfl⟩
         ·
          replace hq1_1 := (ite_f h2_2).symm.trans hq1_1
          have h2_4 := of_decide_eq_false h2_2
          refine cond_f hf rfl h2_2 (wp_skip (x_then_n (wp_region_lit (st_y hf rfl rfl rfl (y_move rfl rfl) fun a hf => st_y hf rfl rfl rfl (y_fieldAddr fo_91_1 rfl rfl) fun a hf => st_y hf rfl rfl rfl (y_load1 Tryz.isAgg3 rfl rfl (hm.blk_cell 5 rfl rfl)) fun a hf => st_y hf rfl rfl rfl (y_move rfl rfl) fun a hf => ?_))))
          obtain ⟨x2_1, hx2_3, hq1_1⟩ := bnd hq1_1
          obtain ⟨h2_5, hx2_4⟩ := getI_some.1 hx2_3
          obtain ⟨b2_1, o2_1, c2_1, he⟩ := idx_form (hm.ow_rep 4 rfl) hx2_4
          subst he
          refine st_y hf rfl rfl rfl (y_indexAddr st_25 rfl rfl rfl h2_5 (idx_lt hx2_4)) fun a hf => st_ef0 hf rfl rfl (e_setElem (x1 := r2_1.1) (j := 0) (vs := [(.int .i64 (r2_1.1))]) 4 hf hm rfl hx2_4 rfl Tryz.sizeOf3 rfl rfl rfl (one_cons rfl one_nil) rfl rfl) ?_
          clear hf a; rintro _ w2_3 a hm hf
          have hx2_5 := List.getElem?_set_self (a := r2_1.1) (idx_lt hx2_4)
          refine st_end (x_then_n ?_)
          obtain rfl := Option.some.inj hq1_1
          exact ⟨_, rfl, v2p, v3p, v4p, hf.sub trivial, hm.pick [0, 1, 2, 3, 4] (by decide) rfl⟩
        ·
         replace hq1_1 := (ite_f h2_1).symm.trans hq1_1
         refine cond_f hf rfl h2_1 (wp_seq (wp_region_lit (st_y hf rfl rfl rfl (y_fieldAddr fo_91_0 rfl rfl) fun a hf => st_y hf rfl rfl rfl (y_load1 Tryz.isAgg3 rfl rfl (hm.blk_cell 5 rfl rfl)) fun a hf => st_y hf rfl rfl rfl (y_eql rfl rfl rfl) fun a hf => st_y hf rfl rfl rfl (y_assign rfl rfl) fun a hf => st_end (x_then_n ?_))))
         obtain ⟨s2_1, hq2_1, hq1_1⟩ := bnd hq1_1
         refine code_cut (K := fun a w => ∃ (v2_6 : Value) (v2_7 : Value) (v2_8 : Value), Fr 137 [] a ∧ Mem w0 hz w [blk bp0 [v1p, v2_6, (.int .i64 (s2_1.2.1)), (.int .i64 (s2_1.2.2.1)), v2_7, (.int .i64 (s2_1.2.2.2.2.1)), (.bool (s2_1.2.2.2.2.2.1)), v2_8] 52, ow [v2_6] s2_1.1, ow [v2_7] s2_1.2.2.2.1, ow [v2_8] s2_1.2.2.2.2.2.2.1, ow [v2] s2_1.2.2.2.2.2.2.2]) ?_ ?_
         ·
          rcases bcases (decide (x_.op = 13)) with h3_1 | h3_1
          ·
           replace hq2_1 := (ite_t h3_1).symm.trans hq2_1
           have h3_2 := of_decide_eq_true h3_1
           refine cond_t hf rfl h3_1 (wp_region_lit (st_y hf rfl rfl rfl (y_move rfl rfl) fun a hf => st_y hf rfl rfl rfl (y_move rfl rfl) fun a hf => st_y hf rfl rfl rfl (y_nilptr rfl rfl) fun a hf => st_y hf rfl rfl rfl (y_fieldAddr fo_52_1 rfl rfl) fun a hf => st_y hf rfl rfl rfl (y_fieldAddr fo_41_0 rfl rfl) fun a hf => st_y hf rfl rfl rfl (y_load1 Tryz.isAgg25 rfl rfl (hm.blk_cell 0 rfl rfl)) fun a hf => st_y hf rfl rfl rfl (y_move rfl rfl) fun a hf => ?_))
           refine st_ef hf rfl rfl rfl (e_build (vs := #[(0, (.int .i64 (s0_1)))]) (cs := [(.int .i64 (s0_1))]) et_25 hf hm rfl rfl (by kernel_rfl) rfl rfl) ?_
           clear hf a; rintro _ w3_1 a ⟨b3_1, rfl, hm⟩ hf
           replace hm := hm.lit (xs := ([s0_1] : List Int)) 0 rfl rfl rfl rfl
           obtain ⟨ys3_1, hx3_1, hq2_1⟩ := bnd hq2_1
           obtain ⟨h3_3, h3_3e⟩ := appM_some.1 hx3_1
           refine st_ef hf rfl rfl rfl (e_append 2 et_25 hf hm rfl (hm.ow_rep 0 rfl) rfl rfl rfl h3_3) ?_
           clear hf a; rintro v3_1 w3_2 a hm hf
           rw [h3_3e] at hm
           refine st_y hf rfl rfl rfl (y_nilptr rfl rfl) fun a hf => st_y hf rfl rfl rfl (y_fieldAddr fo_52_1 rfl rfl) fun a hf => st_y hf rfl rfl rfl (y_fieldAddr fo_41_0 rfl rfl) fun a hf => st_ef0 hf rfl rfl (e_store1 1 hf hm rfl Tryz.sizeOf25 rfl rfl rfl (rep_one (hm.ow_rep 2 rfl)) rfl) ?_
           clear hf a; rintro _ w3_3 a hm hf
           refine st_end (x_then_n ?_)
           obtain rfl := Option.some.inj hq2_1
           exact ⟨v3_1, v3p, v4p, hf.sub trivial, hm.pick [1, 2, 3, 4, 5] (by decide) rfl⟩
          ·
           replace hq2_1 := (ite_f h3_1).symm.trans hq2_1
           have h3_4 := of_decide_eq_false h3_1
           refine cond_f hf rfl h3_1 (wp_seq (wp_region_lit (st_y hf rfl rfl rfl (y_fieldAddr fo_91_0 rfl rfl) fun a hf => st_y hf rfl rfl rfl (y_load1 Tryz.isAgg3 rfl rfl (hm.blk_cell 5 rfl rfl)) fun a hf => st_y hf rfl rfl rfl (y_eql rfl rfl rfl) fun a hf => st_y hf rfl rfl rfl (y_assign rfl rfl) fun a hf => st_end (x_then_n ?_))))
           obtain ⟨s3_1, hq3_1, hq2_1⟩ := bnd hq2_1
           refine code_cut (K := fun a w => ∃ (v3_2 : Value) (v3_3 : Value) (v3_4 : Value), Fr 137 [] a ∧ Mem w0 hz w [blk bp0 [v1p, v3_2, (.int .i64 (s3_1.2.1)), (.int .i64 (s3_1.2.2.1)), v3_3, (.int .i64 (s3_1.2.2.2.2.1)), (.bool (s3_1.2.2.2.2.2.1)), v3_4] 52, ow [v3_2] s3_1.1, ow [v3_3] s3_1.2.2.2.1, ow [v3_4] s3_1.2.2.2.2.2.2.1, ow [v2] s3_1.2.2.2.2.2.2.2]) ?_ ?_
           ·
            rcases bcases (decide (x_.op = 14)) with h4_1 | h4_1
            ·
             replace hq3_1 := (ite_t h4_1).symm.trans hq3_1
             have h4_2 := of_decide_eq_true h4_1
             refine cond_t hf rfl h4_1 (wp_seq (wp_region_lit (st_ef hf rfl rfl rfl (e_build0 (α := Int) et_25 hm rfl) ?_)))
             clear hf a; rintro v4_1 w4_1 a hm hf
             refine st_y hf rfl rfl rfl (y_assign rfl rfl) fun a hf => st_end (x_then_n (wp_seq (wp_seq (wp_region_lit (st_y hf rfl rfl rfl (y_assign rfl rfl) fun a hf => st_end (x_then_n ?_))))))
             obtain ⟨p4_1, c4_1, he, hl4_1⟩ := ro_slice (hm.ow_rep 2 rfl)
             subst he
             obtain ⟨p4_2, c4_2, he, hl4_2⟩ := ro_slice (hm.ow_rep 3 rfl)
             subst he
             obtain ⟨p4_3, c4_3, he, hl4_3⟩ := ro_slice (hm.ow_rep 4 rfl)
             subst he
             obtain ⟨p4_4, c4_4, he, hl4_4⟩ := ro_slice (hm.ow_rep 5 rfl)
             subst he
             obtain ⟨p4_5, c4_5, he, hl4_5⟩ := ro_slice (hm.ow_rep 0 rfl)
             subst he
             refine wp_block ?_
             obtain ⟨r4_1, hl4_6, hq3_1⟩ := bnd hq3_1
             refine wp_forN _ (fun i5_1 xs5_1 a w => ∃ (v5_1 : Value), Fr 137 [(0, (.pointer (some ⟨bp0, 0, none⟩))), (2, (.slice p4_4 regs.length c4_4)), (4, (.pointer (some ⟨b0_1, 0, none⟩))), (10, v5_1), (11, (.int .i64 (i5_1)))] a ∧ Mem w0 hz w [blk bp0 [v1p, (.slice p4_1 r_.out.said.length c4_1), (.int .i64 (r_.out.end_)), (.int .i64 (r_.out.value)), (.slice p4_2 r_.out.cells.length c4_2), (.int .i64 (r_.steps)), (.bool (r_.over)), (.slice p4_3 r_.trace.length c4_3)] 52, ow [(.slice p4_1 r_.out.said.length c4_1)] r_.out.said, ow [(.slice p4_2 r_.out.cells.length c4_2)] r_.out.cells, ow [(.slice p4_3 r_.trace.length c4_3)] r_.trace, ow [(.slice p4_4 regs.length c4_4)] regs, blk b0_1 [(.int .i64 (x_.op)), (.int .i64 (x_.to)), (.slice p0_1 x_.args.length c0_1), (.int .i64 (x_.n_))] 91, ow [v5_1] xs5_1]) (0) ((x_.args.length : Int)) hl4_6 ?_ ?_ ?_
             ·
              exact ⟨(.slice p4_5 ([] : List Int).length c4_5), hf.sub ⟨rfl, rfl, rfl, rfl, rfl, trivial⟩, hm.pick [1, 2, 3, 4, 5, 6, 0] (by decide) rfl⟩
             ·
              clear hf hm
              rintro i5_1 xs5_1 a w ⟨v5_1, hf, hm⟩ hi5_1 hi5_2 q4_1 hb4_1 ho4_1
              refine wp_seq (wp_seq (wp_region_lit (st_y hf rfl rfl rfl (y_move rfl rfl) fun a hf => st_y hf rfl rfl rfl (y_fieldAddr fo_91_2 rfl rfl) fun a hf => st_y hf rfl rfl rfl (y_load1 Tryz.isAgg25 rfl rfl (hm.blk_cell 5 rfl rfl)) fun a hf => st_y hf rfl rfl rfl (y_len_slice st_25.und rfl rfl) fun a hf => st_y hf rfl rfl rfl (y_lss rfl rfl rfl) fun a hf => st_end ?_)))
              refine x_then_n (cond_t hf rfl (decide_eq_true (by omega)) (wp_skip (x_then_n (wp_seq (wp_block (wp_region_lit (st_y hf rfl rfl rfl (y_move rfl rfl) fun a hf => st_y hf rfl rfl rfl (y_move rfl rfl) fun a hf => ?_)))))))
              refine st_y hf rfl rfl rfl (y_fieldAddr fo_91_2 rfl rfl) fun a hf => st_y hf rfl rfl rfl (y_load1 Tryz.isAgg25 rfl rfl (hm.blk_cell 5 rfl rfl)) fun a hf => st_y hf rfl rfl rfl (y_move rfl rfl) fun a hf => ?_
              obtain ⟨x5_1, hx5_1, hb4_1⟩ := bnd hb4_1
              obtain ⟨h5_1, hx5_2⟩ := getI_some.1 hx5_1
              obtain ⟨b5_1, o5_1, c5_1, he⟩ := idx_form h1 hx5_2
              simp only [Value.slice.injEq, Option.some.injEq] at he; obtain ⟨rfl, _, rfl⟩ := he
              refine st_y hf rfl rfl rfl (y_indexAddr st_25 rfl rfl rfl h5_1 (idx_lt hx5_2)) fun a hf => st_y hf rfl rfl rfl (y_load1 Tryz.isAgg3 rfl rfl ((flat_cells (cs := [(.int .i64 (x5_1))]) (hm.now h1) hx5_2 rfl).cell (j := 0) rfl)) fun a hf => ?_
              obtain ⟨x5_2, hx5_3, hb4_1⟩ := bnd hb4_1
              obtain ⟨h5_2, hx5_4⟩ := getI_some.1 hx5_3
              obtain ⟨b5_2, o5_2, c5_2, he⟩ := idx_form (hm.ow_rep 4 rfl) hx5_4
              simp only [Value.slice.injEq, Option.some.injEq] at he; obtain ⟨rfl, _, rfl⟩ := he
              refine st_y hf rfl rfl rfl (y_indexAddr st_25 rfl rfl rfl h5_2 (idx_lt hx5_4)) fun a hf => st_y hf rfl rfl rfl (y_load1 Tryz.isAgg3 rfl rfl ((flat_cells (cs := [(.int .i64 (x5_2))]) (hm.ow_rep 4 rfl) hx5_4 rfl).cell (j := 0) rfl)) fun a hf => st_ef hf rfl rfl rfl (e_build (vs := #[(0, (.int .i64 (x5_2)))]) (cs := [(.int .i64 (x5_2))]) et_25 hf hm rfl rfl (by kernel_rfl) rfl rfl) ?_
              clear hf a; rintro _ w5_1 a ⟨b5_3, rfl, hm⟩ hf
              replace hm := hm.lit (xs := ([x5_2] : List Int)) 0 rfl rfl rfl rfl
              obtain ⟨ys5_1, hx5_5, hb4_1⟩ := bnd hb4_1
              obtain ⟨h5_3, h5_3e⟩ := appM_some.1 hx5_5
              refine st_ef hf rfl rfl rfl (e_append 7 et_25 hf hm rfl (hm.ow_rep 0 rfl) rfl rfl rfl h5_3) ?_
              clear hf a; rintro v5_2 w5_2 a hm hf
              rw [h5_3e] at hm
              refine st_y hf rfl rfl rfl (y_assign rfl rfl) fun a hf => st_end (x_blk_n (x_then_n (wp_region_lit (st_y hf rfl rfl rfl (y_move rfl rfl) fun a hf => st_y hf rfl rfl rfl (y_add64 rfl rfl rfl (by omega) (by omega)) fun a hf => st_y hf rfl rfl rfl (y_assign rfl rfl) fun a hf => st_end ?_))))
              refine x_then_n ?_
              obtain rfl := Option.some.inj hb4_1
              exact ⟨_, rfl, v5_2, hf.sub ⟨rfl, rfl, rfl, rfl, rfl, trivial⟩, hm.pick [1, 2, 3, 4, 5, 6, 7] (by decide) rfl⟩
             ·
              clear hf hm
              rintro i4_1 xs4_1 a w ⟨v4_2, hf, hm⟩ hi4_1 hi4_2 rfl
              replace hq3_1 := sum_l hq3_1
              refine wp_seq (wp_seq (wp_region_lit (st_y hf rfl rfl rfl (y_move rfl rfl) fun a hf => st_y hf rfl rfl rfl (y_fieldAddr fo_91_2 rfl rfl) fun a hf => st_y hf rfl rfl rfl (y_load1 Tryz.isAgg25 rfl rfl (hm.blk_cell 5 rfl rfl)) fun a hf => st_y hf rfl rfl rfl (y_len_slice st_25.und rfl rfl) fun a hf => st_y hf rfl rfl rfl (y_lss rfl rfl rfl) fun a hf => st_end ?_)))
              refine x_then_n (cond_f hf rfl (decide_eq_false (by omega)) (wp_exit (x_then_exit (x_then_exit (x_blk_hit (x_then_n (wp_seq (wp_region_lit ?_))))))))
              refine st_y hf rfl rfl rfl (y_move rfl rfl) fun a hf => st_y hf rfl rfl rfl (y_fieldAddr fo_91_3 rfl rfl) fun a hf => st_y hf rfl rfl rfl (y_load1 Tryz.isAgg3 rfl rfl (hm.blk_cell 5 rfl rfl)) fun a hf => st_y hf rfl rfl rfl (y_move rfl rfl) fun a hf => ?_
              obtain ⟨r4_2, hx4_1, hq3_1⟩ := bnd hq3_1
              obtain ⟨hz4_1, hle, hm1, hsub, hk4_1⟩ := hm.take2 (L1 := [blk bp0 [v1p, (.slice p4_1 r_.out.said.length c4_1), (.int .i64 (r_.out.end_)), (.int .i64 (r_.out.value)), (.slice p4_2 r_.out.cells.length c4_2), (.int .i64 (r_.steps)), (.bool (r_.over)), (.slice p4_3 r_.trace.length c4_3)] 52, ow [(.slice p4_1 r_.out.said.length c4_1)] r_.out.said, ow [(.slice p4_2 r_.out.cells.length c4_2)] r_.out.cells, ow [(.slice p4_3 r_.trace.length c4_3)] r_.trace]) (L2 := [ow [(.slice p4_4 regs.length c4_4)] regs, blk b0_1 [(.int .i64 (x_.op)), (.int .i64 (x_.to)), (.slice p0_1 x_.args.length c0_1), (.int .i64 (x_.n_))] 91, ow [v4_2] xs4_1]) [0, 1, 2, 3] [4, 5, 6] (by decide) rfl rfl
              refine st_ef hf rfl rfl rfl (e_call hf rfl Tryz.call41 rfl (pspec_l8Run__code_rec _ hz4_1 r_ bp0 v1p (GT.mono hle h1p) (.slice p4_1 r_.out.said.length c4_1) (.slice p4_2 r_.out.cells.length c4_2) (.slice p4_3 r_.trace.length c4_3) x_.n_ xs4_1 v4_2 (fz_ow (hsub 2 _ rfl)) hm1  _ hx4_1)) ?_
              clear hf a; rintro v4_3 w4_2 a ho4_2 hf
              obtain ⟨v4_4, v4_5, v4_6, rfl, hB⟩ := ho4_2
              replace hm := hk4_1 _ _ hB; clear hB
              refine st_y hf rfl rfl rfl (y_assign rfl rfl) fun a hf => st_end (x_then_n (wp_region_lit (st_y hf rfl rfl rfl (y_move rfl rfl) fun a hf => st_y hf rfl rfl rfl (y_fieldAddr fo_91_1 rfl rfl) fun a hf => st_y hf rfl rfl rfl (y_load1 Tryz.isAgg3 rfl rfl (hm.blk_cell 5 rfl rfl)) fun a hf => st_y hf rfl rfl rfl (y_move rfl rfl) fun a hf => ?_)))
              obtain ⟨x4_1, hx4_2, hq3_1⟩ := bnd hq3_1
              obtain ⟨h4_3, hx4_3⟩ := getI_some.1 hx4_2
              obtain ⟨b4_1, o4_1, c4_6, he⟩ := idx_form (hm.ow_rep 4 rfl) hx4_3
              simp only [Value.slice.injEq, Option.some.injEq] at he; obtain ⟨rfl, _, rfl⟩ := he
              refine st_y hf rfl rfl rfl (y_indexAddr st_25 rfl rfl rfl h4_3 (idx_lt hx4_3)) fun a hf => st_ef0 hf rfl rfl (e_setElem (x1 := r4_2.1) (j := 0) (vs := [(.int .i64 (r4_2.1))]) 4 hf hm rfl hx4_3 rfl Tryz.sizeOf3 rfl rfl rfl (one_cons rfl one_nil) rfl rfl) ?_
              clear hf a; rintro _ w4_3 a hm hf
              have hx4_4 := List.getElem?_set_self (a := r4_2.1) (idx_lt hx4_3)
              refine st_end (x_then_n ?_)
              obtain rfl := Option.some.inj hq3_1
              exact ⟨v4_4, v4_5, v4_6, hf.sub trivial, hm.pick [0, 1, 2, 3, 4] (by decide) rfl⟩
            ·
             replace hq3_1 := (ite_f h4_1).symm.trans hq3_1
             have h4_4 := of_decide_eq_false h4_1
             refine cond_f hf rfl h4_1 (wp_seq (wp_region_lit (st_y hf rfl rfl rfl (y_move rfl rfl) fun a hf => st_y hf rfl rfl rfl (y_geq rfl rfl rfl) fun a hf => st_y hf rfl rfl rfl (y_assign rfl rfl) fun a hf => st_end (x_then_n ?_))))
             obtain ⟨s4_1, hq4_1, hq3_1⟩ := bnd hq3_1
             refine code_cut (K := fun a w => ∃ (v4_7 : Value) (v4_8 : Value) (v4_9 : Value), Fr 137 [] a ∧ Mem w0 hz w [blk bp0 [v1p, v4_7, (.int .i64 (s4_1.2.1)), (.int .i64 (s4_1.2.2.1)), v4_8, (.int .i64 (s4_1.2.2.2.2.1)), (.bool (s4_1.2.2.2.2.2.1)), v4_9] 52, ow [v4_7] s4_1.1, ow [v4_8] s4_1.2.2.2.1, ow [v4_9] s4_1.2.2.2.2.2.2.1, ow [v2] s4_1.2.2.2.2.2.2.2]) ?_ ?_
             ·
              rcases bcases (decide (16 ≤ s0_1)) with h5_4 | h5_4
              ·
               replace hq4_1 := (ite_t h5_4).symm.trans hq4_1
               have h5_5 := of_decide_eq_true h5_4
               refine cond_t hf rfl h5_4 (wp_region_lit (st_y hf rfl rfl rfl (y_move rfl rfl) fun a hf => ?_))
               obtain ⟨r5_1, hx5_6, hq4_1⟩ := bnd hq4_1
               obtain ⟨hz5_1, hle, hm1, hsub, hk5_1⟩ := hm.take2 (L1 := [blk bp0 [v1p, v2p, (.int .i64 (r_.out.end_)), (.int .i64 (r_.out.value)), v3p, (.int .i64 (r_.steps)), (.bool (r_.over)), v4p] 52, ow [v2p] r_.out.said, ow [v3p] r_.out.cells, ow [v4p] r_.trace]) (L2 := [ow [v2] regs, blk b0_1 [(.int .i64 (x_.op)), (.int .i64 (x_.to)), (.slice p0_1 x_.args.length c0_1), (.int .i64 (x_.n_))] 91]) [0, 1, 2, 3] [4, 5] (by decide) rfl rfl
               refine st_ef hf rfl rfl rfl (e_call hf rfl Tryz.call78 rfl (pspec_l8Run__stop_ok _ hz5_1 r_ bp0 v1p (GT.mono hle h1p) v2p v3p v4p 2 hm1  _ hx5_6)) ?_
               clear hf a; rintro v5_3 w5_3 a ho5_1 hf
               obtain ⟨v5_4, v5_5, v5_6, rfl, hB⟩ := ho5_1
               replace hm := hk5_1 _ _ hB; clear hB
               refine st_end (x_then_n ?_)
               obtain rfl := Option.some.inj hq4_1
               exact ⟨v5_4, v5_5, v5_6, hf.sub trivial, hm.pick [0, 1, 2, 3, 4] (by decide) rfl⟩
              ·
               replace hq4_1 := (ite_f h5_4).symm.trans hq4_1
               have h5_6 := of_decide_eq_false h5_4
               refine cond_f hf rfl h5_4 (wp_seq (wp_region_lit (st_y hf rfl rfl rfl (y_fieldAddr fo_91_0 rfl rfl) fun a hf => st_y hf rfl rfl rfl (y_load1 Tryz.isAgg3 rfl rfl (hm.blk_cell 5 rfl rfl)) fun a hf => st_y hf rfl rfl rfl (y_eql rfl rfl rfl) fun a hf => st_y hf rfl rfl rfl (y_assign rfl rfl) fun a hf => st_end (x_then_n ?_))))
               obtain ⟨s5_1, hq5_1, hq4_1⟩ := bnd hq4_1
               refine code_cut (K := fun a w => Fr 137 [] a ∧ Mem w0 hz w [blk bp0 [v1p, v2p, (.int .i64 (r_.out.end_)), (.int .i64 (r_.out.value)), v3p, (.int .i64 (r_.steps)), (.bool (r_.over)), v4p] 52, ow [v2p] r_.out.said, ow [v3p] s5_1.1, ow [v4p] r_.trace, ow [v2] s5_1.2]) ?_ ?_
               ·
                rcases bcases (decide (x_.op = 11)) with h6_1 | h6_1
                ·
                 replace hq5_1 := (ite_t h6_1).symm.trans hq5_1
                 have h6_2 := of_decide_eq_true h6_1
                 refine cond_t hf rfl h6_1 (wp_tree (.p 0 (.p 1 (.p 3 (.p 4 (.p 5 (.p 6 (.p 8 (.q 2 (.e 7 (.p 9 (.e 10 (.p 11 (.e 12 .fin .nil)) .nil)) .nil))))))))) [7, 10] [0, 1, 3, 4, 5, 6, 8, 9, 11] (fun w => Mem w0 hz w [blk bp0 [v1p, v2p, (.int .i64 (r_.out.end_)), (.int .i64 (r_.out.value)), v3p, (.int .i64 (r_.steps)), (.bool (r_.over)), v4p] 52, ow [v2p] r_.out.said, ow [v3p] r_.out.cells, ow [v4p] r_.trace, ow [v2] regs, blk b0_1 [(.int .i64 (x_.op)), (.int .i64 (x_.to)), (.slice p0_1 x_.args.length c0_1), (.int .i64 (x_.n_))] 91]) (by kernel_rfl) (by kernel_rfl) (fun _ _ _ h => h.2) ?_)
                 replace hm := hm.drew
                 have hS : Mem w0 hz _ [blk bp0 [v1p, v2p, (.int .i64 (r_.out.end_)), (.int .i64 (r_.out.value)), v3p, (.int .i64 (r_.steps)), (.bool (r_.over)), v4p] 52, ow [v2p] r_.out.said, ow [v3p] r_.out.cells, ow [v4p] r_.trace, ow [v2] regs, blk b0_1 [(.int .i64 (x_.op)), (.int .i64 (x_.to)), (.slice p0_1 x_.args.length c0_1), (.int .i64 (x_.n_))] 91] := hm.pick [0, 1, 2, 3, 4, 5] (by decide) rfl
                 refine td_p hf rfl rfl rfl rfl (fun w => y_move rfl rfl) fun a hf => td_p hf rfl rfl rfl rfl (fun w => y_fieldAddr fo_91_1 rfl rfl) fun a hf => td_p hf rfl rfl rfl rfl (fun w => y_move rfl rfl) fun a hf => td_p hf rfl rfl rfl rfl (fun w => y_nilptr rfl rfl) fun a hf => td_p hf rfl rfl rfl rfl (fun w => y_fieldAddr fo_52_1 rfl rfl) fun a hf => td_p hf rfl rfl rfl rfl (fun w => y_fieldAddr fo_41_3 rfl rfl) fun a hf => td_p hf rfl rfl rfl rfl (fun w => y_move rfl rfl) fun a hf => td_y hf rfl rfl rfl rfl hS (fun w hm => y_load1 Tryz.isAgg3 rfl rfl (hm.blk_cell 5 rfl rfl)) fun a hf => te_one ?_
                 refine td_ef hf rfl rfl rfl rfl (ef_y hf (y_load1 Tryz.isAgg25 rfl rfl (hm.blk_cell 0 rfl rfl))) ?_
                 clear hf a; rintro _ _ a ⟨rfl, rfl⟩ hf
                 refine ⟨fun _ => hS, ?_⟩
                 obtain ⟨x6_1, hx6_1, hq5_1⟩ := bnd hq5_1
                 obtain ⟨h6_3, hx6_2⟩ := getI_some.1 hx6_1
                 obtain ⟨b6_1, o6_1, c6_1, he⟩ := idx_form (hm.ow_rep 2 rfl) hx6_2
                 subst he
                 refine td_p hf rfl rfl rfl rfl (fun w => y_indexAddr st_25 rfl rfl rfl h6_3 (idx_lt hx6_2)) fun a hf => te_one (td_ef hf rfl rfl rfl rfl (ef_y hf (y_load1 Tryz.isAgg3 rfl rfl ((flat_cells (cs := [(.int .i64 (x6_1))]) (hm.ow_rep 2 rfl) hx6_2 rfl).cell (j := 0) rfl))) ?_)
                 clear hf a; rintro _ _ a ⟨rfl, rfl⟩ hf
                 refine ⟨fun _ => hS, ?_⟩
                 obtain ⟨x6_2, hx6_3, hq5_1⟩ := bnd hq5_1
                 obtain ⟨h6_4, hx6_4⟩ := getI_some.1 hx6_3
                 obtain ⟨b6_2, o6_2, c6_2, he⟩ := idx_form (hm.ow_rep 4 rfl) hx6_4
                 subst he
                 refine td_p hf rfl rfl rfl rfl (fun w => y_indexAddr st_25 rfl rfl rfl h6_4 (idx_lt hx6_4)) fun a hf => te_one (td_ef0 hf rfl rfl rfl (e_setElem (x1 := x6_1) (j := 0) (vs := [(.int .i64 (x6_1))]) 4 hf hm rfl hx6_4 rfl Tryz.sizeOf3 rfl rfl rfl (one_cons rfl one_nil) rfl rfl) ?_)
                 clear hf a; rintro _ w6_1 a hm hf
                 have hx6_5 := List.getElem?_set_self (a := x6_1) (idx_lt hx6_4)
                 refine ⟨fun h => absurd h (by decide), ?_⟩
                 clear hS; refine td_end ?_
                 refine x_then_n ?_
                 obtain rfl := Option.some.inj hq5_1
                 exact ⟨hf.sub trivial, hm.pick [0, 1, 2, 3, 4] (by decide) rfl⟩
                ·
                 replace hq5_1 := (ite_f h6_1).symm.trans hq5_1
                 have h6_5 := of_decide_eq_false h6_1
                 refine cond_f hf rfl h6_1 (wp_region_lit (st_y hf rfl rfl rfl (y_move rfl rfl) fun a hf => st_y hf rfl rfl rfl (y_nilptr rfl rfl) fun a hf => st_y hf rfl rfl rfl (y_fieldAddr fo_52_1 rfl rfl) fun a hf => st_y hf rfl rfl rfl (y_fieldAddr fo_41_3 rfl rfl) fun a hf => st_y hf rfl rfl rfl (y_load1 Tryz.isAgg25 rfl rfl (hm.blk_cell 0 rfl rfl)) fun a hf => st_y hf rfl rfl rfl (y_move rfl rfl) fun a hf => st_y hf rfl rfl rfl (y_move rfl rfl) fun a hf => ?_))
                 obtain ⟨x6_3, hx6_6, hq5_1⟩ := bnd hq5_1
                 obtain ⟨h6_6, hx6_7⟩ := getI_some.1 hx6_6
                 obtain ⟨b6_3, o6_3, c6_3, he⟩ := idx_form (hm.ow_rep 2 rfl) hx6_7
                 subst he
                 refine st_y hf rfl rfl rfl (y_indexAddr st_25 rfl rfl rfl h6_6 (idx_lt hx6_7)) fun a hf => st_ef0 hf rfl rfl (e_setElem (x1 := s0_2) (j := 0) (vs := [(.int .i64 (s0_2))]) 2 hf hm rfl hx6_7 rfl Tryz.sizeOf3 rfl rfl rfl (one_cons rfl one_nil) rfl rfl) ?_
                 clear hf a; rintro _ w6_2 a hm hf
                 have hx6_8 := List.getElem?_set_self (a := s0_2) (idx_lt hx6_7)
                 refine st_end (x_then_n ?_)
                 obtain rfl := Option.some.inj hq5_1
                 exact ⟨hf.sub trivial, hm.pick [0, 1, 2, 3, 4] (by decide) rfl⟩
               ·
                clear hf hm
                rintro a w ⟨hf, hm⟩
                refine x_then_n ?_
                obtain rfl := Option.some.inj hq4_1
                exact ⟨v2p, v3p, v4p, hf.sub trivial, hm.pick [0, 1, 2, 3, 4] (by decide) rfl⟩
             ·
              clear hf hm
              rintro a w ⟨v4_7, v4_8, v4_9, hf, hm⟩
              refine x_then_n ?_
              obtain rfl := Option.some.inj hq3_1
              exact ⟨v4_7, v4_8, v4_9, hf.sub trivial, hm.pick [0, 1, 2, 3, 4] (by decide) rfl⟩
           ·
            clear hf hm
            rintro a w ⟨v3_2, v3_3, v3_4, hf, hm⟩
            refine x_then_n ?_
            obtain rfl := Option.some.inj hq2_1
            exact ⟨v3_2, v3_3, v3_4, hf.sub trivial, hm.pick [0, 1, 2, 3, 4] (by decide) rfl⟩
         ·
          clear hf hm
          rintro a w ⟨v2_6, v2_7, v2_8, hf, hm⟩
          refine x_then_n ?_
          obtain rfl := Option.some.inj hq1_1
          exact ⟨_, rfl, v2_6, v2_7, v2_8, hf.sub trivial, hm.pick [0, 1, 2, 3, 4] (by decide) rfl⟩
       ·
        clear hf hm
        rintro a w ⟨s1_1, rfl, v1_2, v1_3, v1_4, hf, hm⟩
        replace hq0_3 := sum_l hq0_3
        refine x_blk_n (x_then_n ?_)
        obtain rfl := Option.some.inj hq0_3
        exact ⟨_, rfl, v1_2, v1_3, v1_4, hf.sub trivial, hm.pick [0, 1, 2, 3, 4] (by decide) rfl⟩
      ·
       clear hf hm
       rintro a w ⟨s0_3, rfl, v0_1, v0_2, v0_3, hf, hm⟩
       replace hq := sum_l hq
       obtain rfl := Option.some.inj hq
       refine ret_end hf Tryz.results56 ?_
       exact ⟨v0_1, v0_2, v0_3, rfl, hm.pick [0, 1, 2, 3, 4] (by decide) rfl⟩

theorem pspec_l8Run__code_ok (w0 : World) (hz : Heap) (r_ : l8Run) (bp0 : Nat) (v1p : Value) (h1p : GT.rep hz [v1p] r_.u.codes) (v2p : Value) (v3p : Value) (v4p : Value) (k_ : Int) (in_ : List Int) (v1 : Value) (h1 : GT.rep hz [v1] in_) (hm0 : Mem w0 hz w0 [blk bp0 [v1p, v2p, (.int .i64 (r_.out.end_)), (.int .i64 (r_.out.value)), v3p, (.int .i64 (r_.steps)), (.bool (r_.over)), v4p] 52, ow [v2p] r_.out.said, ow [v3p] r_.out.cells, ow [v4p] r_.trace]) (r : Int × l8Run) (hq : pspec_l8Run__code r_ k_ in_ = some r) : Con Tryz.prog 41 [(.pointer (some ⟨bp0, 0, none⟩)), (.int .i64 (k_)), v1] w0 (fun v w' => ∃ (x2 : Value) (x3 : Value) (x4 : Value), v = (.int .i64 (r.1)) ∧ Mem w0 hz w' [blk bp0 [v1p, x2, (.int .i64 (r.2.out.end_)), (.int .i64 (r.2.out.value)), x3, (.int .i64 (r.2.steps)), (.bool (r.2.over)), x4] 52, ow [x2] r.2.out.said, ow [x3] r.2.out.cells, ow [x4] r.2.trace]) := pspec_l8Run__code_all.1 r_ k_ in_ r hq w0 hz bp0 v1p h1p v2p v3p v4p v1 h1 hm0

theorem spec_l8Start_ok (w0 : World) (hz : Heap) (hle0 : Heap.le hz (hp w0)) (u : Unit_) (v1 : Value) (h1 : GT.rep hz [v1] u.codes) (in_ : List Int) (v2 : Value) (h2 : GT.rep hz [v2] in_) (steps : Int) (r : l8Run) (hq : spec_l8Start u in_ steps = some r) :
    Con Tryz.prog 30 [(.agg #[v1]), v2, (.int .i64 (steps))] w0 (fun v w' => ∃ (b1 : Nat) (x2 : Value) (x3 : Value) (x4 : Value) (x5 : Value) (hz2 : Heap), v = (.pointer (some ⟨b1, 0, none⟩)) ∧ Heap.le hz hz2 ∧ GT.rep hz2 [x2] r.u.codes ∧ Mem w0 hz2 w' [junk w0 hz, blk b1 [x2, x3, (.int .i64 (r.out.end_)), (.int .i64 (r.out.value)), x4, (.int .i64 (r.steps)), (.bool (r.over)), x5] 52, ow [x3] r.out.said, ow [x4] r.out.cells, ow [x5] r.trace]) := by
  unfold spec_l8Start at hq
  refine con_body (l := [(0, (.agg #[v1])), (1, v2), (2, (.int .i64 (steps)))]) Tryz.func30 rfl Tryz.ntmps30 (Args.get ⟨rfl, rfl, rfl, trivial⟩) rfl ?_
  intro a hf
  have hm := Mem.startA hle0
  refine wp_seq (wp_region_lit (st_ef hf rfl rfl rfl (e_box hf hm rfl rfl rfl) ?_))
  clear hf a; rintro _ w0_1 a ⟨b0_1, rfl, hm⟩ hf
  refine st_y hf rfl rfl rfl (y_assign rfl rfl) fun a hf => st_end (x_then_n (wp_seq ?_))
  obtain ⟨s0_1, hq0_1, hq⟩ := bnd hq
  refine code_cut (K := fun a w => ∃ (b0_2 : Nat) (v0_1 : Value) (v0_2 : Value), Fr 34 [(1, v2), (3, (.pointer (some ⟨b0_1, 0, none⟩))), (7, (.pointer (some ⟨b0_2, 0, none⟩)))] a ∧ Mem w0 hz w [blk b0_1 [v1] 30, blk b0_2 [v1, v0_1, (.int .i64 (0)), (.int .i64 (0)), v0_2, (.int .i64 (steps)), (.bool (false)), (.slice none 0 0)] 52, ow [v0_1] ([] : List Int), ow [v0_2] s0_1, junk w0 hz]) ?_ ?_
  ·
   refine wp_tree (.p 1 (.q 0 (.e 2 (.e 3 (.p 4 (.p 5 (.e 6 (.p 7 .fin) .nil))) .nil) (.e 3 (.e 2 (.p 4 (.p 5 (.e 6 (.p 7 .fin) .nil))) .nil) .nil)))) [2, 3] [1, 4, 5, 7] (fun w => Mem w0 hz w [blk b0_1 [v1] 30, junk w0 hz]) (by kernel_rfl) (by kernel_rfl) (fun _ _ _ h => h.2) ?_
   replace hm := hm.drew
   have hS : Mem w0 hz _ [blk b0_1 [v1] 30, junk w0 hz] := hm.pick [0, 1] (by decide) rfl
   refine td_p hf rfl rfl rfl rfl (fun w => y_move rfl rfl) fun a hf => td_y hf rfl rfl rfl rfl hS (fun w hm => y_loadN (cs := [v1]) Tryz.isAgg30 Tryz.sizeOf30 rfl rfl (hm.blk_at 0 rfl)) fun a hf => ?_
   obtain ⟨pb1_1, hpb1_1, hq0_1⟩ := bnd hq0_1
   refine te_more ?_ ?_
   ·
    refine td_ef hf rfl rfl rfl rfl (e_build0 (α := Int) et_25 hm rfl) ?_
    clear hf a; rintro v1_1 w1_1 a hm hf
    clear hS
    have hS : Mem w0 hz _ [blk b0_1 [v1] 30, junk w0 hz] := hm.pick [1, 2] (by decide) rfl
    refine ⟨fun _ => hS, ?_⟩
    refine te_one ?_
    obtain ⟨⟨h1_11, h1_12⟩, h1_1e⟩ := makeM_some.1 hpb1_1
    refine td_ef hf rfl rfl rfl rfl (e_make (x0 := (0 : Int)) et_25 (fun _ => (Flat.own_iff.2 rfl)) hf hm rfl rfl rfl h1_11 (Int.le_refl _) h1_12) ?_
    clear hf a; rintro v1_2 w1_2 a hm hf
    rw [h1_1e] at hm
    have h1_1l : (pb1_1.length : Int) = 16 := by rw [← h1_1e]; simp only [List.length_replicate]; omega
    clear hS
    have hS : Mem w0 hz _ [blk b0_1 [v1] 30, junk w0 hz] := hm.pick [2, 3] (by decide) rfl
    refine ⟨fun _ => hS, ?_⟩
    obtain ⟨p1_1, c1_1, he, hl1_1⟩ := ro_slice (hm.ow_rep 1 rfl)
    subst he
    obtain ⟨p1_2, c1_2, he, hl1_2⟩ := ro_slice (hm.ow_rep 0 rfl)
    subst he
    refine td_p hf rfl rfl rfl rfl (fun w => y_build (vs := [(0, (.slice p1_1 ([] : List Int).length c1_1)), (3, (.slice p1_2 pb1_1.length c1_2))]) (cs := #[(.slice p1_1 ([] : List Int).length c1_1), (.int .i64 (0)), (.int .i64 (0)), (.slice p1_2 pb1_1.length c1_2)]) rfl rfl (by kernel_rfl)) fun a hf => ?_
    obtain ⟨p1_3, c1_3, he, hl1_3⟩ := ro_slice h1
    subst he
    refine td_p hf rfl rfl rfl rfl (fun w => y_build (vs := [(0, (.agg #[(.slice p1_3 u.codes.length c1_3)])), (2, (.int .i64 (steps))), (1, (.agg #[(.slice p1_1 ([] : List Int).length c1_1), (.int .i64 (0)), (.int .i64 (0)), (.slice p1_2 pb1_1.length c1_2)]))]) (cs := #[(.slice p1_3 u.codes.length c1_3), (.slice p1_1 ([] : List Int).length c1_1), (.int .i64 (0)), (.int .i64 (0)), (.slice p1_2 pb1_1.length c1_2), (.int .i64 (steps)), (.bool (false)), (.slice none 0 0)]) rfl rfl (by kernel_rfl)) fun a hf => te_one (td_ef hf rfl rfl rfl rfl (e_box hf hm rfl rfl rfl) ?_)
    clear hf a; rintro _ w1_3 a ⟨b1_1, rfl, hm⟩ hf
    refine ⟨fun h => absurd h (by decide), ?_⟩
    refine td_p hf rfl rfl rfl rfl (fun w => y_assign rfl rfl) fun a hf => ?_
    clear hS; refine td_end ?_
    refine x_then_n ?_
    obtain rfl := Option.some.inj hq0_1
    exact ⟨b1_1, (.slice p1_1 ([] : List Int).length c1_1), (.slice p1_2 pb1_1.length c1_2), hf.sub ⟨rfl, rfl, rfl, trivial⟩, hm.pick [3, 0, 2, 1, 4] (by decide) rfl⟩
   refine te_one ?_
   obtain ⟨⟨h1_21, h1_22⟩, h1_2e⟩ := makeM_some.1 hpb1_1
   refine td_ef hf rfl rfl rfl rfl (e_make (x0 := (0 : Int)) et_25 (fun _ => (Flat.own_iff.2 rfl)) hf hm rfl rfl rfl h1_21 (Int.le_refl _) h1_22) ?_
   clear hf a; rintro v1_3 w1_4 a hm hf
   rw [h1_2e] at hm
   have h1_2l : (pb1_1.length : Int) = 16 := by rw [← h1_2e]; simp only [List.length_replicate]; omega
   clear hS
   have hS : Mem w0 hz _ [blk b0_1 [v1] 30, junk w0 hz] := hm.pick [1, 2] (by decide) rfl
   refine ⟨fun _ => hS, ?_⟩
   refine te_one (td_ef hf rfl rfl rfl rfl (e_build0 (α := Int) et_25 hm rfl) ?_)
   clear hf a; rintro v1_4 w1_5 a hm hf
   clear hS
   have hS : Mem w0 hz _ [blk b0_1 [v1] 30, junk w0 hz] := hm.pick [2, 3] (by decide) rfl
   refine ⟨fun _ => hS, ?_⟩
   obtain ⟨p1_4, c1_4, he, hl1_4⟩ := ro_slice (hm.ow_rep 0 rfl)
   subst he
   obtain ⟨p1_5, c1_5, he, hl1_5⟩ := ro_slice (hm.ow_rep 1 rfl)
   subst he
   refine td_p hf rfl rfl rfl rfl (fun w => y_build (vs := [(0, (.slice p1_4 ([] : List Int).length c1_4)), (3, (.slice p1_5 pb1_1.length c1_5))]) (cs := #[(.slice p1_4 ([] : List Int).length c1_4), (.int .i64 (0)), (.int .i64 (0)), (.slice p1_5 pb1_1.length c1_5)]) rfl rfl (by kernel_rfl)) fun a hf => ?_
   obtain ⟨p1_6, c1_6, he, hl1_6⟩ := ro_slice h1
   subst he
   refine td_p hf rfl rfl rfl rfl (fun w => y_build (vs := [(0, (.agg #[(.slice p1_6 u.codes.length c1_6)])), (2, (.int .i64 (steps))), (1, (.agg #[(.slice p1_4 ([] : List Int).length c1_4), (.int .i64 (0)), (.int .i64 (0)), (.slice p1_5 pb1_1.length c1_5)]))]) (cs := #[(.slice p1_6 u.codes.length c1_6), (.slice p1_4 ([] : List Int).length c1_4), (.int .i64 (0)), (.int .i64 (0)), (.slice p1_5 pb1_1.length c1_5), (.int .i64 (steps)), (.bool (false)), (.slice none 0 0)]) rfl rfl (by kernel_rfl)) fun a hf => te_one (td_ef hf rfl rfl rfl rfl (e_box hf hm rfl rfl rfl) ?_)
   clear hf a; rintro _ w1_6 a ⟨b1_2, rfl, hm⟩ hf
   refine ⟨fun h => absurd h (by decide), ?_⟩
   refine td_p hf rfl rfl rfl rfl (fun w => y_assign rfl rfl) fun a hf => ?_
   clear hS; refine td_end ?_
   refine x_then_n ?_
   obtain rfl := Option.some.inj hq0_1
   exact ⟨b1_2, (.slice p1_4 ([] : List Int).length c1_4), (.slice p1_5 pb1_1.length c1_5), hf.sub ⟨rfl, rfl, rfl, trivial⟩, hm.pick [3, 0, 1, 2, 4] (by decide) rfl⟩
  ·
   clear hf hm
   rintro a w ⟨b0_2, v0_1, v0_2, hf, hm⟩
   refine x_then_n (wp_seq (wp_region_lit (st_y hf rfl rfl rfl (y_move rfl rfl) fun a hf => st_y hf rfl rfl rfl (y_fieldAddr fo_30_0 rfl rfl) fun a hf => st_y hf rfl rfl rfl (y_load1 Tryz.isAgg28 rfl rfl (hm.blk_cell 0 rfl rfl)) fun a hf => ?_)))
   obtain ⟨p0_1, c0_1, he, hl0_1⟩ := ro_slice h1
   subst he
   refine st_y hf rfl rfl rfl (y_len_slice st_28.und rfl rfl) fun a hf => st_y hf rfl rfl rfl (y_sub64 rfl rfl rfl (by omega) (by omega)) fun a hf => st_y hf rfl rfl rfl (y_move rfl rfl) fun a hf => ?_
   have hm := hm.nilow (α := Int)
   obtain ⟨r0_1, hx0_1, hq⟩ := bnd hq
   obtain ⟨hz0_1, hle, hm1, hsub, hk0_1⟩ := hm.take2 (L1 := [blk b0_2 [(.slice p0_1 u.codes.length c0_1), v0_1, (.int .i64 (0)), (.int .i64 (0)), v0_2, (.int .i64 (steps)), (.bool (false)), (.slice none 0 0)] 52, ow [v0_1] ([] : List Int), ow [v0_2] s0_1, ow [(.slice none 0 0)] ([] : List Int)]) (L2 := [blk b0_1 [(.slice p0_1 u.codes.length c0_1)] 30, junk w0 hz]) [2, 3, 4, 0] [1, 5] (by decide) rfl rfl
   refine st_ef hf rfl rfl rfl (e_call hf rfl Tryz.call41 rfl (pspec_l8Run__code_ok _ hz0_1 (⟨u, (⟨([] : List Int), 0, 0, s0_1⟩ : Outcome_), steps, false, ([] : List Int)⟩ : l8Run) b0_2 (.slice p0_1 u.codes.length c0_1) (GT.mono hle h1) v0_1 v0_2 (.slice none 0 0) (((u.codes.length : Int)) - 1) in_ v2 (GT.mono hle h2) hm1  _ hx0_1)) ?_
   clear hf a; rintro v0_3 w0_2 a ho0_1 hf
   obtain ⟨v0_4, v0_5, v0_6, rfl, hB⟩ := ho0_1
   replace hm := hk0_1 _ _ hB; clear hB
   refine st_y hf rfl rfl rfl (y_assign rfl rfl) fun a hf => st_end (x_then_n (wp_seq (wp_seq (wp_region_lit (st_y hf rfl rfl rfl (y_move rfl rfl) fun a hf => st_y hf rfl rfl rfl (y_nilptr rfl rfl) fun a hf => st_y hf rfl rfl rfl (y_fieldAddr fo_52_3 rfl rfl) fun a hf => ?_)))))
   refine st_y hf rfl rfl rfl (y_load1 Tryz.isAgg4 rfl rfl (hm.blk_cell 0 rfl rfl)) fun a hf => st_y hf rfl rfl rfl (y_not rfl rfl) fun a hf => st_end (x_then_n ?_)
   obtain ⟨s0_2, hq0_2, hq⟩ := bnd hq
   refine code_cut (K := fun a w => Fr 34 [(7, (.pointer (some ⟨b0_2, 0, none⟩)))] a ∧ Mem w0 hz w [blk b0_2 [(.slice p0_1 u.codes.length c0_1), v0_4, (.int .i64 (r0_1.2.out.end_)), (.int .i64 (s0_2)), v0_5, (.int .i64 (r0_1.2.steps)), (.bool (r0_1.2.over)), v0_6] 52, ow [v0_4] r0_1.2.out.said, ow [v0_5] r0_1.2.out.cells, ow [v0_6] r0_1.2.trace, junk w0 hz]) ?_ ?_
   ·
    rcases bcases (!(r0_1.2.over)) with h1_3 | h1_3
    ·
     replace hq0_2 := (ite_t h1_3).symm.trans hq0_2
     have h1_4 := bnot_t' h1_3
     refine cond_t hf rfl h1_3 (wp_region_lit (st_y hf rfl rfl rfl (y_move rfl rfl) fun a hf => st_y hf rfl rfl rfl (y_move rfl rfl) fun a hf => st_y hf rfl rfl rfl (y_nilptr rfl rfl) fun a hf => st_y hf rfl rfl rfl (y_fieldAddr fo_52_1 rfl rfl) fun a hf => st_y hf rfl rfl rfl (y_fieldAddr fo_41_2 rfl rfl) fun a hf => st_ef0 hf rfl rfl (e_store1 0 hf hm rfl Tryz.sizeOf3 rfl rfl rfl rfl rfl) ?_))
     clear hf a; rintro _ w1_7 a hm hf
     refine st_end (x_then_n ?_)
     obtain rfl := Option.some.inj hq0_2
     exact ⟨hf.sub ⟨rfl, trivial⟩, hm.pick [0, 1, 2, 3, 5] (by decide) rfl⟩
    ·
     replace hq0_2 := (ite_f h1_3).symm.trans hq0_2
     have h1_5 := bnot_f' h1_3
     refine cond_f hf rfl h1_3 (wp_skip (x_then_n ?_))
     obtain rfl := Option.some.inj hq0_2
     exact ⟨hf.sub ⟨rfl, trivial⟩, hm.pick [0, 1, 2, 3, 5] (by decide) rfl⟩
   ·
    clear hf hm
    rintro a w ⟨hf, hm⟩
    refine x_then_n (wp_seq (wp_region_lit (st_y hf rfl rfl rfl (y_move rfl rfl) fun a hf => st_y hf rfl rfl rfl (y_assign rfl rfl) fun a hf => st_end (x_then_n (wp_ret ?_)))))
    obtain rfl := Option.some.inj hq
    refine ret_tmp hf Tryz.results30 rfl ?_
    exact ⟨b0_2, (.slice p0_1 u.codes.length c0_1), v0_4, v0_5, v0_6, hz, rfl, (Heap.le_refl _), h1, hm.pick [4, 0, 1, 2, 3] (by decide) rfl⟩

theorem spec_RunUnit_ok (w0 : World) (u : Unit_) (v1 : Value) (h1 : GT.rep (hp w0) [v1] u.codes) (in_ : List Int) (v2 : Value) (h2 : GT.rep (hp w0) [v2] in_) (steps : Int) (r : Outcome_ × Bool) (hq : spec_RunUnit u in_ steps = some r) :
    Con Tryz.prog 18 [(.agg #[v1]), v2, (.int .i64 (steps))] w0 (fun v w' => ∃ (x1 : Value) (x2 : Value), v = (.tuple #[(.agg #[x1, (.int .i64 (r.1.end_)), (.int .i64 (r.1.value)), x2]), (.bool (r.2))]) ∧ Mem w0 (hp w0) w' [ow [x1] r.1.said, ow [x2] r.1.cells]) := by
  unfold spec_RunUnit at hq
  refine con_body (l := [(0, (.agg #[v1])), (1, v2), (2, (.int .i64 (steps)))]) Tryz.func18 rfl Tryz.ntmps18 (Args.get ⟨rfl, rfl, rfl, trivial⟩) rfl ?_
  intro a hf
  have hm := Mem.start w0
  refine wp_seq (wp_region_lit (st_ef hf rfl rfl rfl (e_box hf hm rfl rfl rfl) ?_))
  clear hf a; rintro _ w0_1 a ⟨b0_1, rfl, hm⟩ hf
  refine st_ef hf rfl rfl rfl (e_alloc hm Tryz.zeroValue41 rfl rfl) ?_
  clear hf a; rintro _ w0_2 a ⟨b0_2, rfl, hm⟩ hf
  refine st_y hf rfl rfl rfl (y_assign rfl rfl) fun a hf => st_end (x_then_n (wp_seq (wp_seq ?_)))
  obtain ⟨s0_1, hq0_1, hq⟩ := bnd hq
  refine code_cut (K := fun a w => Fr 25 [(1, v2), (2, (.int .i64 (steps))), (3, (.pointer (some ⟨b0_1, 0, none⟩))), (6, (.pointer (some ⟨b0_2, 0, none⟩))), (16, (.bool (s0_1)))] a ∧ Mem w0 (hp w0) w [blk b0_1 [v1] 30, blk b0_2 [(.slice none 0 0), (.int .i64 (0)), (.int .i64 (0)), (.slice none 0 0)] 41]) ?_ ?_
  ·
   refine wp_region_lit (st_y hf rfl rfl rfl (y_loadN (cs := [v1]) Tryz.isAgg30 Tryz.sizeOf30 rfl rfl (hm.blk_at 1 rfl)) fun a hf => st_y hf rfl rfl rfl (y_move rfl rfl) fun a hf => ?_)
   obtain ⟨r1_1, hx1_1, hq0_1⟩ := bnd hq0_1
   refine st_ef hf rfl rfl rfl (e_call hf rfl Tryz.call28 rfl (spec_l8Fits_ok _ u v1 (hm.now h1) in_ v2 (hm.now h2) _ hx1_1)) ?_
   clear hf a; rintro v1_1 w1_1 a ho1_1 hf
   obtain ⟨rfl, hB⟩ := ho1_1
   replace hm := hm.below' hB; clear hB
   refine st_y hf rfl rfl rfl (y_not rfl rfl) fun a hf => st_y hf rfl rfl rfl (y_move rfl rfl) fun a hf => ?_
   rcases bcases (!(r1_1)) with h1_1 | h1_1
   ·
    replace hq0_1 := (ite_t h1_1).symm.trans hq0_1
    have h1_2 := bnot_t' h1_1
    refine st_no hf rfl rfl (lk_b rfl h1_1) rfl rfl rfl fun a hf => st_no hf rfl rfl (lk_b rfl h1_1) rfl rfl rfl fun a hf => st_no hf rfl rfl (lk_b rfl h1_1) rfl rfl rfl fun a hf => st_y hf rfl rfl rfl (y_pick_t rfl (ev_b rfl h1_1) rfl) fun a hf => st_end (x_then_n ?_)
    obtain rfl := Option.some.inj hq0_1
    exact ⟨hf.sub ⟨rfl, rfl, rfl, rfl, rfl, trivial⟩, hm.pick [1, 0] (by decide) rfl⟩
   ·
    replace hq0_1 := (ite_f h1_1).symm.trans hq0_1
    have h1_3 := bnot_f' h1_1
    refine st_yg hf rfl rfl (lk_b rfl h1_1) rfl rfl (y_move rfl rfl) fun a hf => ?_
    obtain ⟨r1_2, hx1_2, hq0_1⟩ := bnd hq0_1
    refine st_efg hf rfl rfl (lk_b rfl h1_1) rfl rfl (e_call hf rfl Tryz.call29 rfl (spec_l1In_ok _ steps 0 60000 _ hx1_2)) ?_
    clear hf a; rintro v1_2 w1_2 a ho1_2 hf
    obtain ⟨rfl, hB⟩ := ho1_2
    replace hm := hm.below' hB; clear hB
    refine st_yg hf rfl rfl (lk_b rfl h1_1) rfl rfl (y_not rfl rfl) fun a hf => st_y hf rfl rfl rfl (y_pick_f rfl (ev_b rfl h1_1) rfl) fun a hf => st_end (x_then_n ?_)
    obtain rfl := Option.some.inj hq0_1
    exact ⟨hf.sub ⟨rfl, rfl, rfl, rfl, rfl, trivial⟩, hm.pick [1, 0] (by decide) rfl⟩
  ·
   clear hf hm
   rintro a w ⟨hf, hm⟩
   refine x_then_n ?_
   rcases bcases (s0_1) with h0_1 | h0_1
   ·
    replace hq := (ite_t h0_1).symm.trans hq
    refine cond_t hf rfl h0_1 (wp_seq (wp_region_lit (st_y hf rfl rfl rfl (y_build (vs := []) (cs := #[(.slice none 0 0), (.int .i64 (0)), (.int .i64 (0)), (.slice none 0 0)]) rfl rfl (by kernel_rfl)) fun a hf => st_ef0 hf rfl rfl (e_storeN 1 hf hm rfl Tryz.sizeOf41 rfl rfl rfl (one_cons rfl (one_cons rfl (one_cons rfl (one_cons rfl one_nil)))) rfl rfl) ?_)))
    clear hf a; rintro _ w0_3 a hm hf
    refine st_y hf rfl rfl rfl (y_assign rfl rfl) fun a hf => st_end (x_then_n (wp_ret (x_then_ret ?_)))
    obtain rfl := Option.some.inj hq
    have hm := hm.nilow (α := Int)
    have hm := hm.nilow (α := Int)
    refine ret_cell_tmp 3 hf Tryz.results18 hm rfl rfl Tryz.isAgg41 Tryz.sizeOf41 rfl ?_
    exact ⟨(.slice none 0 0), (.slice none 0 0), rfl, hm.pick [1, 0] (by decide) rfl⟩
   ·
    replace hq := (ite_f h0_1).symm.trans hq
    refine cond_f hf rfl h0_1 (wp_skip (x_then_n (wp_seq (wp_region_lit (st_y hf rfl rfl rfl (y_loadN (cs := [v1]) Tryz.isAgg30 Tryz.sizeOf30 rfl rfl (hm.blk_at 0 rfl)) fun a hf => st_y hf rfl rfl rfl (y_move rfl rfl) fun a hf => st_y hf rfl rfl rfl (y_move rfl rfl) fun a hf => ?_)))))
    obtain ⟨r0_1, hx0_1, hq⟩ := bnd hq
    refine st_ef hf rfl rfl rfl (e_call hf rfl Tryz.call30 rfl (spec_l8Start_ok _ _ hm.lez u v1 h1 in_ v2 h2 steps  _ hx0_1)) ?_
    clear hf a; rintro v0_1 w0_4 a ho0_1 hf
    obtain ⟨b0_3, v0_2, v0_3, v0_4, v0_5, hz0_1, rfl, hle0_1, h0_2, hB⟩ := ho0_1
    replace hm := Mem.giveA hm hle0_1 hB; clear hB
    refine st_y hf rfl rfl rfl (y_nilptr rfl rfl) fun a hf => st_y hf rfl rfl rfl (y_fieldAddr fo_52_1 rfl rfl) fun a hf => st_y hf rfl rfl rfl (y_loadN (cs := [v0_3, (.int .i64 (r0_1.out.end_)), (.int .i64 (r0_1.out.value)), v0_4]) Tryz.isAgg41 Tryz.sizeOf41 rfl rfl (hm.blk_part (i := 1) 0 rfl rfl)) fun a hf => st_ef0 hf rfl rfl (e_storeN 5 hf hm rfl Tryz.sizeOf41 rfl rfl rfl (one_cons (rep_one (hm.ow_rep 1 rfl)) (one_cons rfl (one_cons rfl (one_cons (rep_one (hm.ow_rep 2 rfl)) one_nil)))) rfl rfl) ?_
    clear hf a; rintro _ w0_5 a hm hf
    refine st_y hf rfl rfl rfl (y_assign rfl rfl) fun a hf => st_end (x_then_n (wp_ret ?_))
    obtain rfl := Option.some.inj hq
    replace hm := hm.thaw hle0_1
    refine ret_cell_tmp 5 hf Tryz.results18 hm rfl rfl Tryz.isAgg41 Tryz.sizeOf41 rfl ?_
    exact ⟨v0_3, v0_4, rfl, hm.pick [1, 2] (by decide) rfl⟩

theorem spec_l5Ints_ok (w0 : World) (a_ : List Int) (v1 : Value) (h1 : GT.rep (hp w0) [v1] a_) (b_ : List Int) (v2 : Value) (h2 : GT.rep (hp w0) [v2] b_) (r : Bool) (hq : spec_l5Ints a_ b_ = some r) :
    Con Tryz.prog 35 [v1, v2] w0 (fun v w' => v = (.bool (r)) ∧ Below w0.heap.size w0 w') := by
  unfold spec_l5Ints at hq
  refine con_body (l := [(0, v1), (1, v2)]) Tryz.func35 rfl Tryz.ntmps35 (Args.get ⟨rfl, rfl, trivial⟩) rfl ?_
  intro a hf
  have hm := Mem.start w0
  refine wp_seq (wp_region_lit (st_y hf rfl rfl rfl (y_assign rfl rfl) fun a hf => st_end (x_then_n (wp_seq (wp_seq (wp_region_lit (st_y hf rfl rfl rfl (y_move rfl rfl) fun a hf => ?_)))))))
  obtain ⟨p0_1, c0_1, he, hl0_1⟩ := ro_slice h1
  subst he
  refine st_y hf rfl rfl rfl (y_len_slice st_25.und rfl rfl) fun a hf => st_y hf rfl rfl rfl (y_move rfl rfl) fun a hf => ?_
  obtain ⟨p0_2, c0_2, he, hl0_2⟩ := ro_slice h2
  subst he
  refine st_y hf rfl rfl rfl (y_len_slice st_25.und rfl rfl) fun a hf => st_y hf rfl rfl rfl (y_neq rfl rfl rfl) fun a hf => st_end (x_then_n ?_)
  rcases bcases (decide (((a_.length : Int)) ≠ ((b_.length : Int)))) with h0_1 | h0_1
  ·
   replace hq := (ite_t h0_1).symm.trans hq
   have h0_2 := of_decide_eq_true h0_1
   refine cond_t hf rfl h0_1 (wp_seq (wp_region_lit (st_y hf rfl rfl rfl (y_assign rfl rfl) fun a hf => st_end (x_then_n (wp_ret (x_then_ret ?_))))))
   obtain rfl := Option.some.inj hq
   refine ret_tmp hf Tryz.results35 rfl ?_
   exact ⟨rfl, hm.below⟩
  ·
   replace hq := (ite_f h0_1).symm.trans hq
   have h0_3 := of_decide_eq_false h0_1
   refine cond_f hf rfl h0_1 (wp_skip (x_then_n (wp_seq (wp_seq (wp_region_lit (st_y hf rfl rfl rfl (y_assign rfl rfl) fun a hf => st_end (x_then_n ?_)))))))
   refine wp_block ?_
   obtain ⟨r0_1, hl0_3, hq⟩ := bnd hq
   refine wp_forN _ (fun i1_1 xs1_1 a w => Fr 26 [(0, (.slice p0_1 a_.length c0_1)), (1, (.slice p0_2 b_.length c0_2)), (5, (.int .i64 (i1_1)))] a ∧ Mem w0 (hp w0) w []) (0) ((a_.length : Int)) hl0_3 ?_ ?_ ?_
   ·
    exact ⟨hf.sub ⟨rfl, rfl, rfl, trivial⟩, hm.pick [] (by decide) rfl⟩
   ·
    clear hf hm
    rintro i1_1 xs1_1 a w ⟨hf, hm⟩ hi1_1 hi1_2 q0_1 hb0_1 ho0_1
    refine wp_seq (wp_seq (wp_region_lit (st_y hf rfl rfl rfl (y_move rfl rfl) fun a hf => st_y hf rfl rfl rfl (y_move rfl rfl) fun a hf => st_y hf rfl rfl rfl (y_len_slice st_25.und rfl rfl) fun a hf => st_y hf rfl rfl rfl (y_lss rfl rfl rfl) fun a hf => st_end (x_then_n ?_))))
    refine cond_t hf rfl (decide_eq_true (by omega)) (wp_skip (x_then_n (wp_seq (wp_block (wp_seq (wp_tree (.p 0 (.p 1 (.p 2 (.p 4 (.p 5 (.p 6 (.q 3 (.e 7 (.p 8 .fin) .nil)))))))) [7] [0, 1, 2, 4, 5, 6, 8] (fun w => Mem w0 (hp w0) w []) (by kernel_rfl) (by kernel_rfl) (fun _ _ _ h => h.2) ?_))))))
    replace hm := hm.drew
    have hS : Mem w0 (hp w0) _ [] := hm.pick [] (by decide) rfl
    refine td_p hf rfl rfl rfl rfl (fun w => y_move rfl rfl) fun a hf => td_p hf rfl rfl rfl rfl (fun w => y_move rfl rfl) fun a hf => ?_
    obtain ⟨x1_1, hx1_1, hb0_1⟩ := bnd hb0_1
    obtain ⟨h1_1, hx1_2⟩ := getI_some.1 hx1_1
    obtain ⟨b1_1, o1_1, c1_1, he⟩ := idx_form h1 hx1_2
    simp only [Value.slice.injEq, Option.some.injEq] at he; obtain ⟨rfl, _, rfl⟩ := he
    refine td_p hf rfl rfl rfl rfl (fun w => y_indexAddr st_25 rfl rfl rfl h1_1 (idx_lt hx1_2)) fun a hf => td_p hf rfl rfl rfl rfl (fun w => y_move rfl rfl) fun a hf => td_p hf rfl rfl rfl rfl (fun w => y_move rfl rfl) fun a hf => ?_
    obtain ⟨x1_2, hx1_3, hb0_1⟩ := bnd hb0_1
    obtain ⟨h1_2, hx1_4⟩ := getI_some.1 hx1_3
    obtain ⟨b1_2, o1_2, c1_2, he⟩ := idx_form h2 hx1_4
    simp only [Value.slice.injEq, Option.some.injEq] at he; obtain ⟨rfl, _, rfl⟩ := he
    refine td_p hf rfl rfl rfl rfl (fun w => y_indexAddr st_25 rfl rfl rfl h1_2 (idx_lt hx1_4)) fun a hf => td_y hf rfl rfl rfl rfl hS (fun w hm => y_load1 Tryz.isAgg3 rfl rfl ((flat_cells (cs := [(.int .i64 (x1_1))]) (hm.now h1) hx1_2 rfl).cell (j := 0) rfl)) fun a hf => te_one (td_ef hf rfl rfl rfl rfl (ef_y hf (y_load1 Tryz.isAgg3 rfl rfl ((flat_cells (cs := [(.int .i64 (x1_2))]) (hm.now h2) hx1_4 rfl).cell (j := 0) rfl))) ?_)
    clear hf a; rintro _ _ a ⟨rfl, rfl⟩ hf
    refine ⟨fun _ => hS, ?_⟩
    refine td_p hf rfl rfl rfl rfl (fun w => y_neq rfl rfl rfl) fun a hf => ?_
    clear hS; refine td_end ?_
    refine x_then_n ?_
    rcases bcases (decide (x1_1 ≠ x1_2)) with h1_3 | h1_3
    ·
     replace hb0_1 := (ite_t h1_3).symm.trans hb0_1
     have h1_4 := of_decide_eq_true h1_3
     refine cond_t hf rfl h1_3 (wp_seq (wp_region_lit (st_y hf rfl rfl rfl (y_assign rfl rfl) fun a hf => st_end (x_then_n (wp_ret (x_blk_ret (x_then_ret ?_)))))))
     refine x_then_ret (x_blk_ret (x_then_ret ?_))
     obtain rfl := Option.some.inj hb0_1
     obtain rfl := ho0_1 _ rfl
     replace hq := sum_r hq
     obtain rfl := Option.some.inj hq
     refine ret_tmp hf Tryz.results35 rfl ?_
     exact ⟨rfl, hm.below⟩
    ·
     replace hb0_1 := (ite_f h1_3).symm.trans hb0_1
     have h1_5 := of_decide_eq_false h1_3
     refine cond_f hf rfl h1_3 (wp_skip (x_blk_n (x_then_n (wp_region_lit (st_y hf rfl rfl rfl (y_move rfl rfl) fun a hf => st_y hf rfl rfl rfl (y_add64 rfl rfl rfl (by omega) (by omega)) fun a hf => st_y hf rfl rfl rfl (y_assign rfl rfl) fun a hf => st_end ?_)))))
     refine x_then_n ?_
     obtain rfl := Option.some.inj hb0_1
     exact ⟨_, rfl, hf.sub ⟨rfl, rfl, rfl, trivial⟩, hm.pick [] (by decide) rfl⟩
   ·
    clear hf hm
    rintro i0_1 xs0_1 a w ⟨hf, hm⟩ hi0_1 hi0_2 rfl
    replace hq := sum_l hq
    refine wp_seq (wp_seq (wp_region_lit (st_y hf rfl rfl rfl (y_move rfl rfl) fun a hf => st_y hf rfl rfl rfl (y_move rfl rfl) fun a hf => st_y hf rfl rfl rfl (y_len_slice st_25.und rfl rfl) fun a hf => st_y hf rfl rfl rfl (y_lss rfl rfl rfl) fun a hf => st_end (x_then_n ?_))))
    refine cond_f hf rfl (decide_eq_false (by omega)) (wp_exit (x_then_exit (x_then_exit (x_blk_hit (x_then_n (wp_seq (wp_region_lit (st_y hf rfl rfl rfl (y_assign rfl rfl) fun a hf => ?_))))))))
    refine st_end (x_then_n (wp_ret ?_))
    obtain rfl := Option.some.inj hq
    refine ret_tmp hf Tryz.results35 rfl ?_
    exact ⟨rfl, hm.below⟩

theorem spec_SameOutcome_ok (w0 : World) (a_ : Outcome_) (v1 : Value) (h1 : GT.rep (hp w0) [v1] a_.said) (v2 : Value) (h2 : GT.rep (hp w0) [v2] a_.cells) (b_ : Outcome_) (v3 : Value) (h3 : GT.rep (hp w0) [v3] b_.said) (v4 : Value) (h4 : GT.rep (hp w0) [v4] b_.cells) (r : Bool) (hq : spec_SameOutcome a_ b_ = some r) :
    Con Tryz.prog 24 [(.agg #[v1, (.int .i64 (a_.end_)), (.int .i64 (a_.value)), v2]), (.agg #[v3, (.int .i64 (b_.end_)), (.int .i64 (b_.value)), v4])] w0 (fun v w' => v = (.bool (r)) ∧ Below w0.heap.size w0 w') := by
  unfold spec_SameOutcome at hq
  refine con_body (l := [(0, (.agg #[v1, (.int .i64 (a_.end_)), (.int .i64 (a_.value)), v2])), (1, (.agg #[v3, (.int .i64 (b_.end_)), (.int .i64 (b_.value)), v4]))]) Tryz.func24 rfl Tryz.ntmps24 (Args.get ⟨rfl, rfl, trivial⟩) rfl ?_
  intro a hf
  have hm := Mem.start w0
  refine wp_seq (wp_region_lit (st_ef hf rfl rfl rfl (e_box hf hm rfl rfl rfl) ?_))
  clear hf a; rintro _ w0_1 a ⟨b0_1, rfl, hm⟩ hf
  refine st_ef hf rfl rfl rfl (e_box hf hm rfl rfl rfl) ?_
  clear hf a; rintro _ w0_2 a ⟨b0_2, rfl, hm⟩ hf
  refine st_y hf rfl rfl rfl (y_assign rfl rfl) fun a hf => st_end (x_then_n (wp_seq ?_))
  obtain ⟨s0_1, hq0_1, hq⟩ := bnd hq
  refine code_cut (K := fun a w => Fr 31 [(4, (.bool (s0_1)))] a ∧ Mem w0 (hp w0) w []) ?_ ?_
  ·
   refine wp_region_lit (st_y hf rfl rfl rfl (y_fieldAddr fo_41_0 rfl rfl) fun a hf => st_y hf rfl rfl rfl (y_load1 Tryz.isAgg25 rfl rfl (hm.blk_cell 1 rfl rfl)) fun a hf => st_y hf rfl rfl rfl (y_fieldAddr fo_41_0 rfl rfl) fun a hf => st_y hf rfl rfl rfl (y_load1 Tryz.isAgg25 rfl rfl (hm.blk_cell 0 rfl rfl)) fun a hf => ?_)
   obtain ⟨r1_1, hx1_1, hq0_1⟩ := bnd hq0_1
   refine st_ef hf rfl rfl rfl (e_call hf rfl Tryz.call35 rfl (spec_l5Ints_ok _ a_.said v1 (hm.now h1) b_.said v3 (hm.now h3) _ hx1_1)) ?_
   clear hf a; rintro v1_1 w1_1 a ho1_1 hf
   obtain ⟨rfl, hB⟩ := ho1_1
   replace hm := hm.below' hB; clear hB
   refine st_y hf rfl rfl rfl (y_move rfl rfl) fun a hf => ?_
   rcases bcases (r1_1) with h1_1 | h1_1
   ·
    replace hq0_1 := (ite_t h1_1).symm.trans hq0_1
    refine st_yg hf rfl rfl (lk_b rfl h1_1) rfl rfl (y_fieldAddr fo_41_1 rfl rfl) fun a hf => st_yg hf rfl rfl (lk_b rfl h1_1) rfl rfl (y_load1 Tryz.isAgg3 rfl rfl (hm.blk_cell 1 rfl rfl)) fun a hf => st_yg hf rfl rfl (lk_b rfl h1_1) rfl rfl (y_fieldAddr fo_41_1 rfl rfl) fun a hf => st_yg hf rfl rfl (lk_b rfl h1_1) rfl rfl (y_load1 Tryz.isAgg3 rfl rfl (hm.blk_cell 0 rfl rfl)) fun a hf => st_yg hf rfl rfl (lk_b rfl h1_1) rfl rfl (y_eql rfl rfl rfl) fun a hf => st_y hf rfl rfl rfl (y_pick_t rfl (ev_b rfl h1_1) rfl) fun a hf => st_y hf rfl rfl rfl (y_move rfl rfl) fun a hf => ?_
    rcases bcases (decide (a_.end_ = b_.end_)) with h1_2 | h1_2
    ·
     replace hq0_1 := (ite_t h1_2).symm.trans hq0_1
     have h1_3 := of_decide_eq_true h1_2
     refine st_yg hf rfl rfl (lk_b rfl h1_2) rfl rfl (y_fieldAddr fo_41_2 rfl rfl) fun a hf => st_yg hf rfl rfl (lk_b rfl h1_2) rfl rfl (y_load1 Tryz.isAgg3 rfl rfl (hm.blk_cell 1 rfl rfl)) fun a hf => st_yg hf rfl rfl (lk_b rfl h1_2) rfl rfl (y_fieldAddr fo_41_2 rfl rfl) fun a hf => st_yg hf rfl rfl (lk_b rfl h1_2) rfl rfl (y_load1 Tryz.isAgg3 rfl rfl (hm.blk_cell 0 rfl rfl)) fun a hf => st_yg hf rfl rfl (lk_b rfl h1_2) rfl rfl (y_eql rfl rfl rfl) fun a hf => st_y hf rfl rfl rfl (y_pick_t rfl (ev_b rfl h1_2) rfl) fun a hf => st_y hf rfl rfl rfl (y_move rfl rfl) fun a hf => ?_
     rcases bcases (decide (a_.value = b_.value)) with h1_4 | h1_4
     ·
      replace hq0_1 := (ite_t h1_4).symm.trans hq0_1
      have h1_5 := of_decide_eq_true h1_4
      refine st_yg hf rfl rfl (lk_b rfl h1_4) rfl rfl (y_fieldAddr fo_41_3 rfl rfl) fun a hf => st_yg hf rfl rfl (lk_b rfl h1_4) rfl rfl (y_load1 Tryz.isAgg25 rfl rfl (hm.blk_cell 1 rfl rfl)) fun a hf => st_yg hf rfl rfl (lk_b rfl h1_4) rfl rfl (y_fieldAddr fo_41_3 rfl rfl) fun a hf => st_yg hf rfl rfl (lk_b rfl h1_4) rfl rfl (y_load1 Tryz.isAgg25 rfl rfl (hm.blk_cell 0 rfl rfl)) fun a hf => ?_
      obtain ⟨r1_2, hx1_2, hq0_1⟩ := bnd hq0_1
      refine st_efg hf rfl rfl (lk_b rfl h1_4) rfl rfl (e_call hf rfl Tryz.call35 rfl (spec_l5Ints_ok _ a_.cells v2 (hm.now h2) b_.cells v4 (hm.now h4) _ hx1_2)) ?_
      clear hf a; rintro v1_2 w1_2 a ho1_2 hf
      obtain ⟨rfl, hB⟩ := ho1_2
      replace hm := hm.below' hB; clear hB
      refine st_y hf rfl rfl rfl (y_pick_t rfl (ev_b rfl h1_4) rfl) fun a hf => st_y hf rfl rfl rfl (y_assign rfl rfl) fun a hf => st_end (x_then_n ?_)
      obtain rfl := Option.some.inj hq0_1
      exact ⟨hf.sub ⟨rfl, trivial⟩, hm.pick [] (by decide) rfl⟩
     ·
      replace hq0_1 := (ite_f h1_4).symm.trans hq0_1
      have h1_6 := of_decide_eq_false h1_4
      refine st_no hf rfl rfl (lk_b rfl h1_4) rfl rfl rfl fun a hf => st_no hf rfl rfl (lk_b rfl h1_4) rfl rfl rfl fun a hf => st_no hf rfl rfl (lk_b rfl h1_4) rfl rfl rfl fun a hf => st_no hf rfl rfl (lk_b rfl h1_4) rfl rfl rfl fun a hf => st_no hf rfl rfl (lk_b rfl h1_4) rfl rfl rfl fun a hf => st_y hf rfl rfl rfl (y_pick_f rfl (ev_b rfl h1_4) rfl) fun a hf => st_y hf rfl rfl rfl (y_assign rfl rfl) fun a hf => st_end (x_then_n ?_)
      obtain rfl := Option.some.inj hq0_1
      exact ⟨hf.sub ⟨rfl, trivial⟩, hm.pick [] (by decide) rfl⟩
    ·
     replace hq0_1 := (ite_f h1_2).symm.trans hq0_1
     have h1_7 := of_decide_eq_false h1_2
     refine st_no hf rfl rfl (lk_b rfl h1_2) rfl rfl rfl fun a hf => st_no hf rfl rfl (lk_b rfl h1_2) rfl rfl rfl fun a hf => st_no hf rfl rfl (lk_b rfl h1_2) rfl rfl rfl fun a hf => st_no hf rfl rfl (lk_b rfl h1_2) rfl rfl rfl fun a hf => st_no hf rfl rfl (lk_b rfl h1_2) rfl rfl rfl fun a hf => st_y hf rfl rfl rfl (y_pick_f rfl (ev_b rfl h1_2) rfl) fun a hf => st_y hf rfl rfl rfl (y_move rfl rfl) fun a hf => st_no hf rfl rfl (lk_b rfl rfl) rfl rfl rfl fun a hf => st_no hf rfl rfl (lk_b rfl rfl) rfl rfl rfl fun a hf => ?_
     refine st_no hf rfl rfl (lk_b rfl rfl) rfl rfl rfl fun a hf => st_no hf rfl rfl (lk_b rfl rfl) rfl rfl rfl fun a hf => st_no hf rfl rfl (lk_b rfl rfl) rfl rfl rfl fun a hf => st_y hf rfl rfl rfl (y_pick_f rfl (ev_b rfl rfl) rfl) fun a hf => st_y hf rfl rfl rfl (y_assign rfl rfl) fun a hf => st_end (x_then_n ?_)
     obtain rfl := Option.some.inj hq0_1
     exact ⟨hf.sub ⟨rfl, trivial⟩, hm.pick [] (by decide) rfl⟩
   ·
    replace hq0_1 := (ite_f h1_1).symm.trans hq0_1
    refine st_no hf rfl rfl (lk_b rfl h1_1) rfl rfl rfl fun a hf => st_no hf rfl rfl (lk_b rfl h1_1) rfl rfl rfl fun a hf => st_no hf rfl rfl (lk_b rfl h1_1) rfl rfl rfl fun a hf => st_no hf rfl rfl (lk_b rfl h1_1) rfl rfl rfl fun a hf => st_no hf rfl rfl (lk_b rfl h1_1) rfl rfl rfl fun a hf => st_y hf rfl rfl rfl (y_pick_f rfl (ev_b rfl h1_1) rfl) fun a hf => st_y hf rfl rfl rfl (y_move rfl rfl) fun a hf => st_no hf rfl rfl (lk_b rfl rfl) rfl rfl rfl fun a hf => st_no hf rfl rfl (lk_b rfl rfl) rfl rfl rfl fun a hf => ?_
    refine st_no hf rfl rfl (lk_b rfl rfl) rfl rfl rfl fun a hf => st_no hf rfl rfl (lk_b rfl rfl) rfl rfl rfl fun a hf => st_no hf rfl rfl (lk_b rfl rfl) rfl rfl rfl fun a hf => st_y hf rfl rfl rfl (y_pick_f rfl (ev_b rfl rfl) rfl) fun a hf => st_y hf rfl rfl rfl (y_move rfl rfl) fun a hf => st_no hf rfl rfl (lk_b rfl rfl) rfl rfl rfl fun a hf => st_no hf rfl rfl (lk_b rfl rfl) rfl rfl rfl fun a hf => st_no hf rfl rfl (lk_b rfl rfl) rfl rfl rfl fun a hf => st_no hf rfl rfl (lk_b rfl rfl) rfl rfl rfl fun a hf => ?_
    refine st_no hf rfl rfl (lk_b rfl rfl) rfl rfl rfl fun a hf => st_y hf rfl rfl rfl (y_pick_f rfl (ev_b rfl rfl) rfl) fun a hf => st_y hf rfl rfl rfl (y_assign rfl rfl) fun a hf => st_end (x_then_n ?_)
    obtain rfl := Option.some.inj hq0_1
    exact ⟨hf.sub ⟨rfl, trivial⟩, hm.pick [] (by decide) rfl⟩
  ·
   clear hf hm
   rintro a w ⟨hf, hm⟩
   refine x_then_n (wp_ret ?_)
   obtain rfl := Option.some.inj hq
   refine ret_tmp hf Tryz.results24 rfl ?_
   exact ⟨rfl, hm.below⟩

theorem spec_SameRuns_ok (w0 : World) (a_ : Unit_) (v1 : Value) (h1 : GT.rep (hp w0) [v1] a_.codes) (b_ : Unit_) (v2 : Value) (h2 : GT.rep (hp w0) [v2] b_.codes) (in_ : List Int) (v3 : Value) (h3 : GT.rep (hp w0) [v3] in_) (steps : Int) (r : Bool) (hq : spec_SameRuns a_ b_ in_ steps = some r) :
    Con Tryz.prog 7 [(.agg #[v1]), (.agg #[v2]), v3, (.int .i64 (steps))] w0 (fun v w' => v = (.bool (r)) ∧ Below w0.heap.size w0 w') := by
  unfold spec_SameRuns at hq
  refine con_body (l := [(0, (.agg #[v1])), (1, (.agg #[v2])), (2, v3), (3, (.int .i64 (steps)))]) Tryz.func7 rfl Tryz.ntmps7 (Args.get ⟨rfl, rfl, rfl, rfl, trivial⟩) rfl ?_
  intro a hf
  have hm := Mem.start w0
  refine wp_seq (wp_region_lit (st_ef hf rfl rfl rfl (e_box hf hm rfl rfl rfl) ?_))
  clear hf a; rintro _ w0_1 a ⟨b0_1, rfl, hm⟩ hf
  refine st_ef hf rfl rfl rfl (e_box hf hm rfl rfl rfl) ?_
  clear hf a; rintro _ w0_2 a ⟨b0_2, rfl, hm⟩ hf
  refine st_y hf rfl rfl rfl (y_assign rfl rfl) fun a hf => st_end (x_then_n (wp_seq (wp_region_lit (st_y hf rfl rfl rfl (y_loadN (cs := [v1]) Tryz.isAgg30 Tryz.sizeOf30 rfl rfl (hm.blk_at 1 rfl)) fun a hf => st_y hf rfl rfl rfl (y_move rfl rfl) fun a hf => st_y hf rfl rfl rfl (y_move rfl rfl) fun a hf => ?_))))
  obtain ⟨r0_1, hx0_1, hq⟩ := bnd hq
  refine st_ef hf rfl rfl rfl (e_call hf rfl Tryz.call18 rfl (spec_RunUnit_ok _ a_ v1 (hm.now h1) in_ v3 (hm.now h3) steps _ hx0_1)) ?_
  clear hf a; rintro v0_1 w0_3 a ho0_1 hf
  obtain ⟨v0_2, v0_3, rfl, hB⟩ := ho0_1
  replace hm := hm.give hB; clear hB
  refine st_y hf rfl rfl rfl (y_move rfl rfl) fun a hf => st_y hf rfl rfl rfl (y_extract rfl rfl rfl) fun a hf => st_y hf rfl rfl rfl (y_extract rfl rfl rfl) fun a hf => st_ef hf rfl rfl rfl (e_alloc hm Tryz.zeroValue41 rfl rfl) ?_
  clear hf a; rintro _ w0_4 a ⟨b0_3, rfl, hm⟩ hf
  refine st_ef0 hf rfl rfl (e_storeN 0 hf hm rfl Tryz.sizeOf41 rfl rfl rfl (one_cons (rep_one (hm.ow_rep 1 rfl)) (one_cons rfl (one_cons rfl (one_cons (rep_one (hm.ow_rep 2 rfl)) one_nil)))) rfl rfl) ?_
  clear hf a; rintro _ w0_5 a hm hf
  refine st_y hf rfl rfl rfl (y_assign rfl rfl) fun a hf => st_end (x_then_n (wp_seq (wp_region_lit (st_y hf rfl rfl rfl (y_loadN (cs := [v2]) Tryz.isAgg30 Tryz.sizeOf30 rfl rfl (hm.blk_at 3 rfl)) fun a hf => st_y hf rfl rfl rfl (y_move rfl rfl) fun a hf => ?_))))
  obtain ⟨r0_2, hx0_2, hq⟩ := bnd hq
  refine st_ef hf rfl rfl rfl (e_call hf rfl Tryz.call18 rfl (spec_RunUnit_ok _ b_ v2 (hm.now h2) in_ v3 (hm.now h3) 60000 _ hx0_2)) ?_
  clear hf a; rintro v0_4 w0_6 a ho0_2 hf
  obtain ⟨v0_5, v0_6, rfl, hB⟩ := ho0_2
  replace hm := hm.give hB; clear hB
  refine st_y hf rfl rfl rfl (y_move rfl rfl) fun a hf => st_y hf rfl rfl rfl (y_extract rfl rfl rfl) fun a hf => st_y hf rfl rfl rfl (y_extract rfl rfl rfl) fun a hf => st_ef hf rfl rfl rfl (e_alloc hm Tryz.zeroValue41 rfl rfl) ?_
  clear hf a; rintro _ w0_7 a ⟨b0_4, rfl, hm⟩ hf
  refine st_ef0 hf rfl rfl (e_storeN 0 hf hm rfl Tryz.sizeOf41 rfl rfl rfl (one_cons (rep_one (hm.ow_rep 1 rfl)) (one_cons rfl (one_cons rfl (one_cons (rep_one (hm.ow_rep 2 rfl)) one_nil)))) rfl rfl) ?_
  clear hf a; rintro _ w0_8 a hm hf
  refine st_y hf rfl rfl rfl (y_assign rfl rfl) fun a hf => st_end (x_then_n (wp_seq ?_))
  obtain ⟨s0_1, hq0_1, hq⟩ := bnd hq
  refine code_cut (K := fun a w => Fr 40 [(8, (.bool (s0_1)))] a ∧ Mem w0 (hp w0) w []) ?_ ?_
  ·
   refine wp_region_lit (st_y hf rfl rfl rfl (y_move rfl rfl) fun a hf => st_y hf rfl rfl rfl (y_move rfl rfl) fun a hf => ?_)
   rcases bcases (r0_1.2) with h1_1 | h1_1
   ·
    replace hq0_1 := (ite_t h1_1).symm.trans hq0_1
    refine st_yg hf rfl rfl (lk_b rfl h1_1) rfl rfl (y_move rfl rfl) fun a hf => st_y hf rfl rfl rfl (y_pick_t rfl (ev_b rfl h1_1) rfl) fun a hf => st_y hf rfl rfl rfl (y_move rfl rfl) fun a hf => ?_
    rcases bcases (r0_2.2) with h1_2 | h1_2
    ·
     replace hq0_1 := (ite_t h1_2).symm.trans hq0_1
     refine st_yg hf rfl rfl (lk_b rfl h1_2) rfl rfl (y_fieldAddr fo_41_1 rfl rfl) fun a hf => st_yg hf rfl rfl (lk_b rfl h1_2) rfl rfl (y_load1 Tryz.isAgg3 rfl rfl (hm.blk_cell 3 rfl rfl)) fun a hf => st_yg hf rfl rfl (lk_b rfl h1_2) rfl rfl (y_eql rfl rfl rfl) fun a hf => st_yg hf rfl rfl (lk_b rfl h1_2) rfl rfl (y_move rfl rfl) fun a hf => ?_
     rcases bcases (decide (r0_1.1.end_ = 3)) with h1_3 | h1_3
     ·
      replace hq0_1 := (ite_t h1_3).symm.trans hq0_1
      have h1_4 := of_decide_eq_true h1_3
      refine st_no hf rfl rfl (lk_b rfl h1_3) rfl rfl rfl fun a hf => st_no hf rfl rfl (lk_b rfl h1_3) rfl rfl rfl fun a hf => st_no hf rfl rfl (lk_b rfl h1_3) rfl rfl rfl fun a hf => st_yg hf rfl rfl (lk_b rfl h1_2) rfl rfl (y_pick_t rfl (ev_b rfl h1_3) rfl) fun a hf => st_y hf rfl rfl rfl (y_pick_t rfl (ev_b rfl h1_2) rfl) fun a hf => st_y hf rfl rfl rfl (y_assign rfl rfl) fun a hf => st_end (x_then_n ?_)
      obtain rfl := Option.some.inj hq0_1
      exact ⟨hf.sub ⟨rfl, trivial⟩, hm.pick [] (by decide) rfl⟩
     ·
      replace hq0_1 := (ite_f h1_3).symm.trans hq0_1
      have h1_5 := of_decide_eq_false h1_3
      refine st_yg hf rfl rfl (lk_b rfl h1_3) rfl rfl (y_loadN (cs := [v0_2, (.int .i64 (r0_1.1.end_)), (.int .i64 (r0_1.1.value)), v0_3]) Tryz.isAgg41 Tryz.sizeOf41 rfl rfl (hm.blk_at 3 rfl)) fun a hf => st_yg hf rfl rfl (lk_b rfl h1_3) rfl rfl (y_loadN (cs := [v0_5, (.int .i64 (r0_2.1.end_)), (.int .i64 (r0_2.1.value)), v0_6]) Tryz.isAgg41 Tryz.sizeOf41 rfl rfl (hm.blk_at 0 rfl)) fun a hf => ?_
      obtain ⟨r1_1, hx1_1, hq0_1⟩ := bnd hq0_1
      refine st_efg hf rfl rfl (lk_b rfl h1_3) rfl rfl (e_call hf rfl Tryz.call24 rfl (spec_SameOutcome_ok _ r0_1.1 v0_2 (hm.ow_rep 4 rfl) v0_3 (hm.ow_rep 5 rfl) r0_2.1 v0_5 (hm.ow_rep 1 rfl) v0_6 (hm.ow_rep 2 rfl) _ hx1_1)) ?_
      clear hf a; rintro v1_1 w1_1 a ho1_1 hf
      obtain ⟨rfl, hB⟩ := ho1_1
      replace hm := hm.below' hB; clear hB
      refine st_yg hf rfl rfl (lk_b rfl h1_2) rfl rfl (y_pick_f rfl (ev_b rfl h1_3) rfl) fun a hf => st_y hf rfl rfl rfl (y_pick_t rfl (ev_b rfl h1_2) rfl) fun a hf => st_y hf rfl rfl rfl (y_assign rfl rfl) fun a hf => st_end (x_then_n ?_)
      obtain rfl := Option.some.inj hq0_1
      exact ⟨hf.sub ⟨rfl, trivial⟩, hm.pick [] (by decide) rfl⟩
    ·
     replace hq0_1 := (ite_f h1_2).symm.trans hq0_1
     refine st_no hf rfl rfl (lk_b rfl h1_2) rfl rfl rfl fun a hf => st_no hf rfl rfl (lk_b rfl h1_2) rfl rfl rfl fun a hf => st_no hf rfl rfl (lk_b rfl h1_2) rfl rfl rfl fun a hf => st_no hf rfl rfl (lk_b rfl h1_2) rfl rfl rfl fun a hf => st_nou hf rfl rfl rfl rfl rfl fun a hf => st_nou hf rfl rfl rfl rfl rfl fun a hf => st_nou hf rfl rfl rfl rfl rfl fun a hf => st_no hf rfl rfl (lk_b rfl h1_2) rfl rfl rfl fun a hf => st_y hf rfl rfl rfl (y_pick_f rfl (ev_b rfl h1_2) rfl) fun a hf => ?_
     refine st_y hf rfl rfl rfl (y_assign rfl rfl) fun a hf => st_end (x_then_n ?_)
     obtain rfl := Option.some.inj hq0_1
     exact ⟨hf.sub ⟨rfl, trivial⟩, hm.pick [] (by decide) rfl⟩
   ·
    replace hq0_1 := (ite_f h1_1).symm.trans hq0_1
    refine st_no hf rfl rfl (lk_b rfl h1_1) rfl rfl rfl fun a hf => st_y hf rfl rfl rfl (y_pick_f rfl (ev_b rfl h1_1) rfl) fun a hf => st_y hf rfl rfl rfl (y_move rfl rfl) fun a hf => st_no hf rfl rfl (lk_b rfl rfl) rfl rfl rfl fun a hf => st_no hf rfl rfl (lk_b rfl rfl) rfl rfl rfl fun a hf => st_no hf rfl rfl (lk_b rfl rfl) rfl rfl rfl fun a hf => st_no hf rfl rfl (lk_b rfl rfl) rfl rfl rfl fun a hf => st_nou hf rfl rfl rfl rfl rfl fun a hf => st_nou hf rfl rfl rfl rfl rfl fun a hf => ?_
    refine st_nou hf rfl rfl rfl rfl rfl fun a hf => st_no hf rfl rfl (lk_b rfl rfl) rfl rfl rfl fun a hf => st_y hf rfl rfl rfl (y_pick_f rfl (ev_b rfl rfl) rfl) fun a hf => st_y hf rfl rfl rfl (y_assign rfl rfl) fun a hf => st_end (x_then_n ?_)
    obtain rfl := Option.some.inj hq0_1
    exact ⟨hf.sub ⟨rfl, trivial⟩, hm.pick [] (by decide) rfl⟩
  ·
   clear hf hm
   rintro a w ⟨hf, hm⟩
   refine x_then_n (wp_ret ?_)
   obtain rfl := Option.some.inj hq
   refine ret_tmp hf Tryz.results7 rfl ?_
   exact ⟨rfl, hm.below⟩

theorem impl_within_ok (w0 : World) (n_ : Int) (low : Int) (high : Int) (r : Bool) (hq : impl_within n_ low high = some r) :
    Con Tryz.prog 45 [(.int .i64 (n_)), (.int .i64 (low)), (.int .i64 (high))] w0 (fun v w' => v = (.bool (r)) ∧ Below w0.heap.size w0 w') := by
  unfold impl_within at hq
  refine con_body (l := [(0, (.int .i64 (n_))), (1, (.int .i64 (low))), (2, (.int .i64 (high)))]) Tryz.func45 rfl Tryz.ntmps45 (Args.get ⟨rfl, rfl, rfl, trivial⟩) rfl ?_
  intro a hf
  have hm := Mem.start w0
  refine wp_seq (wp_region_lit (st_y hf rfl rfl rfl (y_assign rfl rfl) fun a hf => st_end (x_then_n (wp_seq ?_))))
  obtain ⟨s0_1, hq0_1, hq⟩ := bnd hq
  refine code_cut (K := fun a w => Fr 15 [(6, (.bool (s0_1)))] a ∧ Mem w0 (hp w0) w []) ?_ ?_
  ·
   refine wp_region_lit (st_y hf rfl rfl rfl (y_move rfl rfl) fun a hf => st_y hf rfl rfl rfl (y_move rfl rfl) fun a hf => st_y hf rfl rfl rfl (y_leq rfl rfl rfl) fun a hf => st_y hf rfl rfl rfl (y_move rfl rfl) fun a hf => ?_)
   rcases bcases (decide (low ≤ n_)) with h1_1 | h1_1
   ·
    replace hq0_1 := (ite_t h1_1).symm.trans hq0_1
    have h1_2 := of_decide_eq_true h1_1
    refine st_yg hf rfl rfl (lk_b rfl h1_1) rfl rfl (y_move rfl rfl) fun a hf => st_yg hf rfl rfl (lk_b rfl h1_1) rfl rfl (y_move rfl rfl) fun a hf => st_yg hf rfl rfl (lk_b rfl h1_1) rfl rfl (y_leq rfl rfl rfl) fun a hf => st_y hf rfl rfl rfl (y_pick_t rfl (ev_b rfl h1_1) rfl) fun a hf => st_y hf rfl rfl rfl (y_assign rfl rfl) fun a hf => st_end (x_then_n ?_)
    obtain rfl := Option.some.inj hq0_1
    exact ⟨hf.sub ⟨rfl, trivial⟩, hm.pick [] (by decide) rfl⟩
   ·
    replace hq0_1 := (ite_f h1_1).symm.trans hq0_1
    have h1_3 := of_decide_eq_false h1_1
    refine st_no hf rfl rfl (lk_b rfl h1_1) rfl rfl rfl fun a hf => st_no hf rfl rfl (lk_b rfl h1_1) rfl rfl rfl fun a hf => st_no hf rfl rfl (lk_b rfl h1_1) rfl rfl rfl fun a hf => st_y hf rfl rfl rfl (y_pick_f rfl (ev_b rfl h1_1) rfl) fun a hf => st_y hf rfl rfl rfl (y_assign rfl rfl) fun a hf => st_end (x_then_n ?_)
    obtain rfl := Option.some.inj hq0_1
    exact ⟨hf.sub ⟨rfl, trivial⟩, hm.pick [] (by decide) rfl⟩
  ·
   clear hf hm
   rintro a w ⟨hf, hm⟩
   refine x_then_n (wp_ret ?_)
   obtain rfl := Option.some.inj hq
   refine ret_tmp hf Tryz.results45 rfl ?_
   exact ⟨rfl, hm.below⟩

theorem impl_codeOk_1_ok (w0 : World) (r_ : Int) (c0_ : Code_) (v1 : Value) (h1 : GT.rep (hp w0) [v1] c0_.blocks) (bf0 : Nat) (hbf0 : w0.heap[bf0]? = some (.cells ([(.int .i64 (c0_.params)), (.int .i64 (c0_.regs)), v1] : List Value).toArray 69 (0, 0))) (r : Bool) (hq : impl_codeOk_1 r_ c0_ = some r) :
    Con Tryz.prog 81 [(.int .i64 (r_)), (.pointer (some ⟨bf0, 0, none⟩))] w0 (fun v w' => v = (.bool (r)) ∧ Below w0.heap.size w0 w') := by
  unfold impl_codeOk_1 at hq
  refine con_body (l := [(0, (.int .i64 (r_))), (1, (.pointer (some ⟨bf0, 0, none⟩)))]) Tryz.func81 rfl Tryz.ntmps81 (Args.get ⟨rfl, rfl, trivial⟩) rfl ?_
  intro a hf
  have hm := Mem.start w0
  refine wp_seq (wp_region_lit (st_y hf rfl rfl rfl (y_assign rfl rfl) fun a hf => st_end (x_then_n (wp_seq (wp_region_lit (st_y hf rfl rfl rfl (y_move rfl rfl) fun a hf => st_y hf rfl rfl rfl (y_fieldAddr fo_69_1 rfl rfl) fun a hf => ?_))))))
  refine st_y hf rfl rfl rfl (y_load1 Tryz.isAgg3 rfl rfl (hm.old_cell hbf0 rfl)) fun a hf => st_y hf rfl rfl rfl (y_subw rfl rfl rfl) fun a hf => ?_
  obtain ⟨r0_1, hx0_1, hq⟩ := bnd hq
  refine st_ef hf rfl rfl rfl (e_call hf rfl Tryz.call45 rfl (impl_within_ok _ r_ 0 (w64 (c0_.regs - 1)) _ hx0_1)) ?_
  clear hf a; rintro v0_1 w0_1 a ho0_1 hf
  obtain ⟨rfl, hB⟩ := ho0_1
  replace hm := hm.below' hB; clear hB
  refine st_y hf rfl rfl rfl (y_assign rfl rfl) fun a hf => st_end (x_then_n (wp_ret ?_))
  obtain rfl := Option.some.inj hq
  refine ret_tmp hf Tryz.results81 rfl ?_
  exact ⟨rfl, hm.below⟩

theorem impl_nextCount_ok (w0 : World) (jump : Int) (r : Int) (hq : impl_nextCount jump = some r) :
    Con Tryz.prog 82 [(.int .i64 (jump))] w0 (fun v w' => v = (.int .i64 (r)) ∧ Below w0.heap.size w0 w') := by
  unfold impl_nextCount at hq
  refine con_body (l := [(0, (.int .i64 (jump)))]) Tryz.func82 rfl Tryz.ntmps82 (Args.get ⟨rfl, trivial⟩) rfl ?_
  intro a hf
  have hm := Mem.start w0
  refine wp_seq (wp_region_lit (st_y hf rfl rfl rfl (y_assign rfl rfl) fun a hf => st_end (x_then_n (wp_seq (wp_seq (wp_region_lit (st_y hf rfl rfl rfl (y_move rfl rfl) fun a hf => ?_)))))))
  refine st_end (x_then_n (wp_block (wp_seq (wp_region_lit (st_y hf rfl rfl rfl (y_eql rfl rfl rfl) fun a hf => st_y hf rfl rfl rfl (y_assign rfl rfl) fun a hf => st_end (x_then_n ?_))))))
  rcases bcases (decide (jump = 1)) with h0_1 | h0_1
  ·
   replace hq := (ite_t h0_1).symm.trans hq
   have h0_2 := of_decide_eq_true h0_1
   refine cond_t hf rfl h0_1 (wp_seq (wp_region_lit (st_y hf rfl rfl rfl (y_assign rfl rfl) fun a hf => st_end (x_then_n (wp_ret (x_blk_ret (x_then_ret ?_)))))))
   obtain rfl := Option.some.inj hq
   refine ret_tmp hf Tryz.results82 rfl ?_
   exact ⟨rfl, hm.below⟩
  ·
   replace hq := (ite_f h0_1).symm.trans hq
   have h0_3 := of_decide_eq_false h0_1
   refine cond_f hf rfl h0_1 (wp_seq (wp_region_lit (st_y hf rfl rfl rfl (y_eql rfl rfl rfl) fun a hf => st_y hf rfl rfl rfl (y_assign rfl rfl) fun a hf => st_end (x_then_n ?_))))
   rcases bcases (decide (jump = 2)) with h0_4 | h0_4
   ·
    replace hq := (ite_t h0_4).symm.trans hq
    have h0_5 := of_decide_eq_true h0_4
    refine cond_t hf rfl h0_4 (wp_seq (wp_region_lit (st_y hf rfl rfl rfl (y_assign rfl rfl) fun a hf => st_end (x_then_n (wp_ret (x_blk_ret (x_then_ret ?_)))))))
    obtain rfl := Option.some.inj hq
    refine ret_tmp hf Tryz.results82 rfl ?_
    exact ⟨rfl, hm.below⟩
   ·
    replace hq := (ite_f h0_4).symm.trans hq
    have h0_6 := of_decide_eq_false h0_4
    refine cond_f hf rfl h0_4 (wp_seq (wp_region_lit (st_y hf rfl rfl rfl (y_eql rfl rfl rfl) fun a hf => st_y hf rfl rfl rfl (y_assign rfl rfl) fun a hf => st_end (x_then_n ?_))))
    rcases bcases (decide (jump = 3)) with h0_7 | h0_7
    ·
     replace hq := (ite_t h0_7).symm.trans hq
     have h0_8 := of_decide_eq_true h0_7
     refine cond_t hf rfl h0_7 (wp_seq (wp_region_lit (st_y hf rfl rfl rfl (y_assign rfl rfl) fun a hf => st_end (x_then_n (wp_ret (x_blk_ret (x_then_ret ?_)))))))
     obtain rfl := Option.some.inj hq
     refine ret_tmp hf Tryz.results82 rfl ?_
     exact ⟨rfl, hm.below⟩
    ·
     replace hq := (ite_f h0_7).symm.trans hq
     have h0_9 := of_decide_eq_false h0_7
     refine cond_f hf rfl h0_7 (wp_skip (x_blk_n (x_then_n (wp_seq (wp_region_lit (st_y hf rfl rfl rfl (y_assign rfl rfl) fun a hf => st_end (x_then_n ?_)))))))
     refine wp_ret ?_
     obtain rfl := Option.some.inj hq
     refine ret_tmp hf Tryz.results82 rfl ?_
     exact ⟨rfl, hm.below⟩

theorem impl_usesOn_ok (w0 : World) (jump : Int) (r : Bool) (hq : impl_usesOn jump = some r) :
    Con Tryz.prog 83 [(.int .i64 (jump))] w0 (fun v w' => v = (.bool (r)) ∧ Below w0.heap.size w0 w') := by
  unfold impl_usesOn at hq
  refine con_body (l := [(0, (.int .i64 (jump)))]) Tryz.func83 rfl Tryz.ntmps83 (Args.get ⟨rfl, trivial⟩) rfl ?_
  intro a hf
  have hm := Mem.start w0
  refine wp_seq (wp_region_lit (st_y hf rfl rfl rfl (y_assign rfl rfl) fun a hf => st_end (x_then_n (wp_seq ?_))))
  obtain ⟨s0_1, hq0_1, hq⟩ := bnd hq
  refine code_cut (K := fun a w => Fr 9 [(2, (.bool (s0_1)))] a ∧ Mem w0 (hp w0) w []) ?_ ?_
  ·
   refine wp_region_lit (st_y hf rfl rfl rfl (y_move rfl rfl) fun a hf => st_y hf rfl rfl rfl (y_eql rfl rfl rfl) fun a hf => st_y hf rfl rfl rfl (y_move rfl rfl) fun a hf => ?_)
   rcases bcases (decide (jump = 2)) with h1_1 | h1_1
   ·
    replace hq0_1 := (ite_t h1_1).symm.trans hq0_1
    have h1_2 := of_decide_eq_true h1_1
    refine st_no hf rfl rfl (lk_b rfl h1_1) rfl rfl rfl fun a hf => st_no hf rfl rfl (lk_b rfl h1_1) rfl rfl rfl fun a hf => st_y hf rfl rfl rfl (y_pick_t rfl (ev_b rfl h1_1) rfl) fun a hf => st_y hf rfl rfl rfl (y_assign rfl rfl) fun a hf => st_end (x_then_n ?_)
    obtain rfl := Option.some.inj hq0_1
    exact ⟨hf.sub ⟨rfl, trivial⟩, hm.pick [] (by decide) rfl⟩
   ·
    replace hq0_1 := (ite_f h1_1).symm.trans hq0_1
    have h1_3 := of_decide_eq_false h1_1
    refine st_yg hf rfl rfl (lk_b rfl h1_1) rfl rfl (y_move rfl rfl) fun a hf => st_yg hf rfl rfl (lk_b rfl h1_1) rfl rfl (y_eql rfl rfl rfl) fun a hf => st_y hf rfl rfl rfl (y_pick_f rfl (ev_b rfl h1_1) rfl) fun a hf => st_y hf rfl rfl rfl (y_assign rfl rfl) fun a hf => st_end (x_then_n ?_)
    obtain rfl := Option.some.inj hq0_1
    exact ⟨hf.sub ⟨rfl, trivial⟩, hm.pick [] (by decide) rfl⟩
  ·
   clear hf hm
   rintro a w ⟨hf, hm⟩
   refine x_then_n (wp_ret ?_)
   obtain rfl := Option.some.inj hq
   refine ret_tmp hf Tryz.results83 rfl ?_
   exact ⟨rfl, hm.below⟩

theorem impl_codeOk_2_ok (w0 : World) (n_ : Int) (c0_ : Code_) (v1 : Value) (h1 : GT.rep (hp w0) [v1] c0_.blocks) (bf0 : Nat) (hbf0 : w0.heap[bf0]? = some (.cells ([(.int .i64 (c0_.params)), (.int .i64 (c0_.regs)), v1] : List Value).toArray 69 (0, 0))) (r : Bool) (hq : impl_codeOk_2 n_ c0_ = some r) :
    Con Tryz.prog 84 [(.int .i64 (n_)), (.pointer (some ⟨bf0, 0, none⟩))] w0 (fun v w' => v = (.bool (r)) ∧ Below w0.heap.size w0 w') := by
  unfold impl_codeOk_2 at hq
  refine con_body (l := [(0, (.int .i64 (n_))), (1, (.pointer (some ⟨bf0, 0, none⟩)))]) Tryz.func84 rfl Tryz.ntmps84 (Args.get ⟨rfl, rfl, trivial⟩) rfl ?_
  intro a hf
  have hm := Mem.start w0
  refine wp_seq (wp_region_lit (st_y hf rfl rfl rfl (y_assign rfl rfl) fun a hf => st_end (x_then_n (wp_seq (wp_region_lit (st_y hf rfl rfl rfl (y_move rfl rfl) fun a hf => st_y hf rfl rfl rfl (y_fieldAddr fo_69_2 rfl rfl) fun a hf => ?_))))))
  refine st_y hf rfl rfl rfl (y_load1 Tryz.isAgg67 rfl rfl (hm.old_cell hbf0 rfl)) fun a hf => ?_
  obtain ⟨p0_1, c0_1, he, hl0_1⟩ := ro_slice h1
  subst he
  refine st_y hf rfl rfl rfl (y_len_slice st_67.und rfl rfl) fun a hf => st_y hf rfl rfl rfl (y_sub64 rfl rfl rfl (by omega) (by omega)) fun a hf => ?_
  obtain ⟨r0_1, hx0_1, hq⟩ := bnd hq
  refine st_ef hf rfl rfl rfl (e_call hf rfl Tryz.call45 rfl (impl_within_ok _ n_ 1 (((c0_.blocks.length : Int)) - 1) _ hx0_1)) ?_
  clear hf a; rintro v0_1 w0_1 a ho0_1 hf
  obtain ⟨rfl, hB⟩ := ho0_1
  replace hm := hm.below' hB; clear hB
  refine st_y hf rfl rfl rfl (y_not rfl rfl) fun a hf => st_y hf rfl rfl rfl (y_assign rfl rfl) fun a hf => st_end (x_then_n (wp_ret ?_))
  obtain rfl := Option.some.inj hq
  refine ret_tmp hf Tryz.results84 rfl ?_
  exact ⟨rfl, hm.below⟩

theorem slices_IndexFunc_S_int_int_ok (w0 : World) (s_ : List Int) (v1 : Value) (h1 : GT.rep (hp w0) [v1] s_) (f : Int → Option Bool) (fv1 : Value) (hfn1 : ∀ (w : World) (y0 : Int) (r : Bool), Below w0.heap.size w0 w → f y0 = some r → FnOk Tryz.prog fv1 [(.int .i64 (y0))] w (fun v w' => v = (.bool (r)) ∧ Below w.heap.size w w')) (r : Int) (hq : slices_IndexFunc_S_int_int s_ f = some r) :
    Con Tryz.prog 89 [v1, fv1] w0 (fun v w' => v = (.int .i64 (r)) ∧ Below w0.heap.size w0 w') := by
  unfold slices_IndexFunc_S_int_int at hq
  refine con_body (l := [(0, v1), (1, fv1)]) Tryz.func89 rfl Tryz.ntmps89 (Args.get ⟨rfl, rfl, trivial⟩) rfl ?_
  intro a hf
  have hm := Mem.start w0
  refine wp_seq (wp_region_lit (st_y hf rfl rfl rfl (y_assign rfl rfl) fun a hf => st_end (x_then_n (wp_seq (wp_seq (wp_region_lit (st_y hf rfl rfl rfl (y_move rfl rfl) fun a hf => ?_)))))))
  obtain ⟨p0_1, c0_1, he, hl0_1⟩ := ro_slice h1
  subst he
  refine st_y hf rfl rfl rfl (y_len_slice st_25.und rfl rfl) fun a hf => st_y hf rfl rfl rfl (y_move rfl rfl) fun a hf => st_end (x_then_n (wp_block ?_))
  obtain ⟨r0_1, hl0_2, hq⟩ := bnd hq
  refine wp_forN _ (fun i1_1 xs1_1 a w => Fr 19 [(0, (.slice p0_1 s_.length c0_1)), (1, fv1), (7, (.int .i64 ((s_.length : Int)))), (8, (.int .i64 (i1_1)))] a ∧ Mem w0 (hp w0) w []) (0) ((s_.length : Int)) hl0_2 ?_ ?_ ?_
  ·
   exact ⟨hf.sub ⟨rfl, rfl, rfl, rfl, trivial⟩, hm.pick [] (by decide) rfl⟩
  ·
   clear hf hm
   rintro i1_1 xs1_1 a w ⟨hf, hm⟩ hi1_1 hi1_2 q0_1 hb0_1 ho0_1
   refine wp_seq (wp_region_lit (st_y hf rfl rfl rfl (y_lss rfl rfl rfl) fun a hf => st_end (x_then_n (wp_seq (cond_t hf rfl (decide_eq_true (by omega)) (wp_skip (x_then_n ?_)))))))
   refine wp_seq (wp_block (wp_seq (wp_region_lit (st_y hf rfl rfl rfl (y_move rfl rfl) fun a hf => st_y hf rfl rfl rfl (y_assign rfl rfl) fun a hf => st_end (x_then_n (wp_seq ?_))))))
   refine wp_region_lit (st_y hf rfl rfl rfl (y_move rfl rfl) fun a hf => st_y hf rfl rfl rfl (y_move rfl rfl) fun a hf => st_y hf rfl rfl rfl (y_move rfl rfl) fun a hf => ?_)
   obtain ⟨x1_1, hx1_1, hb0_1⟩ := bnd hb0_1
   obtain ⟨h1_1, hx1_2⟩ := getI_some.1 hx1_1
   obtain ⟨b1_1, o1_1, c1_1, he⟩ := idx_form h1 hx1_2
   simp only [Value.slice.injEq, Option.some.injEq] at he; obtain ⟨rfl, _, rfl⟩ := he
   refine st_y hf rfl rfl rfl (y_indexAddr st_25 rfl rfl rfl h1_1 (idx_lt hx1_2)) fun a hf => st_y hf rfl rfl rfl (y_load1 Tryz.isAgg3 rfl rfl ((flat_cells (cs := [(.int .i64 (x1_1))]) (hm.now h1) hx1_2 rfl).cell (j := 0) rfl)) fun a hf => ?_
   obtain ⟨r1_1, hx1_3, hb0_1⟩ := bnd hb0_1
   refine st_ef hf rfl rfl rfl (e_callv hf rfl rfl rfl (hfn1 _ x1_1 _ hm.below hx1_3)) ?_
   clear hf a; rintro v1_1 w1_1 a ho1_1 hf
   obtain ⟨rfl, hB⟩ := ho1_1
   replace hm := hm.below' hB; clear hB
   refine st_end (x_then_n ?_)
   rcases bcases (r1_1) with h1_2 | h1_2
   ·
    replace hb0_1 := (ite_t h1_2).symm.trans hb0_1
    refine cond_t hf rfl h1_2 (wp_seq (wp_region_lit (st_y hf rfl rfl rfl (y_move rfl rfl) fun a hf => st_y hf rfl rfl rfl (y_assign rfl rfl) fun a hf => st_end (x_then_n (wp_ret (x_blk_ret ?_))))))
    refine x_then_ret (x_then_ret (x_blk_ret (x_then_ret ?_)))
    obtain rfl := Option.some.inj hb0_1
    obtain rfl := ho0_1 _ rfl
    replace hq := sum_r hq
    obtain rfl := Option.some.inj hq
    refine ret_tmp hf Tryz.results89 rfl ?_
    exact ⟨rfl, hm.below⟩
   ·
    replace hb0_1 := (ite_f h1_2).symm.trans hb0_1
    refine cond_f hf rfl h1_2 (wp_skip (x_blk_n (x_then_n (wp_region_lit (st_y hf rfl rfl rfl (y_add64 rfl rfl rfl (by omega) (by omega)) fun a hf => st_y hf rfl rfl rfl (y_move rfl rfl) fun a hf => st_end (x_then_n ?_))))))
    obtain rfl := Option.some.inj hb0_1
    exact ⟨_, rfl, hf.sub ⟨rfl, rfl, rfl, rfl, trivial⟩, hm.pick [] (by decide) rfl⟩
  ·
   clear hf hm
   rintro i0_1 xs0_1 a w ⟨hf, hm⟩ hi0_1 hi0_2 rfl
   replace hq := sum_l hq
   refine wp_seq (wp_region_lit (st_y hf rfl rfl rfl (y_lss rfl rfl rfl) fun a hf => st_end (x_then_n (wp_seq (cond_f hf rfl (decide_eq_false (by omega)) (wp_exit (x_then_exit ?_)))))))
   refine x_then_exit (x_blk_hit (x_then_n (wp_seq (wp_region_lit (st_y hf rfl rfl rfl (y_assign rfl rfl) fun a hf => st_end (x_then_n (wp_ret ?_)))))))
   obtain rfl := Option.some.inj hq
   refine ret_tmp hf Tryz.results89 rfl ?_
   exact ⟨rfl, hm.below⟩

theorem slices_ContainsFunc_S_int_int_ok (w0 : World) (s_ : List Int) (v1 : Value) (h1 : GT.rep (hp w0) [v1] s_) (f : Int → Option Bool) (fv1 : Value) (hfn1 : ∀ (w : World) (y0 : Int) (r : Bool), Below w0.heap.size w0 w → f y0 = some r → FnOk Tryz.prog fv1 [(.int .i64 (y0))] w (fun v w' => v = (.bool (r)) ∧ Below w.heap.size w w')) (r : Bool) (hq : slices_ContainsFunc_S_int_int s_ f = some r) :
    Con Tryz.prog 60 [v1, fv1] w0 (fun v w' => v = (.bool (r)) ∧ Below w0.heap.size w0 w') := by
  unfold slices_ContainsFunc_S_int_int at hq
  refine con_body (l := [(0, v1), (1, fv1)]) Tryz.func60 rfl Tryz.ntmps60 (Args.get ⟨rfl, rfl, trivial⟩) rfl ?_
  intro a hf
  have hm := Mem.start w0
  refine wp_seq (wp_region_lit (st_y hf rfl rfl rfl (y_assign rfl rfl) fun a hf => st_end (x_then_n (wp_seq (wp_region_lit (st_y hf rfl rfl rfl (y_move rfl rfl) fun a hf => st_y hf rfl rfl rfl (y_move rfl rfl) fun a hf => ?_))))))
  obtain ⟨r0_1, hx0_1, hq⟩ := bnd hq
  refine st_ef hf rfl rfl rfl (e_call hf rfl Tryz.call89 rfl (slices_IndexFunc_S_int_int_ok _ s_ v1 (hm.now h1) f fv1 (fun w y0 r hB hq => hfn1 w y0 r (hm.below.trans (hB.mono hm.below.size)) hq) _ hx0_1)) ?_
  clear hf a; rintro v0_1 w0_1 a ho0_1 hf
  obtain ⟨rfl, hB⟩ := ho0_1
  replace hm := hm.below' hB; clear hB
  refine st_y hf rfl rfl rfl (y_geq rfl rfl rfl) fun a hf => st_y hf rfl rfl rfl (y_assign rfl rfl) fun a hf => st_end (x_then_n (wp_ret ?_))
  obtain rfl := Option.some.inj hq
  refine ret_tmp hf Tryz.results60 rfl ?_
  exact ⟨rfl, hm.below⟩

theorem impl_insOk_1_ok (w0 : World) (r_ : Int) (c0_ : Code_) (v1 : Value) (h1 : GT.rep (hp w0) [v1] c0_.blocks) (bf0 : Nat) (hbf0 : w0.heap[bf0]? = some (.cells ([(.int .i64 (c0_.params)), (.int .i64 (c0_.regs)), v1] : List Value).toArray 69 (0, 0))) (r : Bool) (hq : impl_insOk_1 r_ c0_ = some r) :
    Con Tryz.prog 107 [(.int .i64 (r_)), (.pointer (some ⟨bf0, 0, none⟩))] w0 (fun v w' => v = (.bool (r)) ∧ Below w0.heap.size w0 w') := by
  unfold impl_insOk_1 at hq
  refine con_body (l := [(0, (.int .i64 (r_))), (1, (.pointer (some ⟨bf0, 0, none⟩)))]) Tryz.func107 rfl Tryz.ntmps107 (Args.get ⟨rfl, rfl, trivial⟩) rfl ?_
  intro a hf
  have hm := Mem.start w0
  refine wp_seq (wp_region_lit (st_y hf rfl rfl rfl (y_assign rfl rfl) fun a hf => st_end (x_then_n (wp_seq (wp_region_lit (st_y hf rfl rfl rfl (y_move rfl rfl) fun a hf => st_y hf rfl rfl rfl (y_fieldAddr fo_69_1 rfl rfl) fun a hf => ?_))))))
  refine st_y hf rfl rfl rfl (y_load1 Tryz.isAgg3 rfl rfl (hm.old_cell hbf0 rfl)) fun a hf => st_y hf rfl rfl rfl (y_subw rfl rfl rfl) fun a hf => ?_
  obtain ⟨r0_1, hx0_1, hq⟩ := bnd hq
  refine st_ef hf rfl rfl rfl (e_call hf rfl Tryz.call45 rfl (impl_within_ok _ r_ 0 (w64 (c0_.regs - 1)) _ hx0_1)) ?_
  clear hf a; rintro v0_1 w0_1 a ho0_1 hf
  obtain ⟨rfl, hB⟩ := ho0_1
  replace hm := hm.below' hB; clear hB
  refine st_y hf rfl rfl rfl (y_assign rfl rfl) fun a hf => st_end (x_then_n (wp_ret ?_))
  obtain rfl := Option.some.inj hq
  refine ret_tmp hf Tryz.results107 rfl ?_
  exact ⟨rfl, hm.below⟩

theorem impl_isIns_ok (w0 : World) (op : Int) (r : Bool) (hq : impl_isIns op = some r) :
    Con Tryz.prog 108 [(.int .i64 (op))] w0 (fun v w' => v = (.bool (r)) ∧ Below w0.heap.size w0 w') := by
  unfold impl_isIns at hq
  refine con_body (l := [(0, (.int .i64 (op)))]) Tryz.func108 rfl Tryz.ntmps108 (Args.get ⟨rfl, trivial⟩) rfl ?_
  intro a hf
  have hm := Mem.start w0
  refine wp_seq (wp_region_lit (st_y hf rfl rfl rfl (y_assign rfl rfl) fun a hf => st_end (x_then_n (wp_seq (wp_region_lit (st_y hf rfl rfl rfl (y_move rfl rfl) fun a hf => ?_))))))
  obtain ⟨r0_1, hx0_1, hq⟩ := bnd hq
  refine st_ef hf rfl rfl rfl (e_call hf rfl Tryz.call45 rfl (impl_within_ok _ op 1 14 _ hx0_1)) ?_
  clear hf a; rintro v0_1 w0_1 a ho0_1 hf
  obtain ⟨rfl, hB⟩ := ho0_1
  replace hm := hm.below' hB; clear hB
  refine st_y hf rfl rfl rfl (y_assign rfl rfl) fun a hf => st_end (x_then_n (wp_ret ?_))
  obtain rfl := Option.some.inj hq
  refine ret_tmp hf Tryz.results108 rfl ?_
  exact ⟨rfl, hm.below⟩

theorem impl_insOk_2_ok (w0 : World) (r_ : Int) (c0_0_ : Code_) (v1 : Value) (h1 : GT.rep (hp w0) [v1] c0_0_.blocks) (bf0_0 : Nat) (hbf0_0 : w0.heap[bf0_0]? = some (.cells ([(.int .i64 (c0_0_.params)), (.int .i64 (c0_0_.regs)), v1] : List Value).toArray 69 (0, 0))) (bf0 : Nat) (hbf0 : w0.heap[bf0]? = some (.cells ([(.func (.func 107) #[] #[(.pointer (some ⟨bf0_0, 0, none⟩))])] : List Value).toArray 96 (0, 0))) (r : Bool) (hq : impl_insOk_2 r_ c0_0_ = some r) :
    Con Tryz.prog 109 [(.int .i64 (r_)), (.pointer (some ⟨bf0, 0, none⟩))] w0 (fun v w' => v = (.bool (r)) ∧ Below w0.heap.size w0 w') := by
  unfold impl_insOk_2 at hq
  refine con_body (l := [(0, (.int .i64 (r_))), (1, (.pointer (some ⟨bf0, 0, none⟩)))]) Tryz.func109 rfl Tryz.ntmps109 (Args.get ⟨rfl, rfl, trivial⟩) rfl ?_
  intro a hf
  have hm := Mem.start w0
  refine wp_seq (wp_region_lit (st_y hf rfl rfl rfl (y_assign rfl rfl) fun a hf => st_end (x_then_n (wp_seq (wp_region_lit (st_y hf rfl rfl rfl (y_load1 Tryz.isAgg96 rfl rfl (hm.old_cell hbf0 rfl)) fun a hf => st_y hf rfl rfl rfl (y_move rfl rfl) fun a hf => ?_))))))
  obtain ⟨r0_1, hx0_1, hq⟩ := bnd hq
  refine st_ef hf rfl rfl rfl (e_callv hf rfl rfl rfl ⟨107, [(.pointer (some ⟨bf0_0, 0, none⟩))], rfl, Tryz.call107, impl_insOk_1_ok _ r_ c0_0_ v1 (rep_later (hm.now h1) (Below.refl _ _)) bf0_0 (hm.old_later hbf0_0 (Below.refl _ _)) _ hx0_1⟩) ?_
  clear hf a; rintro v0_1 w0_1 a ho0_1 hf
  obtain ⟨rfl, hB⟩ := ho0_1
  replace hm := hm.below' hB; clear hB
  refine st_y hf rfl rfl rfl (y_not rfl rfl) fun a hf => st_y hf rfl rfl rfl (y_assign rfl rfl) fun a hf => st_end (x_then_n (wp_ret ?_))
  obtain rfl := Option.some.inj hq
  refine ret_tmp hf Tryz.results109 rfl ?_
  exact ⟨rfl, hm.below⟩

theorem impl_sets_ok (w0 : World) (op : Int) (r : Bool) (hq : impl_sets op = some r) :
    Con Tryz.prog 110 [(.int .i64 (op))] w0 (fun v w' => v = (.bool (r)) ∧ Below w0.heap.size w0 w') := by
  unfold impl_sets at hq
  refine con_body (l := [(0, (.int .i64 (op)))]) Tryz.func110 rfl Tryz.ntmps110 (Args.get ⟨rfl, trivial⟩) rfl ?_
  intro a hf
  have hm := Mem.start w0
  refine wp_seq (wp_region_lit (st_y hf rfl rfl rfl (y_assign rfl rfl) fun a hf => st_end (x_then_n (wp_seq ?_))))
  obtain ⟨s0_1, hq0_1, hq⟩ := bnd hq
  refine code_cut (K := fun a w => Fr 13 [(2, (.bool (s0_1)))] a ∧ Mem w0 (hp w0) w []) ?_ ?_
  ·
   refine wp_region_lit (st_y hf rfl rfl rfl (y_move rfl rfl) fun a hf => ?_)
   obtain ⟨r1_1, hx1_1, hq0_1⟩ := bnd hq0_1
   refine st_ef hf rfl rfl rfl (e_call hf rfl Tryz.call108 rfl (impl_isIns_ok _ op _ hx1_1)) ?_
   clear hf a; rintro v1_1 w1_1 a ho1_1 hf
   obtain ⟨rfl, hB⟩ := ho1_1
   replace hm := hm.below' hB; clear hB
   refine st_y hf rfl rfl rfl (y_move rfl rfl) fun a hf => ?_
   rcases bcases (r1_1) with h1_1 | h1_1
   ·
    replace hq0_1 := (ite_t h1_1).symm.trans hq0_1
    refine st_yg hf rfl rfl (lk_b rfl h1_1) rfl rfl (y_move rfl rfl) fun a hf => st_yg hf rfl rfl (lk_b rfl h1_1) rfl rfl (y_neq rfl rfl rfl) fun a hf => st_y hf rfl rfl rfl (y_pick_t rfl (ev_b rfl h1_1) rfl) fun a hf => st_y hf rfl rfl rfl (y_move rfl rfl) fun a hf => ?_
    rcases bcases (decide (op ≠ 12)) with h1_2 | h1_2
    ·
     replace hq0_1 := (ite_t h1_2).symm.trans hq0_1
     have h1_3 := of_decide_eq_true h1_2
     refine st_yg hf rfl rfl (lk_b rfl h1_2) rfl rfl (y_move rfl rfl) fun a hf => st_yg hf rfl rfl (lk_b rfl h1_2) rfl rfl (y_neq rfl rfl rfl) fun a hf => st_y hf rfl rfl rfl (y_pick_t rfl (ev_b rfl h1_2) rfl) fun a hf => st_y hf rfl rfl rfl (y_assign rfl rfl) fun a hf => st_end (x_then_n ?_)
     obtain rfl := Option.some.inj hq0_1
     exact ⟨hf.sub ⟨rfl, trivial⟩, hm.pick [] (by decide) rfl⟩
    ·
     replace hq0_1 := (ite_f h1_2).symm.trans hq0_1
     have h1_4 := of_decide_eq_false h1_2
     refine st_no hf rfl rfl (lk_b rfl h1_2) rfl rfl rfl fun a hf => st_no hf rfl rfl (lk_b rfl h1_2) rfl rfl rfl fun a hf => st_y hf rfl rfl rfl (y_pick_f rfl (ev_b rfl h1_2) rfl) fun a hf => st_y hf rfl rfl rfl (y_assign rfl rfl) fun a hf => st_end (x_then_n ?_)
     obtain rfl := Option.some.inj hq0_1
     exact ⟨hf.sub ⟨rfl, trivial⟩, hm.pick [] (by decide) rfl⟩
   ·
    replace hq0_1 := (ite_f h1_1).symm.trans hq0_1
    refine st_no hf rfl rfl (lk_b rfl h1_1) rfl rfl rfl fun a hf => st_no hf rfl rfl (lk_b rfl h1_1) rfl rfl rfl fun a hf => st_y hf rfl rfl rfl (y_pick_f rfl (ev_b rfl h1_1) rfl) fun a hf => st_y hf rfl rfl rfl (y_move rfl rfl) fun a hf => st_no hf rfl rfl (lk_b rfl rfl) rfl rfl rfl fun a hf => st_no hf rfl rfl (lk_b rfl rfl) rfl rfl rfl fun a hf => st_y hf rfl rfl rfl (y_pick_f rfl (ev_b rfl rfl) rfl) fun a hf => st_y hf rfl rfl rfl (y_assign rfl rfl) fun a hf => st_end ?_
    refine x_then_n ?_
    obtain rfl := Option.some.inj hq0_1
    exact ⟨hf.sub ⟨rfl, trivial⟩, hm.pick [] (by decide) rfl⟩
  ·
   clear hf hm
   rintro a w ⟨hf, hm⟩
   refine x_then_n (wp_ret ?_)
   obtain rfl := Option.some.inj hq
   refine ret_tmp hf Tryz.results110 rfl ?_
   exact ⟨rfl, hm.below⟩

theorem impl_isByte_ok (w0 : World) (n_ : Int) (r : Bool) (hq : impl_isByte n_ = some r) :
    Con Tryz.prog 62 [(.int .i64 (n_))] w0 (fun v w' => v = (.bool (r)) ∧ Below w0.heap.size w0 w') := by
  unfold impl_isByte at hq
  refine con_body (l := [(0, (.int .i64 (n_)))]) Tryz.func62 rfl Tryz.ntmps62 (Args.get ⟨rfl, trivial⟩) rfl ?_
  intro a hf
  have hm := Mem.start w0
  refine wp_seq (wp_region_lit (st_y hf rfl rfl rfl (y_assign rfl rfl) fun a hf => st_end (x_then_n (wp_seq (wp_region_lit (st_y hf rfl rfl rfl (y_move rfl rfl) fun a hf => ?_))))))
  obtain ⟨r0_1, hx0_1, hq⟩ := bnd hq
  refine st_ef hf rfl rfl rfl (e_call hf rfl Tryz.call45 rfl (impl_within_ok _ n_ 0 255 _ hx0_1)) ?_
  clear hf a; rintro v0_1 w0_1 a ho0_1 hf
  obtain ⟨rfl, hB⟩ := ho0_1
  replace hm := hm.below' hB; clear hB
  refine st_y hf rfl rfl rfl (y_assign rfl rfl) fun a hf => st_end (x_then_n (wp_ret ?_))
  obtain rfl := Option.some.inj hq
  refine ret_tmp hf Tryz.results62 rfl ?_
  exact ⟨rfl, hm.below⟩

theorem impl_insArgs_ok (w0 : World) (op : Int) (r : Int) (hq : impl_insArgs op = some r) :
    Con Tryz.prog 111 [(.int .i64 (op))] w0 (fun v w' => v = (.int .i64 (r)) ∧ Below w0.heap.size w0 w') := by
  unfold impl_insArgs at hq
  refine con_body (l := [(0, (.int .i64 (op)))]) Tryz.func111 rfl Tryz.ntmps111 (Args.get ⟨rfl, trivial⟩) rfl ?_
  intro a hf
  have hm := Mem.start w0
  refine wp_seq (wp_region_lit (st_y hf rfl rfl rfl (y_assign rfl rfl) fun a hf => st_end (x_then_n (wp_seq (wp_seq (wp_region_lit (st_y hf rfl rfl rfl (y_move rfl rfl) fun a hf => ?_)))))))
  refine st_end (x_then_n (wp_block (wp_seq (wp_region_lit (st_y hf rfl rfl rfl (y_eql rfl rfl rfl) fun a hf => st_y hf rfl rfl rfl (y_assign rfl rfl) fun a hf => st_end (x_then_n ?_))))))
  rcases bcases (decide (op = 1)) with h0_1 | h0_1
  ·
   replace hq := (ite_t h0_1).symm.trans hq
   have h0_2 := of_decide_eq_true h0_1
   refine cond_t hf rfl h0_1 (wp_seq (wp_region_lit (st_y hf rfl rfl rfl (y_assign rfl rfl) fun a hf => st_end (x_then_n (wp_ret (x_blk_ret (x_then_ret ?_)))))))
   obtain rfl := Option.some.inj hq
   refine ret_tmp hf Tryz.results111 rfl ?_
   exact ⟨rfl, hm.below⟩
  ·
   replace hq := (ite_f h0_1).symm.trans hq
   have h0_3 := of_decide_eq_false h0_1
   refine cond_f hf rfl h0_1 (wp_seq (wp_seq (wp_region_lit (st_y hf rfl rfl rfl (y_eql rfl rfl rfl) fun a hf => st_y hf rfl rfl rfl (y_assign rfl rfl) fun a hf => st_end (x_then_n ?_)))))
   obtain ⟨s0_1, hq0_1, hq⟩ := bnd hq
   refine code_cut (K := fun a w => Fr 11 [(6, (.bool (s0_1)))] a ∧ Mem w0 (hp w0) w []) ?_ ?_
   ·
    rcases bcases (decide (op = 2)) with h1_1 | h1_1
    ·
     replace hq0_1 := (ite_t h1_1).symm.trans hq0_1
     have h1_2 := of_decide_eq_true h1_1
     refine cond_t hf rfl h1_1 (wp_skip (x_then_n ?_))
     obtain rfl := Option.some.inj hq0_1
     exact ⟨hf.sub ⟨rfl, trivial⟩, hm.pick [] (by decide) rfl⟩
    ·
     replace hq0_1 := (ite_f h1_1).symm.trans hq0_1
     have h1_3 := of_decide_eq_false h1_1
     refine cond_f hf rfl h1_1 (wp_seq (wp_region_lit (st_y hf rfl rfl rfl (y_eql rfl rfl rfl) fun a hf => st_y hf rfl rfl rfl (y_assign rfl rfl) fun a hf => st_end (x_then_n ?_))))
     obtain ⟨s1_1, hq1_1, hq0_1⟩ := bnd hq0_1
     refine code_cut (K := fun a w => Fr 11 [(6, (.bool (s1_1)))] a ∧ Mem w0 (hp w0) w []) ?_ ?_
     ·
      rcases bcases (decide (op = 10)) with h2_1 | h2_1
      ·
       replace hq1_1 := (ite_t h2_1).symm.trans hq1_1
       have h2_2 := of_decide_eq_true h2_1
       refine cond_t hf rfl h2_1 (wp_skip (x_then_n ?_))
       obtain rfl := Option.some.inj hq1_1
       exact ⟨hf.sub ⟨rfl, trivial⟩, hm.pick [] (by decide) rfl⟩
      ·
       replace hq1_1 := (ite_f h2_1).symm.trans hq1_1
       have h2_3 := of_decide_eq_false h2_1
       refine cond_f hf rfl h2_1 (wp_seq (wp_region_lit (st_y hf rfl rfl rfl (y_eql rfl rfl rfl) fun a hf => st_y hf rfl rfl rfl (y_assign rfl rfl) fun a hf => st_end (x_then_n ?_))))
       obtain ⟨s2_1, hq2_1, hq1_1⟩ := bnd hq1_1
       refine code_cut (K := fun a w => Fr 11 [(6, (.bool (s2_1)))] a ∧ Mem w0 (hp w0) w []) ?_ ?_
       ·
        rcases bcases (decide (op = 11)) with h3_1 | h3_1
        ·
         replace hq2_1 := (ite_t h3_1).symm.trans hq2_1
         have h3_2 := of_decide_eq_true h3_1
         refine cond_t hf rfl h3_1 (wp_skip (x_then_n ?_))
         obtain rfl := Option.some.inj hq2_1
         exact ⟨hf.sub ⟨rfl, trivial⟩, hm.pick [] (by decide) rfl⟩
        ·
         replace hq2_1 := (ite_f h3_1).symm.trans hq2_1
         have h3_3 := of_decide_eq_false h3_1
         refine cond_f hf rfl h3_1 (wp_region_lit (st_y hf rfl rfl rfl (y_eql rfl rfl rfl) fun a hf => st_y hf rfl rfl rfl (y_assign rfl rfl) fun a hf => st_end (x_then_n ?_)))
         obtain rfl := Option.some.inj hq2_1
         exact ⟨hf.sub ⟨rfl, trivial⟩, hm.pick [] (by decide) rfl⟩
       ·
        clear hf hm
        rintro a w ⟨hf, hm⟩
        refine x_then_n ?_
        obtain rfl := Option.some.inj hq1_1
        exact ⟨hf.sub ⟨rfl, trivial⟩, hm.pick [] (by decide) rfl⟩
     ·
      clear hf hm
      rintro a w ⟨hf, hm⟩
      refine x_then_n ?_
      obtain rfl := Option.some.inj hq0_1
      exact ⟨hf.sub ⟨rfl, trivial⟩, hm.pick [] (by decide) rfl⟩
   ·
    clear hf hm
    rintro a w ⟨hf, hm⟩
    refine x_then_n ?_
    rcases bcases (s0_1) with h0_4 | h0_4
    ·
     replace hq := (ite_t h0_4).symm.trans hq
     refine cond_t hf rfl h0_4 (wp_seq (wp_region_lit (st_y hf rfl rfl rfl (y_assign rfl rfl) fun a hf => st_end (x_then_n (wp_ret (x_blk_ret (x_then_ret ?_)))))))
     obtain rfl := Option.some.inj hq
     refine ret_tmp hf Tryz.results111 rfl ?_
     exact ⟨rfl, hm.below⟩
    ·
     replace hq := (ite_f h0_4).symm.trans hq
     refine cond_f hf rfl h0_4 (wp_skip (x_blk_n (x_then_n (wp_seq (wp_region_lit (st_y hf rfl rfl rfl (y_assign rfl rfl) fun a hf => st_end (x_then_n ?_)))))))
     refine wp_ret ?_
     obtain rfl := Option.some.inj hq
     refine ret_tmp hf Tryz.results111 rfl ?_
     exact ⟨rfl, hm.below⟩

theorem impl_insOk_ok (w0 : World) (u : Unit_) (v1 : Value) (h1 : GT.rep (hp w0) [v1] u.codes) (k_ : Int) (x_ : Ins_) (v2 : Value) (h2 : GT.rep (hp w0) [v2] x_.args) (r : Bool) (hq : impl_insOk u k_ x_ = some r) :
    Con Tryz.prog 87 [(.agg #[v1]), (.int .i64 (k_)), (.agg #[(.int .i64 (x_.op)), (.int .i64 (x_.to)), v2, (.int .i64 (x_.n_))])] w0 (fun v w' => v = (.bool (r)) ∧ Below w0.heap.size w0 w') := by
  unfold impl_insOk at hq
  refine con_body (l := [(0, (.agg #[v1])), (1, (.int .i64 (k_))), (2, (.agg #[(.int .i64 (x_.op)), (.int .i64 (x_.to)), v2, (.int .i64 (x_.n_))]))]) Tryz.func87 rfl Tryz.ntmps87 (Args.get ⟨rfl, rfl, rfl, trivial⟩) rfl ?_
  intro a hf
  have hm := Mem.start w0
  refine wp_seq (wp_region_lit (st_ef hf rfl rfl rfl (e_box hf hm rfl rfl rfl) ?_))
  clear hf a; rintro _ w0_1 a ⟨b0_1, rfl, hm⟩ hf
  refine st_ef hf rfl rfl rfl (e_box hf hm rfl rfl rfl) ?_
  clear hf a; rintro _ w0_2 a ⟨b0_2, rfl, hm⟩ hf
  refine st_y hf rfl rfl rfl (y_assign rfl rfl) fun a hf => st_end (x_then_n (wp_seq (wp_region_lit (st_y hf rfl rfl rfl (y_fieldAddr fo_30_0 rfl rfl) fun a hf => st_y hf rfl rfl rfl (y_load1 Tryz.isAgg28 rfl rfl (hm.blk_cell 1 rfl rfl)) fun a hf => st_y hf rfl rfl rfl (y_move rfl rfl) fun a hf => ?_))))
  obtain ⟨x0_1, hx0_1, hq⟩ := bnd hq
  obtain ⟨h0_1, hx0_2⟩ := getI_some.1 hx0_1
  obtain ⟨b0_3, o0_1, c0_1, he⟩ := idx_form' h1 hx0_2
  subst he
  obtain ⟨_, _, hc0_1, hr0_1⟩ := ro_get' h1 hx0_2
  obtain ⟨_, _, rfl, rfl, _, _, rfl, rfl, h0_2⟩ := hr0_1
  obtain ⟨v0_1, rfl, -⟩ := id h0_2
  replace h0_2 : GT.rep (hp w0) [v0_1] x0_1.blocks := h0_2
  replace hc0_1 : CellsAt (hp w0) b0_3 (o0_1 + (k_).toNat * 3) [(.int .i64 (x0_1.params)), (.int .i64 (x0_1.regs)), v0_1] := hc0_1
  refine st_y hf rfl rfl rfl (y_indexAddr st_28 rfl rfl rfl h0_1 (idx_lt hx0_2)) fun a hf => st_y hf rfl rfl rfl (y_loadN (cs := [(.int .i64 (x0_1.params)), (.int .i64 (x0_1.regs)), v0_1]) Tryz.isAgg69 Tryz.sizeOf69 rfl rfl (hc0_1.mono hm.lez)) fun a hf => st_ef hf rfl rfl rfl (e_alloc hm Tryz.zeroValue69 rfl rfl) ?_
  clear hf a; rintro _ w0_3 a ⟨b0_4, rfl, hm⟩ hf
  refine st_ef0 hf rfl rfl (e_storeN 0 hf hm rfl Tryz.sizeOf69 rfl rfl rfl (one_cons rfl (one_cons rfl (one_cons (rep_one h0_2) one_nil))) rfl rfl) ?_
  clear hf a; rintro _ w0_4 a hm hf
  refine st_end (x_then_n (wp_seq (wp_region_lit (st_y hf rfl rfl rfl (y_makeFunc rfl rfl) fun a hf => st_ef hf rfl rfl rfl (e_alloc hm Tryz.zeroValue96 rfl rfl) ?_))))
  clear hf a; rintro _ w0_5 a ⟨b0_5, rfl, hm⟩ hf
  refine st_ef0 hf rfl rfl (e_store1 0 hf hm rfl Tryz.sizeOf96 rfl rfl rfl rfl rfl) ?_
  clear hf a; rintro _ w0_6 a hm hf
  refine st_end (x_then_n (wp_seq (wp_seq ?_)))
  obtain ⟨s0_1, hq0_1, hq⟩ := bnd hq
  refine code_cut (K := fun a w => Fr 91 [(1, (.int .i64 (k_))), (3, (.pointer (some ⟨b0_1, 0, none⟩))), (5, (.pointer (some ⟨b0_2, 0, none⟩))), (8, (.pointer (some ⟨b0_5, 0, none⟩))), (24, (.bool (s0_1)))] a ∧ Mem w0 (hp w0) w [blk b0_1 [(.slice (some ⟨b0_3, o0_1, none⟩) u.codes.length c0_1)] 30, blk b0_2 [(.int .i64 (x_.op)), (.int .i64 (x_.to)), v2, (.int .i64 (x_.n_))] 91, blk b0_5 [(.func (.func 107) #[] #[(.pointer (some ⟨b0_4, 0, none⟩))])] 96, blk b0_4 [(.int .i64 (x0_1.params)), (.int .i64 (x0_1.regs)), v0_1] 69]) ?_ ?_
  ·
   refine wp_region_lit (st_y hf rfl rfl rfl (y_fieldAddr fo_91_0 rfl rfl) fun a hf => st_y hf rfl rfl rfl (y_load1 Tryz.isAgg3 rfl rfl (hm.blk_cell 2 rfl rfl)) fun a hf => ?_)
   obtain ⟨r1_1, hx1_1, hq0_1⟩ := bnd hq0_1
   refine st_ef hf rfl rfl rfl (e_call hf rfl Tryz.call108 rfl (impl_isIns_ok _ x_.op _ hx1_1)) ?_
   clear hf a; rintro v1_1 w1_1 a ho1_1 hf
   obtain ⟨rfl, hB⟩ := ho1_1
   replace hm := hm.below' hB; clear hB
   refine st_y hf rfl rfl rfl (y_not rfl rfl) fun a hf => st_y hf rfl rfl rfl (y_move rfl rfl) fun a hf => ?_
   rcases bcases (!(r1_1)) with h1_1 | h1_1
   ·
    replace hq0_1 := (ite_t h1_1).symm.trans hq0_1
    have h1_2 := bnot_t' h1_1
    refine st_no hf rfl rfl (lk_b rfl h1_1) rfl rfl rfl fun a hf => st_no hf rfl rfl (lk_b rfl h1_1) rfl rfl rfl fun a hf => st_no hf rfl rfl (lk_b rfl h1_1) rfl rfl rfl fun a hf => st_no hf rfl rfl (lk_b rfl h1_1) rfl rfl rfl fun a hf => st_y hf rfl rfl rfl (y_pick_t rfl (ev_b rfl h1_1) rfl) fun a hf => st_end (x_then_n ?_)
    obtain rfl := Option.some.inj hq0_1
    exact ⟨hf.sub ⟨rfl, rfl, rfl, rfl, rfl, trivial⟩, hm.pick [3, 2, 0, 1] (by decide) rfl⟩
   ·
    replace hq0_1 := (ite_f h1_1).symm.trans hq0_1
    have h1_3 := bnot_f' h1_1
    refine st_yg hf rfl rfl (lk_b rfl h1_1) rfl rfl (y_fieldAddr fo_91_2 rfl rfl) fun a hf => st_yg hf rfl rfl (lk_b rfl h1_1) rfl rfl (y_load1 Tryz.isAgg25 rfl rfl (hm.blk_cell 2 rfl rfl)) fun a hf => st_yg hf rfl rfl (lk_b rfl h1_1) rfl rfl (y_makeFunc rfl rfl) fun a hf => ?_
    obtain ⟨r1_2, hx1_2, hq0_1⟩ := bnd hq0_1
    refine st_efg hf rfl rfl (lk_b rfl h1_1) rfl rfl (e_call hf rfl Tryz.call60 rfl (slices_ContainsFunc_S_int_int_ok _ x_.args v2 (hm.now h2) (fun y0 => impl_insOk_2 y0 x0_1) (.func (.func 109) #[] #[(.pointer (some ⟨b0_5, 0, none⟩))]) (fun w y0 r hB hq => ⟨109, [(.pointer (some ⟨b0_5, 0, none⟩))], rfl, Tryz.call109, impl_insOk_2_ok w y0 x0_1 v0_1 (rep_later (hm.now h0_2) hB) b0_4 (hm.blk_later 1 rfl hB) b0_5 (hm.blk_later 0 rfl hB) r hq⟩) _ hx1_2)) ?_
    clear hf a; rintro v1_2 w1_2 a ho1_2 hf
    obtain ⟨rfl, hB⟩ := ho1_2
    replace hm := hm.below' hB; clear hB
    refine st_y hf rfl rfl rfl (y_pick_f rfl (ev_b rfl h1_1) rfl) fun a hf => st_end (x_then_n ?_)
    obtain rfl := Option.some.inj hq0_1
    exact ⟨hf.sub ⟨rfl, rfl, rfl, rfl, rfl, trivial⟩, hm.pick [3, 2, 0, 1] (by decide) rfl⟩
  ·
   clear hf hm
   rintro a w ⟨hf, hm⟩
   refine x_then_n ?_
   rcases bcases (s0_1) with h0_3 | h0_3
   ·
    replace hq := (ite_t h0_3).symm.trans hq
    refine cond_t hf rfl h0_3 (wp_seq (wp_region_lit (st_y hf rfl rfl rfl (y_assign rfl rfl) fun a hf => st_end (x_then_n (wp_ret (x_then_ret ?_))))))
    obtain rfl := Option.some.inj hq
    refine ret_tmp hf Tryz.results87 rfl ?_
    exact ⟨rfl, hm.below⟩
   ·
    replace hq := (ite_f h0_3).symm.trans hq
    refine cond_f hf rfl h0_3 (wp_skip (x_then_n (wp_seq (wp_seq ?_))))
    obtain ⟨s0_2, hq0_2, hq⟩ := bnd hq
    refine code_cut (K := fun a w => Fr 91 [(1, (.int .i64 (k_))), (3, (.pointer (some ⟨b0_1, 0, none⟩))), (5, (.pointer (some ⟨b0_2, 0, none⟩))), (45, (.bool (s0_2)))] a ∧ Mem w0 (hp w0) w [blk b0_1 [(.slice (some ⟨b0_3, o0_1, none⟩) u.codes.length c0_1)] 30, blk b0_2 [(.int .i64 (x_.op)), (.int .i64 (x_.to)), v2, (.int .i64 (x_.n_))] 91]) ?_ ?_
    ·
     refine wp_region_lit (st_y hf rfl rfl rfl (y_fieldAddr fo_91_0 rfl rfl) fun a hf => st_y hf rfl rfl rfl (y_load1 Tryz.isAgg3 rfl rfl (hm.blk_cell 1 rfl rfl)) fun a hf => ?_)
     obtain ⟨r1_3, hx1_3, hq0_2⟩ := bnd hq0_2
     refine st_ef hf rfl rfl rfl (e_call hf rfl Tryz.call110 rfl (impl_sets_ok _ x_.op _ hx1_3)) ?_
     clear hf a; rintro v1_3 w1_3 a ho1_3 hf
     obtain ⟨rfl, hB⟩ := ho1_3
     replace hm := hm.below' hB; clear hB
     refine st_y hf rfl rfl rfl (y_move rfl rfl) fun a hf => ?_
     rcases bcases (r1_3) with h1_4 | h1_4
     ·
      replace hq0_2 := (ite_t h1_4).symm.trans hq0_2
      refine st_yg hf rfl rfl (lk_b rfl h1_4) rfl rfl (y_load1 Tryz.isAgg96 rfl rfl (hm.blk_cell 2 rfl rfl)) fun a hf => st_yg hf rfl rfl (lk_b rfl h1_4) rfl rfl (y_fieldAddr fo_91_1 rfl rfl) fun a hf => st_yg hf rfl rfl (lk_b rfl h1_4) rfl rfl (y_load1 Tryz.isAgg3 rfl rfl (hm.blk_cell 1 rfl rfl)) fun a hf => ?_
      obtain ⟨r1_4, hx1_4, hq0_2⟩ := bnd hq0_2
      refine st_efg hf rfl rfl (lk_b rfl h1_4) rfl rfl (e_callv hf rfl rfl rfl ⟨107, [(.pointer (some ⟨b0_4, 0, none⟩))], rfl, Tryz.call107, impl_insOk_1_ok _ x_.to x0_1 v0_1 (rep_later (hm.now h0_2) (Below.refl _ _)) b0_4 (hm.blk_later 3 rfl (Below.refl _ _)) _ hx1_4⟩) ?_
      clear hf a; rintro v1_4 w1_4 a ho1_4 hf
      obtain ⟨rfl, hB⟩ := ho1_4
      replace hm := hm.below' hB; clear hB
      refine st_yg hf rfl rfl (lk_b rfl h1_4) rfl rfl (y_not rfl rfl) fun a hf => st_y hf rfl rfl rfl (y_pick_t rfl (ev_b rfl h1_4) rfl) fun a hf => st_y hf rfl rfl rfl (y_move rfl rfl) fun a hf => ?_
      rcases bcases (!(r1_4)) with h1_5 | h1_5
      ·
       replace hq0_2 := (ite_t h1_5).symm.trans hq0_2
       have h1_6 := bnot_t' h1_5
       refine st_no hf rfl rfl (lk_b rfl h1_5) rfl rfl rfl fun a hf => st_no hf rfl rfl (lk_b rfl h1_5) rfl rfl rfl fun a hf => st_no hf rfl rfl (lk_b rfl h1_5) rfl rfl rfl fun a hf => st_no hf rfl rfl (lk_b rfl h1_5) rfl rfl rfl fun a hf => st_no hf rfl rfl (lk_b rfl h1_5) rfl rfl rfl fun a hf => st_nou hf rfl rfl rfl rfl rfl fun a hf => st_nou hf rfl rfl rfl rfl rfl fun a hf => st_nou hf rfl rfl rfl rfl rfl fun a hf => st_no hf rfl rfl (lk_b rfl h1_5) rfl rfl rfl fun a hf => ?_
       refine st_y hf rfl rfl rfl (y_pick_t rfl (ev_b rfl h1_5) rfl) fun a hf => st_end (x_then_n ?_)
       obtain rfl := Option.some.inj hq0_2
       exact ⟨hf.sub ⟨rfl, rfl, rfl, rfl, trivial⟩, hm.pick [0, 1] (by decide) rfl⟩
      ·
       replace hq0_2 := (ite_f h1_5).symm.trans hq0_2
       have h1_7 := bnot_f' h1_5
       refine st_yg hf rfl rfl (lk_b rfl h1_5) rfl rfl (y_fieldAddr fo_91_0 rfl rfl) fun a hf => st_yg hf rfl rfl (lk_b rfl h1_5) rfl rfl (y_load1 Tryz.isAgg3 rfl rfl (hm.blk_cell 1 rfl rfl)) fun a hf => ?_
       obtain ⟨r1_5, hx1_5, hq0_2⟩ := bnd hq0_2
       refine st_efg hf rfl rfl (lk_b rfl h1_5) rfl rfl (e_call hf rfl Tryz.call110 rfl (impl_sets_ok _ x_.op _ hx1_5)) ?_
       clear hf a; rintro v1_5 w1_5 a ho1_5 hf
       obtain ⟨rfl, hB⟩ := ho1_5
       replace hm := hm.below' hB; clear hB
       refine st_yg hf rfl rfl (lk_b rfl h1_5) rfl rfl (y_not rfl rfl) fun a hf => st_yg hf rfl rfl (lk_b rfl h1_5) rfl rfl (y_move rfl rfl) fun a hf => ?_
       rcases bcases (!(r1_5)) with h1_8 | h1_8
       ·
        replace hq0_2 := (ite_t h1_8).symm.trans hq0_2
        have h1_9 := bnot_t' h1_8
        refine st_yg hf rfl rfl (lk_b rfl h1_8) rfl rfl (y_fieldAddr fo_91_1 rfl rfl) fun a hf => st_yg hf rfl rfl (lk_b rfl h1_8) rfl rfl (y_load1 Tryz.isAgg3 rfl rfl (hm.blk_cell 1 rfl rfl)) fun a hf => st_yg hf rfl rfl (lk_b rfl h1_8) rfl rfl (y_neq rfl rfl rfl) fun a hf => st_yg hf rfl rfl (lk_b rfl h1_5) rfl rfl (y_pick_t rfl (ev_b rfl h1_8) rfl) fun a hf => st_y hf rfl rfl rfl (y_pick_f rfl (ev_b rfl h1_5) rfl) fun a hf => st_end (x_then_n ?_)
        obtain rfl := Option.some.inj hq0_2
        exact ⟨hf.sub ⟨rfl, rfl, rfl, rfl, trivial⟩, hm.pick [0, 1] (by decide) rfl⟩
       ·
        replace hq0_2 := (ite_f h1_8).symm.trans hq0_2
        have h1_10 := bnot_f' h1_8
        refine st_no hf rfl rfl (lk_b rfl h1_8) rfl rfl rfl fun a hf => st_no hf rfl rfl (lk_b rfl h1_8) rfl rfl rfl fun a hf => st_no hf rfl rfl (lk_b rfl h1_8) rfl rfl rfl fun a hf => st_yg hf rfl rfl (lk_b rfl h1_5) rfl rfl (y_pick_f rfl (ev_b rfl h1_8) rfl) fun a hf => st_y hf rfl rfl rfl (y_pick_f rfl (ev_b rfl h1_5) rfl) fun a hf => st_end (x_then_n ?_)
        obtain rfl := Option.some.inj hq0_2
        exact ⟨hf.sub ⟨rfl, rfl, rfl, rfl, trivial⟩, hm.pick [0, 1] (by decide) rfl⟩
     ·
      replace hq0_2 := (ite_f h1_4).symm.trans hq0_2
      refine st_no hf rfl rfl (lk_b rfl h1_4) rfl rfl rfl fun a hf => st_no hf rfl rfl (lk_b rfl h1_4) rfl rfl rfl fun a hf => st_no hf rfl rfl (lk_b rfl h1_4) rfl rfl rfl fun a hf => st_no hf rfl rfl (lk_b rfl h1_4) rfl rfl rfl fun a hf => st_no hf rfl rfl (lk_b rfl h1_4) rfl rfl rfl fun a hf => st_y hf rfl rfl rfl (y_pick_f rfl (ev_b rfl h1_4) rfl) fun a hf => st_y hf rfl rfl rfl (y_move rfl rfl) fun a hf => st_yg hf rfl rfl (lk_b rfl rfl) rfl rfl (y_fieldAddr fo_91_0 rfl rfl) fun a hf => st_yg hf rfl rfl (lk_b rfl rfl) rfl rfl (y_load1 Tryz.isAgg3 rfl rfl (hm.blk_cell 1 rfl rfl)) fun a hf => ?_
      obtain ⟨r1_6, hx1_6, hq0_2⟩ := bnd hq0_2
      refine st_efg hf rfl rfl (lk_b rfl rfl) rfl rfl (e_call hf rfl Tryz.call110 rfl (impl_sets_ok _ x_.op _ hx1_6)) ?_
      clear hf a; rintro v1_6 w1_6 a ho1_6 hf
      obtain ⟨rfl, hB⟩ := ho1_6
      replace hm := hm.below' hB; clear hB
      refine st_yg hf rfl rfl (lk_b rfl rfl) rfl rfl (y_not rfl rfl) fun a hf => st_yg hf rfl rfl (lk_b rfl rfl) rfl rfl (y_move rfl rfl) fun a hf => ?_
      rcases bcases (!(r1_6)) with h1_11 | h1_11
      ·
       replace hq0_2 := (ite_t h1_11).symm.trans hq0_2
       have h1_12 := bnot_t' h1_11
       refine st_yg hf rfl rfl (lk_b rfl h1_11) rfl rfl (y_fieldAddr fo_91_1 rfl rfl) fun a hf => st_yg hf rfl rfl (lk_b rfl h1_11) rfl rfl (y_load1 Tryz.isAgg3 rfl rfl (hm.blk_cell 1 rfl rfl)) fun a hf => st_yg hf rfl rfl (lk_b rfl h1_11) rfl rfl (y_neq rfl rfl rfl) fun a hf => st_yg hf rfl rfl (lk_b rfl rfl) rfl rfl (y_pick_t rfl (ev_b rfl h1_11) rfl) fun a hf => st_y hf rfl rfl rfl (y_pick_f rfl (ev_b rfl rfl) rfl) fun a hf => st_end (x_then_n ?_)
       obtain rfl := Option.some.inj hq0_2
       exact ⟨hf.sub ⟨rfl, rfl, rfl, rfl, trivial⟩, hm.pick [0, 1] (by decide) rfl⟩
      ·
       replace hq0_2 := (ite_f h1_11).symm.trans hq0_2
       have h1_13 := bnot_f' h1_11
       refine st_no hf rfl rfl (lk_b rfl h1_11) rfl rfl rfl fun a hf => st_no hf rfl rfl (lk_b rfl h1_11) rfl rfl rfl fun a hf => st_no hf rfl rfl (lk_b rfl h1_11) rfl rfl rfl fun a hf => st_yg hf rfl rfl (lk_b rfl rfl) rfl rfl (y_pick_f rfl (ev_b rfl h1_11) rfl) fun a hf => st_y hf rfl rfl rfl (y_pick_f rfl (ev_b rfl rfl) rfl) fun a hf => st_end (x_then_n ?_)
       obtain rfl := Option.some.inj hq0_2
       exact ⟨hf.sub ⟨rfl, rfl, rfl, rfl, trivial⟩, hm.pick [0, 1] (by decide) rfl⟩
    ·
     clear hf hm
     rintro a w ⟨hf, hm⟩
     refine x_then_n ?_
     rcases bcases (s0_2) with h0_4 | h0_4
     ·
      replace hq := (ite_t h0_4).symm.trans hq
      refine cond_t hf rfl h0_4 (wp_seq (wp_region_lit (st_y hf rfl rfl rfl (y_assign rfl rfl) fun a hf => st_end (x_then_n (wp_ret (x_then_ret ?_))))))
      obtain rfl := Option.some.inj hq
      refine ret_tmp hf Tryz.results87 rfl ?_
      exact ⟨rfl, hm.below⟩
     ·
      replace hq := (ite_f h0_4).symm.trans hq
      refine cond_f hf rfl h0_4 (wp_skip (x_then_n (wp_seq (wp_seq (wp_region_lit (st_y hf rfl rfl rfl (y_fieldAddr fo_91_0 rfl rfl) fun a hf => st_y hf rfl rfl rfl (y_load1 Tryz.isAgg3 rfl rfl (hm.blk_cell 1 rfl rfl)) fun a hf => st_end ?_))))))
      refine x_then_n (wp_block (wp_seq (wp_region_lit (st_y hf rfl rfl rfl (y_eql rfl rfl rfl) fun a hf => st_y hf rfl rfl rfl (y_assign rfl rfl) fun a hf => st_end (x_then_n ?_)))))
      rcases bcases (decide (x_.op = 1)) with h0_5 | h0_5
      ·
       replace hq := (ite_t h0_5).symm.trans hq
       have h0_6 := of_decide_eq_true h0_5
       refine cond_t hf rfl h0_5 (wp_seq ?_)
       obtain ⟨s0_3, hq0_3, hq⟩ := bnd hq
       refine code_cut (K := fun a w => Fr 91 [(6, (.bool (s0_3)))] a ∧ Mem w0 (hp w0) w []) ?_ ?_
       ·
        refine wp_region_lit (st_y hf rfl rfl rfl (y_fieldAddr fo_91_2 rfl rfl) fun a hf => st_y hf rfl rfl rfl (y_load1 Tryz.isAgg25 rfl rfl (hm.blk_cell 1 rfl rfl)) fun a hf => ?_)
        obtain ⟨p1_1, c1_1, he, hl1_1⟩ := ro_slice h2
        subst he
        refine st_y hf rfl rfl rfl (y_len_slice st_25.und rfl rfl) fun a hf => st_y hf rfl rfl rfl (y_eql rfl rfl rfl) fun a hf => st_y hf rfl rfl rfl (y_move rfl rfl) fun a hf => ?_
        rcases bcases (decide (((x_.args.length : Int)) = 0)) with h1_14 | h1_14
        ·
         replace hq0_3 := (ite_t h1_14).symm.trans hq0_3
         have h1_15 := of_decide_eq_true h1_14
         refine st_yg hf rfl rfl (lk_b rfl h1_14) rfl rfl (y_fieldAddr fo_91_3 rfl rfl) fun a hf => st_yg hf rfl rfl (lk_b rfl h1_14) rfl rfl (y_load1 Tryz.isAgg3 rfl rfl (hm.blk_cell 1 rfl rfl)) fun a hf => ?_
         obtain ⟨r1_7, hx1_7, hq0_3⟩ := bnd hq0_3
         refine st_efg hf rfl rfl (lk_b rfl h1_14) rfl rfl (e_call hf rfl Tryz.call62 rfl (impl_isByte_ok _ x_.n_ _ hx1_7)) ?_
         clear hf a; rintro v1_7 w1_7 a ho1_7 hf
         obtain ⟨rfl, hB⟩ := ho1_7
         replace hm := hm.below' hB; clear hB
         refine st_y hf rfl rfl rfl (y_pick_t rfl (ev_b rfl h1_14) rfl) fun a hf => st_y hf rfl rfl rfl (y_assign rfl rfl) fun a hf => st_end (x_then_n ?_)
         obtain rfl := Option.some.inj hq0_3
         exact ⟨hf.sub ⟨rfl, trivial⟩, hm.pick [] (by decide) rfl⟩
        ·
         replace hq0_3 := (ite_f h1_14).symm.trans hq0_3
         have h1_16 := of_decide_eq_false h1_14
         refine st_no hf rfl rfl (lk_b rfl h1_14) rfl rfl rfl fun a hf => st_no hf rfl rfl (lk_b rfl h1_14) rfl rfl rfl fun a hf => st_no hf rfl rfl (lk_b rfl h1_14) rfl rfl rfl fun a hf => st_y hf rfl rfl rfl (y_pick_f rfl (ev_b rfl h1_14) rfl) fun a hf => st_y hf rfl rfl rfl (y_assign rfl rfl) fun a hf => st_end (x_then_n ?_)
         obtain rfl := Option.some.inj hq0_3
         exact ⟨hf.sub ⟨rfl, trivial⟩, hm.pick [] (by decide) rfl⟩
       ·
        clear hf hm
        rintro a w ⟨hf, hm⟩
        refine x_then_n (wp_ret (x_blk_ret (x_then_ret ?_)))
        obtain rfl := Option.some.inj hq
        refine ret_tmp hf Tryz.results87 rfl ?_
        exact ⟨rfl, hm.below⟩
      ·
       replace hq := (ite_f h0_5).symm.trans hq
       have h0_7 := of_decide_eq_false h0_5
       refine cond_f hf rfl h0_5 (wp_seq (wp_region_lit (st_y hf rfl rfl rfl (y_eql rfl rfl rfl) fun a hf => st_y hf rfl rfl rfl (y_assign rfl rfl) fun a hf => st_end (x_then_n ?_))))
       rcases bcases (decide (x_.op = 14)) with h0_8 | h0_8
       ·
        replace hq := (ite_t h0_8).symm.trans hq
        have h0_9 := of_decide_eq_true h0_8
        refine cond_t hf rfl h0_8 (wp_seq ?_)
        obtain ⟨s0_4, hq0_4, hq⟩ := bnd hq
        refine code_cut (K := fun a w => Fr 91 [(6, (.bool (s0_4)))] a ∧ Mem w0 (hp w0) w []) ?_ ?_
        ·
         refine wp_tree (.p 0 (.p 2 (.p 3 (.e 1 (.e 4 (.p 5 (.p 6 (.p 9 (.p 11 (.q 7 (.p 8 (.q 10 (.e 12 (.p 13 (.p 14 (.e 15 (.p 16 (.p 17 (.p 18 .fin))) .nil))) .nil)))))))) .nil) .nil)))) [7, 10, 12, 15] [0, 2, 3, 5, 6, 8, 9, 11, 13, 14, 16, 17, 18] (fun w => Mem w0 (hp w0) w [blk b0_1 [(.slice (some ⟨b0_3, o0_1, none⟩) u.codes.length c0_1)] 30, blk b0_2 [(.int .i64 (x_.op)), (.int .i64 (x_.to)), v2, (.int .i64 (x_.n_))] 91]) (by kernel_rfl) (by kernel_rfl) (fun _ _ _ h => h.2) ?_
         replace hm := hm.drew
         have hS : Mem w0 (hp w0) _ [blk b0_1 [(.slice (some ⟨b0_3, o0_1, none⟩) u.codes.length c0_1)] 30, blk b0_2 [(.int .i64 (x_.op)), (.int .i64 (x_.to)), v2, (.int .i64 (x_.n_))] 91] := hm.pick [0, 1] (by decide) rfl
         refine td_p hf rfl rfl rfl rfl (fun w => y_fieldAddr fo_91_3 rfl rfl) fun a hf => td_p hf rfl rfl rfl rfl (fun w => y_move rfl rfl) fun a hf => td_p hf rfl rfl rfl rfl (fun w => y_subw rfl rfl rfl) fun a hf => te_one (td_ef hf rfl rfl rfl rfl (ef_y hf (y_load1 Tryz.isAgg3 rfl rfl (hm.blk_cell 1 rfl rfl))) ?_)
         clear hf a; rintro _ _ a ⟨rfl, rfl⟩ hf
         refine ⟨fun h => absurd h (by decide), ?_⟩
         refine te_one ?_
         obtain ⟨r1_8, hx1_8, hq0_4⟩ := bnd hq0_4
         refine td_ef hf rfl rfl rfl rfl (e_call hf rfl Tryz.call45 rfl (impl_within_ok _ x_.n_ 0 (w64 (k_ - 1)) _ hx1_8)) ?_
         clear hf a; rintro v1_8 w1_8 a ho1_8 hf
         obtain ⟨rfl, hB⟩ := ho1_8
         replace hm := hm.below' hB; clear hB
         clear hS
         have hS : Mem w0 (hp w0) _ [blk b0_1 [(.slice (some ⟨b0_3, o0_1, none⟩) u.codes.length c0_1)] 30, blk b0_2 [(.int .i64 (x_.op)), (.int .i64 (x_.to)), v2, (.int .i64 (x_.n_))] 91] := hm.pick [0, 1] (by decide) rfl
         refine ⟨fun h => absurd h (by decide), ?_⟩
         refine td_p hf rfl rfl rfl rfl (fun w => y_move rfl rfl) fun a hf => ?_
         rcases bcases (r1_8) with h1_17 | h1_17
         ·
          replace hq0_4 := (ite_t h1_17).symm.trans hq0_4
          refine td_pg hf rfl rfl rfl (lk_b rfl h1_17) rfl rfl (fun w => y_fieldAddr fo_91_2 rfl rfl) fun a hf => td_pg hf rfl rfl rfl (lk_b rfl h1_17) rfl rfl (fun w => y_fieldAddr fo_30_0 rfl rfl) fun a hf => td_pg hf rfl rfl rfl (lk_b rfl h1_17) rfl rfl (fun w => y_fieldAddr fo_91_3 rfl rfl) fun a hf => td_yg hf rfl rfl rfl (lk_b rfl h1_17) rfl rfl hS (fun w hm => y_load1 Tryz.isAgg25 rfl rfl (hm.blk_cell 1 rfl rfl)) fun a hf => ?_
          obtain ⟨p1_2, c1_2, he, hl1_2⟩ := ro_slice h2
          subst he
          refine td_pg hf rfl rfl rfl (lk_b rfl h1_17) rfl rfl (fun w => y_len_slice st_25.und rfl rfl) fun a hf => td_yg hf rfl rfl rfl (lk_b rfl h1_17) rfl rfl hS (fun w hm => y_load1 Tryz.isAgg28 rfl rfl (hm.blk_cell 0 rfl rfl)) fun a hf => te_one (td_efg hf rfl rfl rfl (lk_b rfl h1_17) rfl rfl (ef_y hf (y_load1 Tryz.isAgg3 rfl rfl (hm.blk_cell 1 rfl rfl))) ?_)
          clear hf a; rintro _ _ a ⟨rfl, rfl⟩ hf
          refine ⟨fun _ => hS, ?_⟩
          obtain ⟨x1_1, hx1_9, hq0_4⟩ := bnd hq0_4
          obtain ⟨h1_18, hx1_10⟩ := getI_some.1 hx1_9
          obtain ⟨_, _, hc1_1, hr1_1⟩ := ro_get' h1 hx1_10
          obtain ⟨_, _, rfl, rfl, _, _, rfl, rfl, h1_19⟩ := hr1_1
          obtain ⟨v1_9, rfl, -⟩ := id h1_19
          replace h1_19 : GT.rep (hp w0) [v1_9] x1_1.blocks := h1_19
          replace hc1_1 : CellsAt (hp w0) b0_3 (o0_1 + (x_.n_).toNat * 3) [(.int .i64 (x1_1.params)), (.int .i64 (x1_1.regs)), v1_9] := hc1_1
          refine td_pg hf rfl rfl rfl (lk_b rfl h1_17) rfl rfl (fun w => y_indexAddr st_28 rfl rfl rfl h1_18 (idx_lt hx1_10)) fun a hf => td_pg hf rfl rfl rfl (lk_b rfl h1_17) rfl rfl (fun w => y_fieldAddr fo_69_0 rfl rfl) fun a hf => te_one (td_efg hf rfl rfl rfl (lk_b rfl h1_17) rfl rfl (ef_y hf (y_load1 Tryz.isAgg3 rfl rfl ((hc1_1.mono hm.lez).cell (j := 0) rfl))) ?_)
          clear hf a; rintro _ _ a ⟨rfl, rfl⟩ hf
          refine ⟨fun _ => hS, ?_⟩
          refine td_pg hf rfl rfl rfl (lk_b rfl h1_17) rfl rfl (fun w => y_eql rfl rfl rfl) fun a hf => td_p hf rfl rfl rfl rfl (fun w => y_pick_t rfl (ev_b rfl h1_17) rfl) fun a hf => td_p hf rfl rfl rfl rfl (fun w => y_assign rfl rfl) fun a hf => ?_
          clear hS; refine td_end ?_
          refine x_then_n ?_
          obtain rfl := Option.some.inj hq0_4
          exact ⟨hf.sub ⟨rfl, trivial⟩, hm.pick [] (by decide) rfl⟩
         ·
          replace hq0_4 := (ite_f h1_17).symm.trans hq0_4
          refine td_pno hf rfl rfl rfl (lk_b rfl h1_17) rfl rfl rfl fun a hf => td_pno hf rfl rfl rfl (lk_b rfl h1_17) rfl rfl rfl fun a hf => td_pno hf rfl rfl rfl (lk_b rfl h1_17) rfl rfl rfl fun a hf => td_no hf rfl rfl rfl (lk_b rfl h1_17) rfl rfl rfl hS fun a hf => td_pno hf rfl rfl rfl (lk_b rfl h1_17) rfl rfl rfl fun a hf => td_no hf rfl rfl rfl (lk_b rfl h1_17) rfl rfl rfl hS fun a hf => te_one (td_no' hf rfl rfl rfl (lk_b rfl h1_17) rfl rfl rfl fun a hf => ⟨fun _ => hS, ?_⟩)
          refine td_pno hf rfl rfl rfl (lk_b rfl h1_17) rfl rfl rfl fun a hf => td_pno hf rfl rfl rfl (lk_b rfl h1_17) rfl rfl rfl fun a hf => te_one (td_no' hf rfl rfl rfl (lk_b rfl h1_17) rfl rfl rfl fun a hf => ⟨fun _ => hS, ?_⟩)
          refine td_pno hf rfl rfl rfl (lk_b rfl h1_17) rfl rfl rfl fun a hf => td_p hf rfl rfl rfl rfl (fun w => y_pick_f rfl (ev_b rfl h1_17) rfl) fun a hf => td_p hf rfl rfl rfl rfl (fun w => y_assign rfl rfl) fun a hf => ?_
          clear hS; refine td_end ?_
          refine x_then_n ?_
          obtain rfl := Option.some.inj hq0_4
          exact ⟨hf.sub ⟨rfl, trivial⟩, hm.pick [] (by decide) rfl⟩
        ·
         clear hf hm
         rintro a w ⟨hf, hm⟩
         refine x_then_n (wp_ret (x_blk_ret (x_then_ret ?_)))
         obtain rfl := Option.some.inj hq
         refine ret_tmp hf Tryz.results87 rfl ?_
         exact ⟨rfl, hm.below⟩
       ·
        replace hq := (ite_f h0_8).symm.trans hq
        have h0_10 := of_decide_eq_false h0_8
        refine cond_f hf rfl h0_8 (wp_skip (x_blk_n (x_then_n (wp_seq ?_))))
        obtain ⟨s0_5, hq0_5, hq⟩ := bnd hq
        refine code_cut (K := fun a w => Fr 91 [(6, (.bool (s0_5)))] a ∧ Mem w0 (hp w0) w []) ?_ ?_
        ·
         refine wp_tree (.p 0 (.e 1 (.p 2 (.p 3 (.p 4 (.p 7 (.q 5 (.p 6 (.e 8 (.e 9 (.p 10 (.p 11 (.p 12 .fin))) .nil) .nil))))))) .nil)) [8, 9] [0, 2, 3, 4, 6, 7, 10, 11, 12] (fun w => Mem w0 (hp w0) w [blk b0_1 [(.slice (some ⟨b0_3, o0_1, none⟩) u.codes.length c0_1)] 30, blk b0_2 [(.int .i64 (x_.op)), (.int .i64 (x_.to)), v2, (.int .i64 (x_.n_))] 91]) (by kernel_rfl) (by kernel_rfl) (fun _ _ _ h => h.2) ?_
         replace hm := hm.drew
         have hS : Mem w0 (hp w0) _ [blk b0_1 [(.slice (some ⟨b0_3, o0_1, none⟩) u.codes.length c0_1)] 30, blk b0_2 [(.int .i64 (x_.op)), (.int .i64 (x_.to)), v2, (.int .i64 (x_.n_))] 91] := hm.pick [0, 1] (by decide) rfl
         refine td_p hf rfl rfl rfl rfl (fun w => y_fieldAddr fo_91_3 rfl rfl) fun a hf => te_one (td_ef hf rfl rfl rfl rfl (ef_y hf (y_load1 Tryz.isAgg3 rfl rfl (hm.blk_cell 1 rfl rfl))) ?_)
         clear hf a; rintro _ _ a ⟨rfl, rfl⟩ hf
         refine ⟨fun h => absurd h (by decide), ?_⟩
         refine td_p hf rfl rfl rfl rfl (fun w => y_eql rfl rfl rfl) fun a hf => td_p hf rfl rfl rfl rfl (fun w => y_move rfl rfl) fun a hf => ?_
         rcases bcases (decide (x_.n_ = 0)) with h1_20 | h1_20
         ·
          replace hq0_5 := (ite_t h1_20).symm.trans hq0_5
          have h1_21 := of_decide_eq_true h1_20
          refine td_pg hf rfl rfl rfl (lk_b rfl h1_20) rfl rfl (fun w => y_fieldAddr fo_91_2 rfl rfl) fun a hf => td_pg hf rfl rfl rfl (lk_b rfl h1_20) rfl rfl (fun w => y_fieldAddr fo_91_0 rfl rfl) fun a hf => td_yg hf rfl rfl rfl (lk_b rfl h1_20) rfl rfl hS (fun w hm => y_load1 Tryz.isAgg25 rfl rfl (hm.blk_cell 1 rfl rfl)) fun a hf => ?_
          obtain ⟨p1_3, c1_3, he, hl1_3⟩ := ro_slice h2
          subst he
          refine td_pg hf rfl rfl rfl (lk_b rfl h1_20) rfl rfl (fun w => y_len_slice st_25.und rfl rfl) fun a hf => te_one (td_efg hf rfl rfl rfl (lk_b rfl h1_20) rfl rfl (ef_y hf (y_load1 Tryz.isAgg3 rfl rfl (hm.blk_cell 1 rfl rfl))) ?_)
          clear hf a; rintro _ _ a ⟨rfl, rfl⟩ hf
          refine ⟨fun _ => hS, ?_⟩
          refine te_one ?_
          obtain ⟨r1_9, hx1_11, hq0_5⟩ := bnd hq0_5
          refine td_efg hf rfl rfl rfl (lk_b rfl h1_20) rfl rfl (e_call hf rfl Tryz.call111 rfl (impl_insArgs_ok _ x_.op _ hx1_11)) ?_
          clear hf a; rintro v1_10 w1_9 a ho1_9 hf
          obtain ⟨rfl, hB⟩ := ho1_9
          replace hm := hm.below' hB; clear hB
          clear hS
          have hS : Mem w0 (hp w0) _ [blk b0_1 [(.slice (some ⟨b0_3, o0_1, none⟩) u.codes.length c0_1)] 30, blk b0_2 [(.int .i64 (x_.op)), (.int .i64 (x_.to)), (.slice p1_3 x_.args.length c1_3), (.int .i64 (x_.n_))] 91] := hm.pick [0, 1] (by decide) rfl
          refine ⟨fun _ => hS, ?_⟩
          refine td_pg hf rfl rfl rfl (lk_b rfl h1_20) rfl rfl (fun w => y_eql rfl rfl rfl) fun a hf => td_p hf rfl rfl rfl rfl (fun w => y_pick_t rfl (ev_b rfl h1_20) rfl) fun a hf => td_p hf rfl rfl rfl rfl (fun w => y_assign rfl rfl) fun a hf => ?_
          clear hS; refine td_end ?_
          refine x_then_n ?_
          obtain rfl := Option.some.inj hq0_5
          exact ⟨hf.sub ⟨rfl, trivial⟩, hm.pick [] (by decide) rfl⟩
         ·
          replace hq0_5 := (ite_f h1_20).symm.trans hq0_5
          have h1_22 := of_decide_eq_false h1_20
          refine td_pno hf rfl rfl rfl (lk_b rfl h1_20) rfl rfl rfl fun a hf => td_pno hf rfl rfl rfl (lk_b rfl h1_20) rfl rfl rfl fun a hf => td_no hf rfl rfl rfl (lk_b rfl h1_20) rfl rfl rfl hS fun a hf => td_pno hf rfl rfl rfl (lk_b rfl h1_20) rfl rfl rfl fun a hf => te_one (td_no' hf rfl rfl rfl (lk_b rfl h1_20) rfl rfl rfl fun a hf => ⟨fun _ => hS, ?_⟩)
          refine te_one (td_no' hf rfl rfl rfl (lk_b rfl h1_20) rfl rfl rfl fun a hf => ⟨fun _ => hS, ?_⟩)
          refine td_pno hf rfl rfl rfl (lk_b rfl h1_20) rfl rfl rfl fun a hf => td_p hf rfl rfl rfl rfl (fun w => y_pick_f rfl (ev_b rfl h1_20) rfl) fun a hf => td_p hf rfl rfl rfl rfl (fun w => y_assign rfl rfl) fun a hf => ?_
          clear hS; refine td_end ?_
          refine x_then_n ?_
          obtain rfl := Option.some.inj hq0_5
          exact ⟨hf.sub ⟨rfl, trivial⟩, hm.pick [] (by decide) rfl⟩
        ·
         clear hf hm
         rintro a w ⟨hf, hm⟩
         refine x_then_n (wp_ret ?_)
         obtain rfl := Option.some.inj hq
         refine ret_tmp hf Tryz.results87 rfl ?_
         exact ⟨rfl, hm.below⟩

theorem impl_codeOk_3_ok (w0 : World) (i_ : Ins_) (v1 : Value) (h1 : GT.rep (hp w0) [v1] i_.args) (c0_ : Unit_) (v2 : Value) (h2 : GT.rep (hp w0) [v2] c0_.codes) (bf0 : Nat) (hbf0 : w0.heap[bf0]? = some (.cells ([v2] : List Value).toArray 30 (0, 0))) (c1_ : Int) (bf1 : Nat) (hbf1 : w0.heap[bf1]? = some (.cells ([(.int .i64 (c1_))] : List Value).toArray 3 (0, 0))) (r : Bool) (hq : impl_codeOk_3 i_ c0_ c1_ = some r) :
    Con Tryz.prog 86 [(.agg #[(.int .i64 (i_.op)), (.int .i64 (i_.to)), v1, (.int .i64 (i_.n_))]), (.pointer (some ⟨bf0, 0, none⟩)), (.pointer (some ⟨bf1, 0, none⟩))] w0 (fun v w' => v = (.bool (r)) ∧ Below w0.heap.size w0 w') := by
  unfold impl_codeOk_3 at hq
  refine con_body (l := [(0, (.agg #[(.int .i64 (i_.op)), (.int .i64 (i_.to)), v1, (.int .i64 (i_.n_))])), (1, (.pointer (some ⟨bf0, 0, none⟩))), (2, (.pointer (some ⟨bf1, 0, none⟩)))]) Tryz.func86 rfl Tryz.ntmps86 (Args.get ⟨rfl, rfl, rfl, trivial⟩) rfl ?_
  intro a hf
  have hm := Mem.start w0
  refine wp_seq (wp_region_lit (st_ef hf rfl rfl rfl (e_box hf hm rfl rfl rfl) ?_))
  clear hf a; rintro _ w0_1 a ⟨b0_1, rfl, hm⟩ hf
  refine st_y hf rfl rfl rfl (y_assign rfl rfl) fun a hf => st_end (x_then_n (wp_seq (wp_region_lit (st_y hf rfl rfl rfl (y_loadN (cs := [v2]) Tryz.isAgg30 Tryz.sizeOf30 rfl rfl (hm.old_at hbf0)) fun a hf => st_y hf rfl rfl rfl (y_load1 Tryz.isAgg3 rfl rfl (hm.old_cell hbf1 rfl)) fun a hf => st_y hf rfl rfl rfl (y_loadN (cs := [(.int .i64 (i_.op)), (.int .i64 (i_.to)), v1, (.int .i64 (i_.n_))]) Tryz.isAgg91 Tryz.sizeOf91 rfl rfl (hm.blk_at 0 rfl)) fun a hf => ?_))))
  obtain ⟨r0_1, hx0_1, hq⟩ := bnd hq
  refine st_ef hf rfl rfl rfl (e_call hf rfl Tryz.call87 rfl (impl_insOk_ok _ c0_ v2 (hm.now h2) c1_ i_ v1 (hm.now h1) _ hx0_1)) ?_
  clear hf a; rintro v0_1 w0_2 a ho0_1 hf
  obtain ⟨rfl, hB⟩ := ho0_1
  replace hm := hm.below' hB; clear hB
  refine st_y hf rfl rfl rfl (y_not rfl rfl) fun a hf => st_y hf rfl rfl rfl (y_assign rfl rfl) fun a hf => st_end (x_then_n (wp_ret ?_))
  obtain rfl := Option.some.inj hq
  refine ret_tmp hf Tryz.results86 rfl ?_
  exact ⟨rfl, hm.below⟩

theorem slices_IndexFunc_S_impl_Ins_impl_Ins_ok (w0 : World) (s_ : List Ins_) (v1 : Value) (h1 : GT.rep (hp w0) [v1] s_) (f : Ins_ → Option Bool) (fv1 : Value) (hfn1 : ∀ (w : World) (y0 : Ins_) (z1 : Value) (_ : GT.rep (hp w) [z1] y0.args) (r : Bool), Below w0.heap.size w0 w → f y0 = some r → FnOk Tryz.prog fv1 [(.agg #[(.int .i64 (y0.op)), (.int .i64 (y0.to)), z1, (.int .i64 (y0.n_))])] w (fun v w' => v = (.bool (r)) ∧ Below w.heap.size w w')) (r : Int) (hq : slices_IndexFunc_S_impl_Ins_impl_Ins s_ f = some r) :
    Con Tryz.prog 106 [v1, fv1] w0 (fun v w' => v = (.int .i64 (r)) ∧ Below w0.heap.size w0 w') := by
  unfold slices_IndexFunc_S_impl_Ins_impl_Ins at hq
  refine con_body (l := [(0, v1), (1, fv1)]) Tryz.func106 rfl Tryz.ntmps106 (Args.get ⟨rfl, rfl, trivial⟩) rfl ?_
  intro a hf
  have hm := Mem.start w0
  refine wp_seq (wp_region_lit (st_y hf rfl rfl rfl (y_assign rfl rfl) fun a hf => st_end (x_then_n (wp_seq (wp_seq (wp_region_lit (st_y hf rfl rfl rfl (y_move rfl rfl) fun a hf => ?_)))))))
  obtain ⟨p0_1, c0_1, he, hl0_1⟩ := ro_slice h1
  subst he
  refine st_y hf rfl rfl rfl (y_len_slice st_84.und rfl rfl) fun a hf => st_y hf rfl rfl rfl (y_move rfl rfl) fun a hf => st_end (x_then_n (wp_block ?_))
  obtain ⟨r0_1, hl0_2, hq⟩ := bnd hq
  refine wp_forN _ (fun i1_1 xs1_1 a w => Fr 19 [(0, (.slice p0_1 s_.length c0_1)), (1, fv1), (7, (.int .i64 ((s_.length : Int)))), (8, (.int .i64 (i1_1)))] a ∧ Mem w0 (hp w0) w []) (0) ((s_.length : Int)) hl0_2 ?_ ?_ ?_
  ·
   exact ⟨hf.sub ⟨rfl, rfl, rfl, rfl, trivial⟩, hm.pick [] (by decide) rfl⟩
  ·
   clear hf hm
   rintro i1_1 xs1_1 a w ⟨hf, hm⟩ hi1_1 hi1_2 q0_1 hb0_1 ho0_1
   refine wp_seq (wp_region_lit (st_y hf rfl rfl rfl (y_lss rfl rfl rfl) fun a hf => st_end (x_then_n (wp_seq (cond_t hf rfl (decide_eq_true (by omega)) (wp_skip (x_then_n ?_)))))))
   refine wp_seq (wp_block (wp_seq (wp_region_lit (st_y hf rfl rfl rfl (y_move rfl rfl) fun a hf => st_y hf rfl rfl rfl (y_assign rfl rfl) fun a hf => st_end (x_then_n (wp_seq ?_))))))
   refine wp_region_lit (st_y hf rfl rfl rfl (y_move rfl rfl) fun a hf => st_y hf rfl rfl rfl (y_move rfl rfl) fun a hf => st_y hf rfl rfl rfl (y_move rfl rfl) fun a hf => ?_)
   obtain ⟨x1_1, hx1_1, hb0_1⟩ := bnd hb0_1
   obtain ⟨h1_1, hx1_2⟩ := getI_some.1 hx1_1
   obtain ⟨b1_1, o1_1, c1_1, he⟩ := idx_form' h1 hx1_2
   simp only [Value.slice.injEq, Option.some.injEq] at he; obtain ⟨rfl, _, rfl⟩ := he
   obtain ⟨_, _, hc1_1, hr1_1⟩ := ro_get' h1 hx1_2
   obtain ⟨_, _, rfl, rfl, _, _, rfl, rfl, _, _, rfl, h1_2, rfl⟩ := hr1_1
   obtain ⟨v1_1, rfl, -⟩ := id h1_2
   replace h1_2 : GT.rep (hp w0) [v1_1] x1_1.args := h1_2
   replace hc1_1 : CellsAt (hp w0) b1_1 (o1_1 + (i1_1).toNat * 4) [(.int .i64 (x1_1.op)), (.int .i64 (x1_1.to)), v1_1, (.int .i64 (x1_1.n_))] := hc1_1
   refine st_y hf rfl rfl rfl (y_indexAddr st_84 rfl rfl rfl h1_1 (idx_lt hx1_2)) fun a hf => st_y hf rfl rfl rfl (y_loadN (cs := [(.int .i64 (x1_1.op)), (.int .i64 (x1_1.to)), v1_1, (.int .i64 (x1_1.n_))]) Tryz.isAgg91 Tryz.sizeOf91 rfl rfl (hc1_1.mono hm.lez)) fun a hf => ?_
   obtain ⟨r1_1, hx1_3, hb0_1⟩ := bnd hb0_1
   refine st_ef hf rfl rfl rfl (e_callv hf rfl rfl rfl (hfn1 _ x1_1 v1_1 (hm.now h1_2) _ hm.below hx1_3)) ?_
   clear hf a; rintro v1_2 w1_1 a ho1_1 hf
   obtain ⟨rfl, hB⟩ := ho1_1
   replace hm := hm.below' hB; clear hB
   refine st_end (x_then_n ?_)
   rcases bcases (r1_1) with h1_3 | h1_3
   ·
    replace hb0_1 := (ite_t h1_3).symm.trans hb0_1
    refine cond_t hf rfl h1_3 (wp_seq (wp_region_lit (st_y hf rfl rfl rfl (y_move rfl rfl) fun a hf => st_y hf rfl rfl rfl (y_assign rfl rfl) fun a hf => st_end (x_then_n (wp_ret (x_blk_ret ?_))))))
    refine x_then_ret (x_then_ret (x_blk_ret (x_then_ret ?_)))
    obtain rfl := Option.some.inj hb0_1
    obtain rfl := ho0_1 _ rfl
    replace hq := sum_r hq
    obtain rfl := Option.some.inj hq
    refine ret_tmp hf Tryz.results106 rfl ?_
    exact ⟨rfl, hm.below⟩
   ·
    replace hb0_1 := (ite_f h1_3).symm.trans hb0_1
    refine cond_f hf rfl h1_3 (wp_skip (x_blk_n (x_then_n (wp_region_lit (st_y hf rfl rfl rfl (y_add64 rfl rfl rfl (by omega) (by omega)) fun a hf => st_y hf rfl rfl rfl (y_move rfl rfl) fun a hf => st_end (x_then_n ?_))))))
    obtain rfl := Option.some.inj hb0_1
    exact ⟨_, rfl, hf.sub ⟨rfl, rfl, rfl, rfl, trivial⟩, hm.pick [] (by decide) rfl⟩
  ·
   clear hf hm
   rintro i0_1 xs0_1 a w ⟨hf, hm⟩ hi0_1 hi0_2 rfl
   replace hq := sum_l hq
   refine wp_seq (wp_region_lit (st_y hf rfl rfl rfl (y_lss rfl rfl rfl) fun a hf => st_end (x_then_n (wp_seq (cond_f hf rfl (decide_eq_false (by omega)) (wp_exit (x_then_exit ?_)))))))
   refine x_then_exit (x_blk_hit (x_then_n (wp_seq (wp_region_lit (st_y hf rfl rfl rfl (y_assign rfl rfl) fun a hf => st_end (x_then_n (wp_ret ?_)))))))
   obtain rfl := Option.some.inj hq
   refine ret_tmp hf Tryz.results106 rfl ?_
   exact ⟨rfl, hm.below⟩

theorem slices_ContainsFunc_S_impl_Ins_impl_Ins_ok (w0 : World) (s_ : List Ins_) (v1 : Value) (h1 : GT.rep (hp w0) [v1] s_) (f : Ins_ → Option Bool) (fv1 : Value) (hfn1 : ∀ (w : World) (y0 : Ins_) (z1 : Value) (_ : GT.rep (hp w) [z1] y0.args) (r : Bool), Below w0.heap.size w0 w → f y0 = some r → FnOk Tryz.prog fv1 [(.agg #[(.int .i64 (y0.op)), (.int .i64 (y0.to)), z1, (.int .i64 (y0.n_))])] w (fun v w' => v = (.bool (r)) ∧ Below w.heap.size w w')) (r : Bool) (hq : slices_ContainsFunc_S_impl_Ins_impl_Ins s_ f = some r) :
    Con Tryz.prog 85 [v1, fv1] w0 (fun v w' => v = (.bool (r)) ∧ Below w0.heap.size w0 w') := by
  unfold slices_ContainsFunc_S_impl_Ins_impl_Ins at hq
  refine con_body (l := [(0, v1), (1, fv1)]) Tryz.func85 rfl Tryz.ntmps85 (Args.get ⟨rfl, rfl, trivial⟩) rfl ?_
  intro a hf
  have hm := Mem.start w0
  refine wp_seq (wp_region_lit (st_y hf rfl rfl rfl (y_assign rfl rfl) fun a hf => st_end (x_then_n (wp_seq (wp_region_lit (st_y hf rfl rfl rfl (y_move rfl rfl) fun a hf => st_y hf rfl rfl rfl (y_move rfl rfl) fun a hf => ?_))))))
  obtain ⟨r0_1, hx0_1, hq⟩ := bnd hq
  refine st_ef hf rfl rfl rfl (e_call hf rfl Tryz.call106 rfl (slices_IndexFunc_S_impl_Ins_impl_Ins_ok _ s_ v1 (hm.now h1) f fv1 (fun w y0 z0_0 z0_1 r hB hq => hfn1 w y0 z0_0 z0_1 r (hm.below.trans (hB.mono hm.below.size)) hq) _ hx0_1)) ?_
  clear hf a; rintro v0_1 w0_1 a ho0_1 hf
  obtain ⟨rfl, hB⟩ := ho0_1
  replace hm := hm.below' hB; clear hB
  refine st_y hf rfl rfl rfl (y_geq rfl rfl rfl) fun a hf => st_y hf rfl rfl rfl (y_assign rfl rfl) fun a hf => st_end (x_then_n (wp_ret ?_))
  obtain rfl := Option.some.inj hq
  refine ret_tmp hf Tryz.results85 rfl ?_
  exact ⟨rfl, hm.below⟩

theorem slices_Index_S_int_int_ok (w0 : World) (s_ : List Int) (v1 : Value) (h1 : GT.rep (hp w0) [v1] s_) (v_ : Int) (r : Int) (hq : slices_Index_S_int_int s_ v_ = some r) :
    Con Tryz.prog 64 [v1, (.int .i64 (v_))] w0 (fun v w' => v = (.int .i64 (r)) ∧ Below w0.heap.size w0 w') := by
  unfold slices_Index_S_int_int at hq
  refine con_body (l := [(0, v1), (1, (.int .i64 (v_)))]) Tryz.func64 rfl Tryz.ntmps64 (Args.get ⟨rfl, rfl, trivial⟩) rfl ?_
  intro a hf
  have hm := Mem.start w0
  refine wp_seq (wp_region_lit (st_y hf rfl rfl rfl (y_assign rfl rfl) fun a hf => st_end (x_then_n (wp_seq (wp_seq (wp_region_lit (st_y hf rfl rfl rfl (y_move rfl rfl) fun a hf => ?_)))))))
  obtain ⟨p0_1, c0_1, he, hl0_1⟩ := ro_slice h1
  subst he
  refine st_y hf rfl rfl rfl (y_len_slice st_25.und rfl rfl) fun a hf => st_y hf rfl rfl rfl (y_move rfl rfl) fun a hf => st_end (x_then_n (wp_block ?_))
  obtain ⟨r0_1, hl0_2, hq⟩ := bnd hq
  refine wp_forN _ (fun i1_1 xs1_1 a w => Fr 19 [(0, (.slice p0_1 s_.length c0_1)), (1, (.int .i64 (v_))), (7, (.int .i64 ((s_.length : Int)))), (8, (.int .i64 (i1_1)))] a ∧ Mem w0 (hp w0) w []) (0) ((s_.length : Int)) hl0_2 ?_ ?_ ?_
  ·
   exact ⟨hf.sub ⟨rfl, rfl, rfl, rfl, trivial⟩, hm.pick [] (by decide) rfl⟩
  ·
   clear hf hm
   rintro i1_1 xs1_1 a w ⟨hf, hm⟩ hi1_1 hi1_2 q0_1 hb0_1 ho0_1
   refine wp_seq (wp_region_lit (st_y hf rfl rfl rfl (y_lss rfl rfl rfl) fun a hf => st_end (x_then_n (wp_seq (cond_t hf rfl (decide_eq_true (by omega)) (wp_skip (x_then_n ?_)))))))
   refine wp_seq (wp_block (wp_seq (wp_region_lit (st_y hf rfl rfl rfl (y_move rfl rfl) fun a hf => st_y hf rfl rfl rfl (y_assign rfl rfl) fun a hf => st_end (x_then_n (wp_seq ?_))))))
   refine wp_region_lit (st_y hf rfl rfl rfl (y_move rfl rfl) fun a hf => st_y hf rfl rfl rfl (y_move rfl rfl) fun a hf => st_y hf rfl rfl rfl (y_move rfl rfl) fun a hf => ?_)
   obtain ⟨x1_1, hx1_1, hb0_1⟩ := bnd hb0_1
   obtain ⟨h1_1, hx1_2⟩ := getI_some.1 hx1_1
   obtain ⟨b1_1, o1_1, c1_1, he⟩ := idx_form h1 hx1_2
   simp only [Value.slice.injEq, Option.some.injEq] at he; obtain ⟨rfl, _, rfl⟩ := he
   refine st_y hf rfl rfl rfl (y_indexAddr st_25 rfl rfl rfl h1_1 (idx_lt hx1_2)) fun a hf => st_y hf rfl rfl rfl (y_load1 Tryz.isAgg3 rfl rfl ((flat_cells (cs := [(.int .i64 (x1_1))]) (hm.now h1) hx1_2 rfl).cell (j := 0) rfl)) fun a hf => st_y hf rfl rfl rfl (y_eql rfl rfl rfl) fun a hf => st_end (x_then_n ?_)
   rcases bcases (decide (v_ = x1_1)) with h1_2 | h1_2
   ·
    replace hb0_1 := (ite_t h1_2).symm.trans hb0_1
    have h1_3 := of_decide_eq_true h1_2
    refine cond_t hf rfl h1_2 (wp_seq (wp_region_lit (st_y hf rfl rfl rfl (y_move rfl rfl) fun a hf => st_y hf rfl rfl rfl (y_assign rfl rfl) fun a hf => st_end (x_then_n (wp_ret (x_blk_ret ?_))))))
    refine x_then_ret (x_then_ret (x_blk_ret (x_then_ret ?_)))
    obtain rfl := Option.some.inj hb0_1
    obtain rfl := ho0_1 _ rfl
    replace hq := sum_r hq
    obtain rfl := Option.some.inj hq
    refine ret_tmp hf Tryz.results64 rfl ?_
    exact ⟨rfl, hm.below⟩
   ·
    replace hb0_1 := (ite_f h1_2).symm.trans hb0_1
    have h1_4 := of_decide_eq_false h1_2
    refine cond_f hf rfl h1_2 (wp_skip (x_blk_n (x_then_n (wp_region_lit (st_y hf rfl rfl rfl (y_add64 rfl rfl rfl (by omega) (by omega)) fun a hf => st_y hf rfl rfl rfl (y_move rfl rfl) fun a hf => st_end (x_then_n ?_))))))
    obtain rfl := Option.some.inj hb0_1
    exact ⟨_, rfl, hf.sub ⟨rfl, rfl, rfl, rfl, trivial⟩, hm.pick [] (by decide) rfl⟩
  ·
   clear hf hm
   rintro i0_1 xs0_1 a w ⟨hf, hm⟩ hi0_1 hi0_2 rfl
   replace hq := sum_l hq
   refine wp_seq (wp_region_lit (st_y hf rfl rfl rfl (y_lss rfl rfl rfl) fun a hf => st_end (x_then_n (wp_seq (cond_f hf rfl (decide_eq_false (by omega)) (wp_exit (x_then_exit ?_)))))))
   refine x_then_exit (x_blk_hit (x_then_n (wp_seq (wp_region_lit (st_y hf rfl rfl rfl (y_assign rfl rfl) fun a hf => st_end (x_then_n (wp_ret ?_)))))))
   obtain rfl := Option.some.inj hq
   refine ret_tmp hf Tryz.results64 rfl ?_
   exact ⟨rfl, hm.below⟩

theorem slices_Contains_S_int_int_ok (w0 : World) (s_ : List Int) (v1 : Value) (h1 : GT.rep (hp w0) [v1] s_) (v_ : Int) (r : Bool) (hq : slices_Contains_S_int_int s_ v_ = some r) :
    Con Tryz.prog 90 [v1, (.int .i64 (v_))] w0 (fun v w' => v = (.bool (r)) ∧ Below w0.heap.size w0 w') := by
  unfold slices_Contains_S_int_int at hq
  refine con_body (l := [(0, v1), (1, (.int .i64 (v_)))]) Tryz.func90 rfl Tryz.ntmps90 (Args.get ⟨rfl, rfl, trivial⟩) rfl ?_
  intro a hf
  have hm := Mem.start w0
  refine wp_seq (wp_region_lit (st_y hf rfl rfl rfl (y_assign rfl rfl) fun a hf => st_end (x_then_n (wp_seq (wp_region_lit (st_y hf rfl rfl rfl (y_move rfl rfl) fun a hf => st_y hf rfl rfl rfl (y_move rfl rfl) fun a hf => ?_))))))
  obtain ⟨r0_1, hx0_1, hq⟩ := bnd hq
  refine st_ef hf rfl rfl rfl (e_call hf rfl Tryz.call64 rfl (slices_Index_S_int_int_ok _ s_ v1 (hm.now h1) v_ _ hx0_1)) ?_
  clear hf a; rintro v0_1 w0_1 a ho0_1 hf
  obtain ⟨rfl, hB⟩ := ho0_1
  replace hm := hm.below' hB; clear hB
  refine st_y hf rfl rfl rfl (y_geq rfl rfl rfl) fun a hf => st_y hf rfl rfl rfl (y_assign rfl rfl) fun a hf => st_end (x_then_n (wp_ret ?_))
  obtain rfl := Option.some.inj hq
  refine ret_tmp hf Tryz.results90 rfl ?_
  exact ⟨rfl, hm.below⟩

theorem impl_PredsOf_ok (w0 : World) (c_ : Code_) (v1 : Value) (h1 : GT.rep (hp w0) [v1] c_.blocks) (b_ : Int) (r : (List Int)) (hq : impl_PredsOf c_ b_ = some r) :
    Con Tryz.prog 65 [(.agg #[(.int .i64 (c_.params)), (.int .i64 (c_.regs)), v1]), (.int .i64 (b_))] w0 (fun v w' => ∃ (x1 : Value), v = x1 ∧ Mem w0 (hp w0) w' [ow [x1] r]) := by
  unfold impl_PredsOf at hq
  refine con_body (l := [(0, (.agg #[(.int .i64 (c_.params)), (.int .i64 (c_.regs)), v1])), (1, (.int .i64 (b_)))]) Tryz.func65 rfl Tryz.ntmps65 (Args.get ⟨rfl, rfl, trivial⟩) rfl ?_
  intro a hf
  have hm := Mem.start w0
  refine wp_seq (wp_region_lit (st_ef hf rfl rfl rfl (e_box hf hm rfl rfl rfl) ?_))
  clear hf a; rintro _ w0_1 a ⟨b0_1, rfl, hm⟩ hf
  refine st_y hf rfl rfl rfl (y_assign rfl rfl) fun a hf => st_end (x_then_n (wp_seq (wp_region_lit (st_y hf rfl rfl rfl (y_assign rfl rfl) fun a hf => st_end (x_then_n (wp_seq ?_))))))
  refine wp_seq (wp_region_lit (st_y hf rfl rfl rfl (y_move rfl rfl) fun a hf => st_y hf rfl rfl rfl (y_fieldAddr fo_69_2 rfl rfl) fun a hf => st_y hf rfl rfl rfl (y_load1 Tryz.isAgg67 rfl rfl (hm.blk_cell 0 rfl rfl)) fun a hf => ?_))
  obtain ⟨p0_1, c0_1, he, hl0_1⟩ := ro_slice h1
  subst he
  refine st_y hf rfl rfl rfl (y_len_slice st_67.und rfl rfl) fun a hf => st_y hf rfl rfl rfl (y_sub64 rfl rfl rfl (by omega) (by omega)) fun a hf => ?_
  obtain ⟨r0_1, hx0_1, hq⟩ := bnd hq
  refine st_ef hf rfl rfl rfl (e_call hf rfl Tryz.call45 rfl (impl_within_ok _ b_ 0 (((c_.blocks.length : Int)) - 1) _ hx0_1)) ?_
  clear hf a; rintro v0_1 w0_2 a ho0_1 hf
  obtain ⟨rfl, hB⟩ := ho0_1
  replace hm := hm.below' hB; clear hB
  refine st_y hf rfl rfl rfl (y_not rfl rfl) fun a hf => st_end (x_then_n ?_)
  rcases bcases (!(r0_1)) with h0_1 | h0_1
  ·
   replace hq := (ite_t h0_1).symm.trans hq
   have h0_2 := bnot_t' h0_1
   refine cond_t hf rfl h0_1 (wp_seq (wp_region_lit (st_y hf rfl rfl rfl (y_assign rfl rfl) fun a hf => st_end (x_then_n (wp_ret (x_then_ret ?_))))))
   obtain rfl := Option.some.inj hq
   have hm := hm.nilow (α := Int)
   refine ret_tmp hf Tryz.results65 rfl ?_
   exact ⟨(.slice none 0 0), rfl, hm.pick [0] (by decide) rfl⟩
  ·
   replace hq := (ite_f h0_1).symm.trans hq
   have h0_3 := bnot_f' h0_1
   refine cond_f hf rfl h0_1 (wp_skip (x_then_n (wp_seq (wp_seq (wp_region_lit (st_y hf rfl rfl rfl (y_fieldAddr fo_69_2 rfl rfl) fun a hf => st_y hf rfl rfl rfl (y_load1 Tryz.isAgg67 rfl rfl (hm.blk_cell 0 rfl rfl)) fun a hf => st_y hf rfl rfl rfl (y_len_slice st_67.und rfl rfl) fun a hf => ?_))))))
   refine st_y hf rfl rfl rfl (y_move rfl rfl) fun a hf => st_end (x_then_n (wp_block ?_))
   obtain ⟨r0_2, hl0_2, hq⟩ := bnd hq
   refine wp_forN _ (fun i1_1 xs1_1 a w => ∃ (v1_1 : Value), Fr 33 [(1, (.int .i64 (b_))), (5, v1_1), (16, (.slice p0_1 c_.blocks.length c0_1)), (17, (.int .i64 ((c_.blocks.length : Int)))), (18, (.int .i64 (i1_1)))] a ∧ Mem w0 (hp w0) w [ow [v1_1] xs1_1]) (0) ((c_.blocks.length : Int)) hl0_2 ?_ ?_ ?_
   ·
    have hm := hm.nilow (α := Int)
    exact ⟨(.slice none 0 0), hf.sub ⟨rfl, rfl, rfl, rfl, rfl, trivial⟩, hm.pick [0] (by decide) rfl⟩
   ·
    clear hf hm
    rintro i1_1 xs1_1 a w ⟨v1_1, hf, hm⟩ hi1_1 hi1_2 q0_1 hb0_1 ho0_2
    refine wp_seq (wp_region_lit (st_y hf rfl rfl rfl (y_lss rfl rfl rfl) fun a hf => st_end (x_then_n (wp_seq (cond_t hf rfl (decide_eq_true (by omega)) (wp_skip (x_then_n ?_)))))))
    refine wp_seq ?_
    obtain ⟨s1_1, hq1_1, hb0_1⟩ := bnd hb0_1
    refine code_cut (K := fun a w => ∃ (v1_2 : Value), Fr 33 [(1, (.int .i64 (b_))), (5, v1_2), (16, (.slice p0_1 c_.blocks.length c0_1)), (17, (.int .i64 ((c_.blocks.length : Int)))), (18, (.int .i64 (i1_1)))] a ∧ Mem w0 (hp w0) w [ow [v1_2] s1_1]) ?_ ?_
    ·
     refine wp_block (wp_seq (wp_region_lit (st_y hf rfl rfl rfl (y_move rfl rfl) fun a hf => ?_)))
     obtain ⟨x2_1, hx2_1, hq1_1⟩ := bnd hq1_1
     obtain ⟨h2_1, hx2_2⟩ := getI_some.1 hx2_1
     obtain ⟨b2_1, o2_1, c2_1, he⟩ := idx_form' h1 hx2_2
     simp only [Value.slice.injEq, Option.some.injEq] at he; obtain ⟨rfl, _, rfl⟩ := he
     obtain ⟨_, _, hc2_1, hr2_1⟩ := ro_get' h1 hx2_2
     obtain ⟨_, _, rfl, h2_2, _, _, rfl, h2_3, _, _, rfl, rfl, _, _, rfl, rfl, h2_4⟩ := hr2_1
     obtain ⟨v2_1, rfl, -⟩ := id h2_2
     replace h2_2 : GT.rep (hp w0) [v2_1] x2_1.phis := h2_2
     obtain ⟨v2_2, rfl, -⟩ := id h2_3
     replace h2_3 : GT.rep (hp w0) [v2_2] x2_1.ins := h2_3
     obtain ⟨v2_3, rfl, -⟩ := id h2_4
     replace h2_4 : GT.rep (hp w0) [v2_3] x2_1.next_ := h2_4
     replace hc2_1 : CellsAt (hp w0) b2_1 (o2_1 + (i1_1).toNat * 5) [v2_1, v2_2, (.int .i64 (x2_1.jump)), (.int .i64 (x2_1.on)), v2_3] := hc2_1
     refine st_y hf rfl rfl rfl (y_indexAddr st_67 rfl rfl rfl h2_1 (idx_lt hx2_2)) fun a hf => st_y hf rfl rfl rfl (y_loadN (cs := [v2_1, v2_2, (.int .i64 (x2_1.jump)), (.int .i64 (x2_1.on)), v2_3]) Tryz.isAgg86 Tryz.sizeOf86 rfl rfl (hc2_1.mono hm.lez)) fun a hf => st_ef hf rfl rfl rfl (e_alloc hm Tryz.zeroValue86 rfl rfl) ?_
     clear hf a; rintro _ w2_1 a ⟨b2_2, rfl, hm⟩ hf
     refine st_y hf rfl rfl rfl (y_assign rfl rfl) fun a hf => st_ef0 hf rfl rfl (e_storeN 0 hf hm rfl Tryz.sizeOf86 rfl rfl rfl (one_cons (rep_one h2_2) (one_cons (rep_one h2_3) (one_cons rfl (one_cons rfl (one_cons (rep_one h2_4) one_nil))))) rfl rfl) ?_
     clear hf a; rintro _ w2_2 a hm hf
     refine st_end (x_then_n (wp_seq (wp_region_lit (st_y hf rfl rfl rfl (y_fieldAddr fo_86_4 rfl rfl) fun a hf => st_y hf rfl rfl rfl (y_load1 Tryz.isAgg25 rfl rfl (hm.blk_cell 0 rfl rfl)) fun a hf => st_y hf rfl rfl rfl (y_move rfl rfl) fun a hf => ?_))))
     obtain ⟨r2_1, hx2_3, hq1_1⟩ := bnd hq1_1
     refine st_ef hf rfl rfl rfl (e_call hf rfl Tryz.call90 rfl (slices_Contains_S_int_int_ok _ x2_1.next_ v2_3 (hm.now h2_4) b_ _ hx2_3)) ?_
     clear hf a; rintro v2_4 w2_3 a ho2_1 hf
     obtain ⟨rfl, hB⟩ := ho2_1
     replace hm := hm.below' hB; clear hB
     refine st_end (x_then_n ?_)
     obtain ⟨s2_1, hq2_1, hq1_1⟩ := bnd hq1_1
     refine code_cut (K := fun a w => ∃ (v2_5 : Value), Fr 33 [(1, (.int .i64 (b_))), (5, v2_5), (16, (.slice (some ⟨b2_1, o2_1, none⟩) c_.blocks.length c0_1)), (17, (.int .i64 ((c_.blocks.length : Int)))), (18, (.int .i64 (i1_1)))] a ∧ Mem w0 (hp w0) w [ow [v2_5] s2_1]) ?_ ?_
     ·
      rcases bcases (r2_1) with h3_1 | h3_1
      ·
       replace hq2_1 := (ite_t h3_1).symm.trans hq2_1
       refine cond_t hf rfl h3_1 (wp_region_lit (st_y hf rfl rfl rfl (y_move rfl rfl) fun a hf => st_y hf rfl rfl rfl (y_move rfl rfl) fun a hf => st_ef hf rfl rfl rfl (e_build (vs := #[(0, (.int .i64 (i1_1)))]) (cs := [(.int .i64 (i1_1))]) et_25 hf hm rfl rfl (by kernel_rfl) rfl rfl) ?_))
       clear hf a; rintro _ w3_1 a ⟨b3_1, rfl, hm⟩ hf
       replace hm := hm.lit (xs := ([i1_1] : List Int)) 0 rfl rfl rfl rfl
       obtain ⟨ys3_1, hx3_1, hq2_1⟩ := bnd hq2_1
       obtain ⟨h3_2, h3_2e⟩ := appM_some.1 hx3_1
       refine st_ef hf rfl rfl rfl (e_append 2 et_25 hf hm rfl (hm.ow_rep 0 rfl) rfl rfl rfl h3_2) ?_
       clear hf a; rintro v3_1 w3_2 a hm hf
       rw [h3_2e] at hm
       refine st_y hf rfl rfl rfl (y_assign rfl rfl) fun a hf => st_end (x_then_n ?_)
       obtain rfl := Option.some.inj hq2_1
       exact ⟨v3_1, hf.sub ⟨rfl, rfl, rfl, rfl, rfl, trivial⟩, hm.pick [2] (by decide) rfl⟩
      ·
       replace hq2_1 := (ite_f h3_1).symm.trans hq2_1
       refine cond_f hf rfl h3_1 (wp_skip (x_then_n ?_))
       obtain rfl := Option.some.inj hq2_1
       exact ⟨v1_1, hf.sub ⟨rfl, rfl, rfl, rfl, rfl, trivial⟩, hm.pick [1] (by decide) rfl⟩
     ·
      clear hf hm
      rintro a w ⟨v2_5, hf, hm⟩
      refine x_blk_n (x_then_n ?_)
      obtain rfl := Option.some.inj hq1_1
      exact ⟨v2_5, hf.sub ⟨rfl, rfl, rfl, rfl, rfl, trivial⟩, hm.pick [0] (by decide) rfl⟩
    ·
     clear hf hm
     rintro a w ⟨v1_2, hf, hm⟩
     refine x_then_n (wp_region_lit (st_y hf rfl rfl rfl (y_add64 rfl rfl rfl (by omega) (by omega)) fun a hf => st_y hf rfl rfl rfl (y_move rfl rfl) fun a hf => st_end (x_then_n ?_)))
     obtain rfl := Option.some.inj hb0_1
     exact ⟨_, rfl, v1_2, hf.sub ⟨rfl, rfl, rfl, rfl, rfl, trivial⟩, hm.pick [0] (by decide) rfl⟩
   ·
    clear hf hm
    rintro i0_1 xs0_1 a w ⟨v0_2, hf, hm⟩ hi0_1 hi0_2 rfl
    replace hq := sum_l hq
    refine wp_seq (wp_region_lit (st_y hf rfl rfl rfl (y_lss rfl rfl rfl) fun a hf => st_end (x_then_n (wp_seq (cond_f hf rfl (decide_eq_false (by omega)) (wp_exit (x_then_exit ?_)))))))
    refine x_then_exit (x_blk_hit (x_then_n (wp_seq (wp_region_lit (st_y hf rfl rfl rfl (y_move rfl rfl) fun a hf => st_y hf rfl rfl rfl (y_assign rfl rfl) fun a hf => st_end (x_then_n ?_))))))
    refine wp_ret ?_
    obtain rfl := Option.some.inj hq
    refine ret_tmp hf Tryz.results65 rfl ?_
    exact ⟨v0_2, rfl, hm.pick [0] (by decide) rfl⟩

theorem impl_codeOk_4_ok (w0 : World) (r_ : Int) (c0_0_ : Code_) (v1 : Value) (h1 : GT.rep (hp w0) [v1] c0_0_.blocks) (bf0_0 : Nat) (hbf0_0 : w0.heap[bf0_0]? = some (.cells ([(.int .i64 (c0_0_.params)), (.int .i64 (c0_0_.regs)), v1] : List Value).toArray 69 (0, 0))) (bf0 : Nat) (hbf0 : w0.heap[bf0]? = some (.cells ([(.func (.func 81) #[] #[(.pointer (some ⟨bf0_0, 0, none⟩))])] : List Value).toArray 96 (0, 0))) (r : Bool) (hq : impl_codeOk_4 r_ c0_0_ = some r) :
    Con Tryz.prog 88 [(.int .i64 (r_)), (.pointer (some ⟨bf0, 0, none⟩))] w0 (fun v w' => v = (.bool (r)) ∧ Below w0.heap.size w0 w') := by
  unfold impl_codeOk_4 at hq
  refine con_body (l := [(0, (.int .i64 (r_))), (1, (.pointer (some ⟨bf0, 0, none⟩)))]) Tryz.func88 rfl Tryz.ntmps88 (Args.get ⟨rfl, rfl, trivial⟩) rfl ?_
  intro a hf
  have hm := Mem.start w0
  refine wp_seq (wp_region_lit (st_y hf rfl rfl rfl (y_assign rfl rfl) fun a hf => st_end (x_then_n (wp_seq (wp_region_lit (st_y hf rfl rfl rfl (y_load1 Tryz.isAgg96 rfl rfl (hm.old_cell hbf0 rfl)) fun a hf => st_y hf rfl rfl rfl (y_move rfl rfl) fun a hf => ?_))))))
  obtain ⟨r0_1, hx0_1, hq⟩ := bnd hq
  refine st_ef hf rfl rfl rfl (e_callv hf rfl rfl rfl ⟨81, [(.pointer (some ⟨bf0_0, 0, none⟩))], rfl, Tryz.call81, impl_codeOk_1_ok _ r_ c0_0_ v1 (rep_later (hm.now h1) (Below.refl _ _)) bf0_0 (hm.old_later hbf0_0 (Below.refl _ _)) _ hx0_1⟩) ?_
  clear hf a; rintro v0_1 w0_1 a ho0_1 hf
  obtain ⟨rfl, hB⟩ := ho0_1
  replace hm := hm.below' hB; clear hB
  refine st_y hf rfl rfl rfl (y_not rfl rfl) fun a hf => st_y hf rfl rfl rfl (y_assign rfl rfl) fun a hf => st_end (x_then_n (wp_ret ?_))
  obtain rfl := Option.some.inj hq
  refine ret_tmp hf Tryz.results88 rfl ?_
  exact ⟨rfl, hm.below⟩

end Go.Proofs.YtjbcoilagfdidaaGreat
