/- A part of the proof of FnExactDecodeFnCardSaid. -/
import Derived.Test.YtmhjfaoefcdelaaDoorDeWalksA
namespace Go.Proofs.YtmhjfaoefcdelaaDoor
open Go Go.Wk Go.RowKit
set_option maxRecDepth 4000
set_option maxHeartbeats 4000000

theorem spec_l25Long_ok (w0 : World) (f : Mfn) (v1 : Value) (h1 : GT.rep (hp w0) [v1] f.ins) (r : (List Bool)) (hq : spec_l25Long f = some r) :
    Con Tryd.prog 52 [(.agg #[(.int .i64 (f.params)), (.int .i64 (f.slots)), v1])] w0 (fun v w' => ∃ (x1 : Value), v = x1 ∧ Mem w0 (hp w0) w' [ow [x1] r]) := by
  unfold spec_l25Long at hq
  refine con_body (l := [(0, (.agg #[(.int .i64 (f.params)), (.int .i64 (f.slots)), v1]))]) Tryd.func52 rfl Tryd.ntmps52 (Args.get ⟨rfl, trivial⟩) rfl ?_
  intro a hf
  have hm := Mem.start w0
  refine wp_seq ?_
  refine wp_region_lit ?_
  refine st_ef hf rfl rfl rfl (e_box hf hm rfl rfl rfl) ?_
  clear hf a; rintro _ w0_1 a ⟨b0_1, rfl, hm⟩ hf
  refine st_y hf rfl rfl rfl (y_assign rfl rfl) ?_
  clear hf a; intro a hf
  refine st_end ?_
  refine x_then_n ?_
  refine wp_seq ?_
  refine wp_region_lit ?_
  refine st_y hf rfl rfl rfl (y_fieldAddr fo_35_2 rfl rfl) ?_
  clear hf a; intro a hf
  refine st_y hf rfl rfl rfl (y_load1 Tryd.isAgg33 rfl rfl (hm.blk_cell 0 rfl rfl)) ?_
  clear hf a; intro a hf
  obtain ⟨p0_1, c0_1, he, hl0_1⟩ := ro_slice h1
  subst he
  refine st_y hf rfl rfl rfl (y_len_slice st_33.und rfl rfl) ?_
  clear hf a; intro a hf
  obtain ⟨ys0_1, hx0_1, hq⟩ := bnd hq
  obtain ⟨⟨h0_11, h0_12⟩, h0_1e⟩ := makeM_some.1 hx0_1
  refine st_ef hf rfl rfl rfl (e_make (x0 := (false : Bool)) et_68 (fun _ => (Flat.own_iff.2 rfl)) hf hm rfl rfl rfl h0_11 (Int.le_refl _) h0_12) ?_
  clear hf a; rintro v0_1 w0_2 a hm hf
  rw [h0_1e] at hm
  have h0_1l : (ys0_1.length : Int) = (f.ins.length : Int) := by rw [← h0_1e]; simp only [List.length_replicate]; omega
  refine st_y hf rfl rfl rfl (y_assign rfl rfl) ?_
  clear hf a; intro a hf
  refine st_end ?_
  refine x_then_n ?_
  refine wp_seq ?_
  refine wp_seq ?_
  refine wp_region_lit ?_
  refine st_y hf rfl rfl rfl (y_assign rfl rfl) ?_
  clear hf a; intro a hf
  refine st_end ?_
  refine x_then_n ?_
  obtain ⟨p0_2, c0_2, he, hl0_2⟩ := ro_slice (hm.ow_rep 0 rfl)
  subst he
  obtain ⟨s0_1, hq0_1, hq⟩ := bnd hq
  refine code_cut (K := fun a w => ∃ (v0_2 : Value), Fr 73 [(3, v0_2)] a ∧ Mem w0 (hp w0) w [ow [v0_2] s0_1]) ?_ ?_
  ·
    refine wp_block ?_
    obtain ⟨r1_1, hl1_1, hq0_1⟩ := bnd hq0_1
    refine wp_loopM _ (fun xs2_1 a w => ∃ (v2_1 : Value), Fr 73 [(1, (.pointer (some ⟨b0_1, 0, none⟩))), (3, v2_1), (4, (.bool (xs2_1.2)))] a ∧ Mem w0 (hp w0) w [blk b0_1 [(.int .i64 (f.params)), (.int .i64 (f.slots)), (.slice p0_1 f.ins.length c0_1)] 35, ow [v2_1] xs2_1.1]) hl1_1 ?_ ?_
    ·
      exact ⟨(.slice p0_2 ys0_1.length c0_2), hf.sub ⟨rfl, rfl, rfl, trivial⟩, hm.pick [1, 0] (by decide) rfl⟩
    ·
      clear hf hm
      rintro xs2_1 a w q1_1 ⟨v2_1, hf, hm⟩ hb1_1 ho1_1
      refine wp_seq ?_
      refine wp_seq ?_
      refine wp_region_lit ?_
      refine st_y hf rfl rfl rfl (y_move rfl rfl) ?_
      clear hf a; intro a hf
      refine st_end ?_
      refine x_then_n ?_
      rcases bcases (xs2_1.2) with h2_1 | h2_1
      ·
        replace hb1_1 := (ite_t h2_1).symm.trans hb1_1
        refine cond_t hf rfl h2_1 ?_
        refine wp_skip ?_
        refine x_then_n ?_
        refine wp_block ?_
        refine wp_seq ?_
        refine wp_region_lit ?_
        refine st_y hf rfl rfl rfl (y_assign rfl rfl) ?_
        clear hf a; intro a hf
        refine st_end ?_
        refine x_then_n ?_
        refine wp_seq ?_
        refine wp_region_lit ?_
        refine st_y hf rfl rfl rfl (y_loadN (cs := [(.int .i64 (f.params)), (.int .i64 (f.slots)), (.slice p0_1 f.ins.length c0_1)]) Tryd.isAgg35 Tryd.sizeOf35 rfl rfl (hm.blk_at 0 rfl)) ?_
        clear hf a; intro a hf
        refine st_y hf rfl rfl rfl (y_move rfl rfl) ?_
        clear hf a; intro a hf
        obtain ⟨r2_1, hx2_1, hb1_1⟩ := bnd hb1_1
        refine st_ef hf rfl rfl rfl (e_call hf rfl Tryd.call55 rfl (spec_l25Places_ok _ f (.slice p0_1 f.ins.length c0_1) (hm.now h1) xs2_1.1 v2_1 (hm.ow_rep 1 rfl) _ hx2_1)) ?_
        clear hf a; rintro v2_2 w2_1 a ho2_1 hf
        obtain ⟨v2_3, rfl, hB⟩ := ho2_1
        replace hm := hm.give hB; clear hB
        refine st_y hf rfl rfl rfl (y_move rfl rfl) ?_
        clear hf a; intro a hf
        refine st_y hf rfl rfl rfl (y_extract rfl rfl rfl) ?_
        clear hf a; intro a hf
        refine st_y hf rfl rfl rfl (y_extract rfl rfl rfl) ?_
        clear hf a; intro a hf
        refine st_y hf rfl rfl rfl (y_assign rfl rfl) ?_
        clear hf a; intro a hf
        refine st_y hf rfl rfl rfl (y_assign rfl rfl) ?_
        clear hf a; intro a hf
        refine st_end ?_
        refine x_then_n ?_
        refine wp_seq ?_
        refine wp_region_lit ?_
        refine st_ef hf rfl rfl rfl (e_build0 (α := Bool) et_68 hm rfl) ?_
        clear hf a; rintro v2_4 w2_2 a hm hf
        refine st_y hf rfl rfl rfl (y_move rfl rfl) ?_
        clear hf a; intro a hf
        obtain ⟨ys2_1, hx2_2, hb1_1⟩ := bnd hb1_1
        obtain ⟨h2_2, h2_2e⟩ := appM_some.1 hx2_2
        refine st_ef hf rfl rfl rfl (e_append 0 et_68 hf hm rfl (hm.ow_rep 3 rfl) rfl rfl rfl h2_2) ?_
        clear hf a; rintro v2_5 w2_3 a hm hf
        rw [h2_2e] at hm
        refine st_y hf rfl rfl rfl (y_assign rfl rfl) ?_
        clear hf a; intro a hf
        refine st_end ?_
        refine x_then_n ?_
        refine wp_seq ?_
        refine wp_seq ?_
        refine wp_region_lit ?_
        refine st_y hf rfl rfl rfl (y_assign rfl rfl) ?_
        clear hf a; intro a hf
        refine st_end ?_
        refine x_then_n ?_
        obtain ⟨p2_1, c2_1, he, hl2_1⟩ := ro_slice (hm.ow_rep 3 rfl)
        subst he
        obtain ⟨p2_2, c2_2, he, hl2_2⟩ := ro_slice (hm.ow_rep 1 rfl)
        subst he
        obtain ⟨p2_3, c2_3, he, hl2_3⟩ := ro_slice (hm.ow_rep 0 rfl)
        subst he
        refine wp_block ?_
        obtain ⟨r2_2, hl2_4, hb1_1⟩ := bnd hb1_1
        refine wp_forN _ (fun i3_1 xs3_1 a w => Fr 73 [(1, (.pointer (some ⟨b0_1, 0, none⟩))), (3, (.slice p2_1 xs2_1.1.length c2_1)), (4, (.bool (xs3_1.1))), (5, (.slice p2_2 r2_1.1.length c2_2)), (7, (.slice p2_3 ys2_1.length c2_3)), (8, (.int .i64 (i3_1)))] a ∧ Mem w0 (hp w0) w [blk b0_1 [(.int .i64 (f.params)), (.int .i64 (f.slots)), (.slice p0_1 f.ins.length c0_1)] 35, ow [(.slice p2_1 xs2_1.1.length c2_1)] xs2_1.1, ow [(.slice p2_2 r2_1.1.length c2_2)] r2_1.1, ow [(.slice p2_3 ys2_1.length c2_3)] xs3_1.2]) (0) ((f.ins.length : Int)) hl2_4 ?_ ?_ ?_
        ·
          exact ⟨hf.sub ⟨rfl, rfl, rfl, rfl, rfl, rfl, trivial⟩, hm.pick [2, 3, 1, 0] (by decide) rfl⟩
        ·
          clear hf hm
          rintro i3_1 xs3_1 a w ⟨hf, hm⟩ hi3_1 hi3_2 q2_1 hb2_1 ho2_2
          refine wp_seq ?_
          refine wp_seq ?_
          refine wp_region_lit ?_
          refine st_y hf rfl rfl rfl (y_move rfl rfl) ?_
          clear hf a; intro a hf
          refine st_y hf rfl rfl rfl (y_fieldAddr fo_35_2 rfl rfl) ?_
          clear hf a; intro a hf
          refine st_y hf rfl rfl rfl (y_load1 Tryd.isAgg33 rfl rfl (hm.blk_cell 0 rfl rfl)) ?_
          clear hf a; intro a hf
          refine st_y hf rfl rfl rfl (y_len_slice st_33.und rfl rfl) ?_
          clear hf a; intro a hf
          refine st_y hf rfl rfl rfl (y_lss rfl rfl rfl) ?_
          clear hf a; intro a hf
          refine st_end ?_
          refine x_then_n ?_
          refine cond_t hf rfl (decide_eq_true (by omega)) ?_
          refine wp_skip ?_
          refine x_then_n ?_
          refine wp_seq ?_
          obtain ⟨s3_1, hq3_1, hb2_1⟩ := bnd hb2_1
          refine code_cut (K := fun a w => Fr 73 [(1, (.pointer (some ⟨b0_1, 0, none⟩))), (3, (.slice p2_1 xs2_1.1.length c2_1)), (4, (.bool (s3_1.1))), (5, (.slice p2_2 r2_1.1.length c2_2)), (7, (.slice p2_3 ys2_1.length c2_3)), (8, (.int .i64 (i3_1)))] a ∧ Mem w0 (hp w0) w [blk b0_1 [(.int .i64 (f.params)), (.int .i64 (f.slots)), (.slice p0_1 f.ins.length c0_1)] 35, ow [(.slice p2_1 xs2_1.1.length c2_1)] xs2_1.1, ow [(.slice p2_2 r2_1.1.length c2_2)] r2_1.1, ow [(.slice p2_3 ys2_1.length c2_3)] s3_1.2]) ?_ ?_
          ·
            refine wp_block ?_
            refine wp_seq ?_
            refine wp_seq ?_
            obtain ⟨s4_1, hq4_1, hq3_1⟩ := bnd hq3_1
            refine code_cut (K := fun a w => Fr 73 [(1, (.pointer (some ⟨b0_1, 0, none⟩))), (3, (.slice p2_1 xs2_1.1.length c2_1)), (4, (.bool (xs3_1.1))), (5, (.slice p2_2 r2_1.1.length c2_2)), (7, (.slice p2_3 ys2_1.length c2_3)), (8, (.int .i64 (i3_1))), (43, (.bool (s4_1)))] a ∧ Mem w0 (hp w0) w [blk b0_1 [(.int .i64 (f.params)), (.int .i64 (f.slots)), (.slice p0_1 f.ins.length c0_1)] 35, ow [(.slice p2_1 xs2_1.1.length c2_1)] xs2_1.1, ow [(.slice p2_2 r2_1.1.length c2_2)] r2_1.1, ow [(.slice p2_3 ys2_1.length c2_3)] xs3_1.2]) ?_ ?_
            ·
              refine wp_region_lit ?_
              refine st_y hf rfl rfl rfl (y_fieldAddr fo_35_2 rfl rfl) ?_
              clear hf a; intro a hf
              refine st_y hf rfl rfl rfl (y_load1 Tryd.isAgg33 rfl rfl (hm.blk_cell 0 rfl rfl)) ?_
              clear hf a; intro a hf
              refine st_y hf rfl rfl rfl (y_move rfl rfl) ?_
              clear hf a; intro a hf
              obtain ⟨x5_1, hx5_1, hq4_1⟩ := bnd hq4_1
              obtain ⟨h5_1, hx5_2⟩ := getI_some.1 hx5_1
              obtain ⟨b5_1, o5_1, c5_1, he⟩ := idx_form h1 hx5_2
              simp only [Value.slice.injEq, Option.some.injEq] at he; obtain ⟨rfl, _, rfl⟩ := he
              refine st_y hf rfl rfl rfl (y_indexAddr st_33 rfl rfl rfl h5_1 (idx_lt hx5_2)) ?_
              clear hf a; intro a hf
              refine st_y hf rfl rfl rfl (y_loadN (cs := [(.int .i64 (x5_1.op)), (.int .i64 (x5_1.a_)), (.int .i64 (x5_1.b)), (.int .i64 (x5_1.c)), (.int .i64 (x5_1.n_))]) Tryd.isAgg27 Tryd.sizeOf27 rfl rfl (flat_cells (cs := [(.int .i64 (x5_1.op)), (.int .i64 (x5_1.a_)), (.int .i64 (x5_1.b)), (.int .i64 (x5_1.c)), (.int .i64 (x5_1.n_))]) (hm.now h1) hx5_2 rfl)) ?_
              clear hf a; intro a hf
              obtain ⟨r5_1, hx5_3, hq4_1⟩ := bnd hq4_1
              refine st_ef hf rfl rfl rfl (e_call hf rfl Tryd.call37 rfl (spec_l24Jumps_ok _ x5_1 _ hx5_3)) ?_
              clear hf a; rintro v5_1 w5_1 a ho5_1 hf
              obtain ⟨rfl, hB⟩ := ho5_1
              replace hm := hm.below' hB; clear hB
              refine st_y hf rfl rfl rfl (y_not rfl rfl) ?_
              clear hf a; intro a hf
              refine st_y hf rfl rfl rfl (y_move rfl rfl) ?_
              clear hf a; intro a hf
              rcases bcases (!(r5_1)) with h5_2 | h5_2
              ·
                replace hq4_1 := (ite_t h5_2).symm.trans hq4_1
                have h5_3 := bnot_t' h5_2
                refine st_no hf rfl rfl (lk_b rfl h5_2) rfl rfl rfl ?_
                clear hf a; intro a hf
                refine st_no hf rfl rfl (lk_b rfl h5_2) rfl rfl rfl ?_
                clear hf a; intro a hf
                refine st_no hf rfl rfl (lk_b rfl h5_2) rfl rfl rfl ?_
                clear hf a; intro a hf
                refine st_no hf rfl rfl (lk_b rfl h5_2) rfl rfl rfl ?_
                clear hf a; intro a hf
                refine st_y hf rfl rfl rfl (y_pick_t rfl (ev_b rfl h5_2) rfl) ?_
                clear hf a; intro a hf
                refine st_end ?_
                refine x_then_n ?_
                obtain rfl := Option.some.inj hq4_1
                exact ⟨hf.sub ⟨rfl, rfl, rfl, rfl, rfl, rfl, rfl, trivial⟩, hm.pick [0, 1, 2, 3] (by decide) rfl⟩
              ·
                replace hq4_1 := (ite_f h5_2).symm.trans hq4_1
                have h5_4 := bnot_f' h5_2
                refine st_yg hf rfl rfl (lk_b rfl h5_2) rfl rfl (y_move rfl rfl) ?_
                clear hf a; intro a hf
                refine st_yg hf rfl rfl (lk_b rfl h5_2) rfl rfl (y_move rfl rfl) ?_
                clear hf a; intro a hf
                obtain ⟨x5_2, hx5_4, hq4_1⟩ := bnd hq4_1
                obtain ⟨h5_5, hx5_5⟩ := getI_some.1 hx5_4
                obtain ⟨b5_2, o5_2, c5_2, he⟩ := idx_form (hm.ow_rep 1 rfl) hx5_5
                simp only [Value.slice.injEq, Option.some.injEq] at he; obtain ⟨rfl, _, rfl⟩ := he
                refine st_yg hf rfl rfl (lk_b rfl h5_2) rfl rfl (y_indexAddr st_68 rfl rfl rfl h5_5 (idx_lt hx5_5)) ?_
                clear hf a; intro a hf
                refine st_yg hf rfl rfl (lk_b rfl h5_2) rfl rfl (y_load1 Tryd.isAgg4 rfl rfl ((flat_cells (cs := [(.bool (x5_2))]) (hm.ow_rep 1 rfl) hx5_5 rfl).cell (j := 0) rfl)) ?_
                clear hf a; intro a hf
                refine st_y hf rfl rfl rfl (y_pick_f rfl (ev_b rfl h5_2) rfl) ?_
                clear hf a; intro a hf
                refine st_end ?_
                refine x_then_n ?_
                obtain rfl := Option.some.inj hq4_1
                exact ⟨hf.sub ⟨rfl, rfl, rfl, rfl, rfl, rfl, rfl, trivial⟩, hm.pick [0, 1, 2, 3] (by decide) rfl⟩
            ·
              clear hf hm
              rintro a w ⟨hf, hm⟩
              refine x_then_n ?_
              rcases bcases (s4_1) with h4_1 | h4_1
              ·
                replace hq3_1 := (ite_t h4_1).symm.trans hq3_1
                refine cond_t hf rfl h4_1 ?_
                refine wp_exit ?_
                refine x_then_exit ?_
                refine x_blk_hit ?_
                refine x_then_n ?_
                obtain rfl := Option.some.inj hq3_1
                exact ⟨hf.sub ⟨rfl, rfl, rfl, rfl, rfl, rfl, trivial⟩, hm.pick [0, 1, 2, 3] (by decide) rfl⟩
              ·
                replace hq3_1 := (ite_f h4_1).symm.trans hq3_1
                refine cond_f hf rfl h4_1 ?_
                refine wp_skip ?_
                refine x_then_n ?_
                refine wp_seq ?_
                refine wp_tree (.p 0 (.p 1 (.p 3 (.p 9 (.p 10 (.p 11 (.p 14 (.p 16 (.q 2 (.p 4 (.p 5 (.q 6 (.p 7 (.q 8 (.q 12 (.p 13 (.e 15 (.p 17 (.e 18 (.e 19 (.p 20 (.p 21 .fin)) .nil) .nil)) .nil))))))))))))))))) [2, 6, 8, 12, 15, 18, 19] [0, 1, 3, 4, 5, 7, 9, 10, 11, 13, 14, 16, 17, 20, 21] (fun w => Mem w0 (hp w0) w [blk b0_1 [(.int .i64 (f.params)), (.int .i64 (f.slots)), (.slice p0_1 f.ins.length c0_1)] 35, ow [(.slice p2_1 xs2_1.1.length c2_1)] xs2_1.1, ow [(.slice p2_2 r2_1.1.length c2_2)] r2_1.1, ow [(.slice p2_3 ys2_1.length c2_3)] xs3_1.2]) (by kernel_rfl) (by kernel_rfl) (fun _ _ _ h => h.2) ?_
                replace hm := hm.drew
                have hS : Mem w0 (hp w0) _ [blk b0_1 [(.int .i64 (f.params)), (.int .i64 (f.slots)), (.slice p0_1 f.ins.length c0_1)] 35, ow [(.slice p2_1 xs2_1.1.length c2_1)] xs2_1.1, ow [(.slice p2_2 r2_1.1.length c2_2)] r2_1.1, ow [(.slice p2_3 ys2_1.length c2_3)] xs3_1.2] := hm.pick [0, 1, 2, 3] (by decide) rfl
                refine td_p hf rfl rfl rfl rfl (fun w => y_move rfl rfl) ?_
                clear hf a; intro a hf
                refine td_p hf rfl rfl rfl rfl (fun w => y_fieldAddr fo_35_2 rfl rfl) ?_
                clear hf a; intro a hf
                refine td_p hf rfl rfl rfl rfl (fun w => y_move rfl rfl) ?_
                clear hf a; intro a hf
                refine td_p hf rfl rfl rfl rfl (fun w => y_move rfl rfl) ?_
                clear hf a; intro a hf
                refine td_p hf rfl rfl rfl rfl (fun w => y_move rfl rfl) ?_
                clear hf a; intro a hf
                obtain ⟨x4_1, hx4_1, hq3_1⟩ := bnd hq3_1
                obtain ⟨h4_2, hx4_2⟩ := getI_some.1 hx4_1
                obtain ⟨b4_1, o4_1, c4_1, he⟩ := idx_form (hm.ow_rep 2 rfl) hx4_2
                simp only [Value.slice.injEq, Option.some.injEq] at he; obtain ⟨rfl, _, rfl⟩ := he
                refine td_p hf rfl rfl rfl rfl (fun w => y_indexAddr st_46 rfl rfl rfl h4_2 (idx_lt hx4_2)) ?_
                clear hf a; intro a hf
                refine td_p hf rfl rfl rfl rfl (fun w => y_fieldAddr fo_35_2 rfl rfl) ?_
                clear hf a; intro a hf
                refine td_p hf rfl rfl rfl rfl (fun w => y_move rfl rfl) ?_
                clear hf a; intro a hf
                refine td_y hf rfl rfl rfl rfl hS (fun w hm => y_load1 Tryd.isAgg33 rfl rfl (hm.blk_cell 0 rfl rfl)) ?_
                clear hf a; intro a hf
                obtain ⟨x4_2, hx4_3, hq3_1⟩ := bnd hq3_1
                obtain ⟨h4_3, hx4_4⟩ := getI_some.1 hx4_3
                obtain ⟨b4_2, o4_2, c4_2, he⟩ := idx_form h1 hx4_4
                simp only [Value.slice.injEq, Option.some.injEq] at he; obtain ⟨rfl, _, rfl⟩ := he
                refine td_p hf rfl rfl rfl rfl (fun w => y_indexAddr st_33 rfl rfl rfl h4_3 (idx_lt hx4_4)) ?_
                clear hf a; intro a hf
                refine td_p hf rfl rfl rfl rfl (fun w => y_fieldAddr fo_27_4 rfl rfl) ?_
                clear hf a; intro a hf
                refine td_y hf rfl rfl rfl rfl hS (fun w hm => y_load1 Tryd.isAgg3 rfl rfl ((flat_cells (cs := [(.int .i64 (x4_2.op)), (.int .i64 (x4_2.a_)), (.int .i64 (x4_2.b)), (.int .i64 (x4_2.c)), (.int .i64 (x4_2.n_))]) (hm.now h1) hx4_4 rfl).cell (j := 4) rfl)) ?_
                clear hf a; intro a hf
                obtain ⟨x4_3, hx4_5, hq3_1⟩ := bnd hq3_1
                obtain ⟨h4_4, hx4_6⟩ := getI_some.1 hx4_5
                refine td_p hf rfl rfl rfl rfl (fun w => y_indexAddr st_46 rfl rfl rfl h4_4 (idx_lt hx4_6)) ?_
                clear hf a; intro a hf
                refine td_y hf rfl rfl rfl rfl hS (fun w hm => y_load1 Tryd.isAgg3 rfl rfl ((flat_cells (cs := [(.int .i64 (x4_3))]) (hm.ow_rep 2 rfl) hx4_6 rfl).cell (j := 0) rfl)) ?_
                clear hf a; intro a hf
                refine td_y hf rfl rfl rfl rfl hS (fun w hm => y_load1 Tryd.isAgg3 rfl rfl ((flat_cells (cs := [(.int .i64 (x4_1))]) (hm.ow_rep 2 rfl) hx4_2 rfl).cell (j := 0) rfl)) ?_
                clear hf a; intro a hf
                refine td_p hf rfl rfl rfl rfl (fun w => y_subw rfl rfl rfl) ?_
                clear hf a; intro a hf
                refine te_one ?_
                refine td_ef hf rfl rfl rfl rfl (ef_y hf (y_load1 Tryd.isAgg33 rfl rfl (hm.blk_cell 0 rfl rfl))) ?_
                clear hf a; rintro _ _ a ⟨rfl, rfl⟩ hf
                refine ⟨fun _ => hS, ?_⟩
                refine td_p hf rfl rfl rfl rfl (fun w => y_indexAddr st_33 rfl rfl rfl h4_3 (idx_lt hx4_4)) ?_
                clear hf a; intro a hf
                refine te_one ?_
                refine td_ef hf rfl rfl rfl rfl (ef_y hf (y_loadN (cs := [(.int .i64 (x4_2.op)), (.int .i64 (x4_2.a_)), (.int .i64 (x4_2.b)), (.int .i64 (x4_2.c)), (.int .i64 (x4_2.n_))]) Tryd.isAgg27 Tryd.sizeOf27 rfl rfl (flat_cells (cs := [(.int .i64 (x4_2.op)), (.int .i64 (x4_2.a_)), (.int .i64 (x4_2.b)), (.int .i64 (x4_2.c)), (.int .i64 (x4_2.n_))]) (hm.now h1) hx4_4 rfl))) ?_
                clear hf a; rintro _ _ a ⟨rfl, rfl⟩ hf
                refine ⟨fun _ => hS, ?_⟩
                refine te_one ?_
                obtain ⟨r4_1, hx4_7, hq3_1⟩ := bnd hq3_1
                refine td_ef hf rfl rfl rfl rfl (e_call hf rfl Tryd.call57 rfl (spec_l25Size_ok _ x4_2 false _ hx4_7)) ?_
                clear hf a; rintro v4_1 w4_1 a ho4_1 hf
                obtain ⟨rfl, hB⟩ := ho4_1
                replace hm := hm.below' hB; clear hB
                clear hS
                have hS : Mem w0 (hp w0) _ [blk b0_1 [(.int .i64 (f.params)), (.int .i64 (f.slots)), (.slice (some ⟨b4_2, o4_2, none⟩) f.ins.length c0_1)] 35, ow [(.slice p2_1 xs2_1.1.length c2_1)] xs2_1.1, ow [(.slice (some ⟨b4_1, o4_1, none⟩) r2_1.1.length c2_2)] r2_1.1, ow [(.slice p2_3 ys2_1.length c2_3)] xs3_1.2] := hm.pick [0, 1, 2, 3] (by decide) rfl
                refine ⟨fun _ => hS, ?_⟩
                refine td_p hf rfl rfl rfl rfl (fun w => y_subw rfl rfl rfl) ?_
                clear hf a; intro a hf
                refine td_p hf rfl rfl rfl rfl (fun w => y_assign rfl rfl) ?_
                clear hf a; intro a hf
                clear hS; refine td_end ?_
                refine x_then_n ?_
                refine wp_seq ?_
                refine wp_region_lit ?_
                refine st_y hf rfl rfl rfl (y_move rfl rfl) ?_
                clear hf a; intro a hf
                obtain ⟨r4_2, hx4_8, hq3_1⟩ := bnd hq3_1
                refine st_ef hf rfl rfl rfl (e_call hf rfl Tryd.call39 rfl (spec_l1In_ok _ (w64 ((w64 (x4_3 - x4_1)) - r4_1)) (-128) 127 _ hx4_8)) ?_
                clear hf a; rintro v4_2 w4_2 a ho4_2 hf
                obtain ⟨rfl, hB⟩ := ho4_2
                replace hm := hm.below' hB; clear hB
                refine st_y hf rfl rfl rfl (y_not rfl rfl) ?_
                clear hf a; intro a hf
                refine st_end ?_
                refine x_then_n ?_
                obtain ⟨s4_2, hq4_2, hq3_1⟩ := bnd hq3_1
                refine code_cut (K := fun a w => Fr 73 [(1, (.pointer (some ⟨b0_1, 0, none⟩))), (3, (.slice p2_1 xs2_1.1.length c2_1)), (4, (.bool (s4_2.1))), (5, (.slice (some ⟨b4_1, o4_1, none⟩) r2_1.1.length c2_2)), (7, (.slice p2_3 ys2_1.length c2_3)), (8, (.int .i64 (i3_1)))] a ∧ Mem w0 (hp w0) w [blk b0_1 [(.int .i64 (f.params)), (.int .i64 (f.slots)), (.slice (some ⟨b4_2, o4_2, none⟩) f.ins.length c0_1)] 35, ow [(.slice p2_1 xs2_1.1.length c2_1)] xs2_1.1, ow [(.slice (some ⟨b4_1, o4_1, none⟩) r2_1.1.length c2_2)] r2_1.1, ow [(.slice p2_3 ys2_1.length c2_3)] s4_2.2]) ?_ ?_
                ·
                  rcases bcases (!(r4_2)) with h5_6 | h5_6
                  ·
                    replace hq4_2 := (ite_t h5_6).symm.trans hq4_2
                    have h5_7 := bnot_t' h5_6
                    refine cond_t hf rfl h5_6 ?_
                    refine wp_seq ?_
                    refine wp_region_lit ?_
                    refine st_y hf rfl rfl rfl (y_move rfl rfl) ?_
                    clear hf a; intro a hf
                    refine st_y hf rfl rfl rfl (y_move rfl rfl) ?_
                    clear hf a; intro a hf
                    obtain ⟨x5_3, hx5_6, hq4_2⟩ := bnd hq4_2
                    obtain ⟨h5_8, hx5_7⟩ := getI_some.1 hx5_6
                    obtain ⟨b5_3, o5_3, c5_3, he⟩ := idx_form (hm.ow_rep 3 rfl) hx5_7
                    simp only [Value.slice.injEq, Option.some.injEq] at he; obtain ⟨rfl, _, rfl⟩ := he
                    have hL5_1 := rep_slice_len (hm.ow_rep 3 rfl)
                    refine st_y hf rfl rfl rfl (y_indexAddr st_68 rfl rfl rfl h5_8 (idx_lt2 hx5_7 hL5_1)) ?_
                    clear hf a; intro a hf
                    refine st_ef0 hf rfl rfl (e_setElem (x1 := true) (j := 0) (vs := [(.bool (true))]) 3 hf hm rfl hx5_7 rfl Tryd.sizeOf4 rfl rfl rfl (one_cons rfl one_nil) rfl rfl) ?_
                    clear hf a; rintro _ w5_2 a hm hf
                    have hx5_8 := List.getElem?_set_self (a := true) (idx_lt hx5_7)
                    refine st_end ?_
                    refine x_then_n ?_
                    refine wp_region_lit ?_
                    refine st_y hf rfl rfl rfl (y_assign rfl rfl) ?_
                    clear hf a; intro a hf
                    refine st_end ?_
                    refine x_then_n ?_
                    obtain rfl := Option.some.inj hq4_2
                    exact ⟨hf.sub ⟨rfl, rfl, rfl, rfl, rfl, rfl, trivial⟩, hm.pick [0, 1, 2, 3] (by decide) rfl⟩
                  ·
                    replace hq4_2 := (ite_f h5_6).symm.trans hq4_2
                    have h5_9 := bnot_f' h5_6
                    refine cond_f hf rfl h5_6 ?_
                    refine wp_skip ?_
                    refine x_then_n ?_
                    obtain rfl := Option.some.inj hq4_2
                    exact ⟨hf.sub ⟨rfl, rfl, rfl, rfl, rfl, rfl, trivial⟩, hm.pick [0, 1, 2, 3] (by decide) rfl⟩
                ·
                  clear hf hm
                  rintro a w ⟨hf, hm⟩
                  refine x_blk_n ?_
                  refine x_then_n ?_
                  obtain rfl := Option.some.inj hq3_1
                  exact ⟨hf.sub ⟨rfl, rfl, rfl, rfl, rfl, rfl, trivial⟩, hm.pick [0, 1, 2, 3] (by decide) rfl⟩
          ·
            clear hf hm
            rintro a w ⟨hf, hm⟩
            refine x_then_n ?_
            refine wp_region_lit ?_
            refine st_y hf rfl rfl rfl (y_move rfl rfl) ?_
            clear hf a; intro a hf
            refine st_y hf rfl rfl rfl (y_add64 rfl rfl rfl (by omega) (by omega)) ?_
            clear hf a; intro a hf
            refine st_y hf rfl rfl rfl (y_assign rfl rfl) ?_
            clear hf a; intro a hf
            refine st_end ?_
            refine x_then_n ?_
            obtain rfl := Option.some.inj hb2_1
            exact ⟨_, rfl, hf.sub ⟨rfl, rfl, rfl, rfl, rfl, rfl, trivial⟩, hm.pick [0, 1, 2, 3] (by decide) rfl⟩
        ·
          clear hf hm
          rintro i2_2 xs2_2 a w ⟨hf, hm⟩ hi2_1 hi2_2 rfl
          replace hb1_1 := sum_l hb1_1
          refine wp_seq ?_
          refine wp_seq ?_
          refine wp_region_lit ?_
          refine st_y hf rfl rfl rfl (y_move rfl rfl) ?_
          clear hf a; intro a hf
          refine st_y hf rfl rfl rfl (y_fieldAddr fo_35_2 rfl rfl) ?_
          clear hf a; intro a hf
          refine st_y hf rfl rfl rfl (y_load1 Tryd.isAgg33 rfl rfl (hm.blk_cell 0 rfl rfl)) ?_
          clear hf a; intro a hf
          refine st_y hf rfl rfl rfl (y_len_slice st_33.und rfl rfl) ?_
          clear hf a; intro a hf
          refine st_y hf rfl rfl rfl (y_lss rfl rfl rfl) ?_
          clear hf a; intro a hf
          refine st_end ?_
          refine x_then_n ?_
          refine cond_f hf rfl (decide_eq_false (by omega)) ?_
          refine wp_exit ?_
          refine x_then_exit ?_
          refine x_then_exit ?_
          refine x_blk_hit ?_
          refine x_then_n ?_
          refine wp_region_lit ?_
          refine st_y hf rfl rfl rfl (y_move rfl rfl) ?_
          clear hf a; intro a hf
          refine st_y hf rfl rfl rfl (y_assign rfl rfl) ?_
          clear hf a; intro a hf
          refine st_end ?_
          refine x_blk_n ?_
          refine x_then_n ?_
          obtain rfl := Option.some.inj hb1_1
          exact ⟨_, rfl, (.slice p2_3 ys2_1.length c2_3), hf.sub ⟨rfl, rfl, rfl, trivial⟩, hm.pick [0, 3] (by decide) rfl⟩
      ·
        replace hb1_1 := (ite_f h2_1).symm.trans hb1_1
        refine cond_f hf rfl h2_1 ?_
        refine wp_exit ?_
        refine x_then_exit ?_
        refine x_then_exit ?_
        refine x_blk_hit ?_
        refine x_then_n ?_
        obtain rfl := Option.some.inj hb1_1
        obtain rfl := ho1_1 _ rfl
        obtain rfl := Option.some.inj hq0_1
        exact ⟨v2_1, hf.sub ⟨rfl, trivial⟩, hm.pick [1] (by decide) rfl⟩
  ·
    clear hf hm
    rintro a w ⟨v0_2, hf, hm⟩
    refine x_then_n ?_
    refine wp_seq ?_
    refine wp_region_lit ?_
    refine st_y hf rfl rfl rfl (y_move rfl rfl) ?_
    clear hf a; intro a hf
    refine st_y hf rfl rfl rfl (y_assign rfl rfl) ?_
    clear hf a; intro a hf
    refine st_end ?_
    refine x_then_n ?_
    refine wp_ret ?_
    obtain rfl := Option.some.inj hq
    refine ret_tmp hf Tryd.results52 rfl ?_
    exact ⟨v0_2, rfl, hm.pick [0] (by decide) rfl⟩

theorem spec_l25Can_ok (w0 : World) (f : Mfn) (v1 : Value) (h1 : GT.rep (hp w0) [v1] f.ins) (r : Bool) (hq : spec_l25Can f = some r) :
    Con Tryd.prog 50 [(.agg #[(.int .i64 (f.params)), (.int .i64 (f.slots)), v1])] w0 (fun v w' => v = (.bool (r)) ∧ Below w0.heap.size w0 w') := by
  unfold spec_l25Can at hq
  refine con_body (l := [(0, (.agg #[(.int .i64 (f.params)), (.int .i64 (f.slots)), v1]))]) Tryd.func50 rfl Tryd.ntmps50 (Args.get ⟨rfl, trivial⟩) rfl ?_
  intro a hf
  have hm := Mem.start w0
  refine wp_seq ?_
  refine wp_region_lit ?_
  refine st_ef hf rfl rfl rfl (e_box hf hm rfl rfl rfl) ?_
  clear hf a; rintro _ w0_1 a ⟨b0_1, rfl, hm⟩ hf
  refine st_y hf rfl rfl rfl (y_assign rfl rfl) ?_
  clear hf a; intro a hf
  refine st_end ?_
  refine x_then_n ?_
  refine wp_seq ?_
  refine wp_seq ?_
  refine wp_region_lit ?_
  refine st_y hf rfl rfl rfl (y_loadN (cs := [(.int .i64 (f.params)), (.int .i64 (f.slots)), v1]) Tryd.isAgg35 Tryd.sizeOf35 rfl rfl (hm.blk_at 0 rfl)) ?_
  clear hf a; intro a hf
  obtain ⟨r0_1, hx0_1, hq⟩ := bnd hq
  refine st_ef hf rfl rfl rfl (e_call hf rfl Tryd.call73 rfl (spec_l25Alone_ok _ _ hm.lez f v1 h1  _ hx0_1)) ?_
  clear hf a; rintro v0_1 w0_2 a ho0_1 hf
  obtain ⟨v0_2, hz0_1, rfl, hle0_1, hB⟩ := ho0_1
  replace hm := Mem.giveA hm hle0_1 hB; clear hB
  obtain ⟨r0_2, hx0_2, hq⟩ := bnd hq
  refine st_ef hf rfl rfl rfl (e_call hf rfl Tryd.call72 rfl (spec_MachValid_ok _ r0_1 v0_2 (sh_read (Heap.le_trans (Heap.le_refl _) hm.lez) (hm.ow_rep 0 rfl)) _ hx0_2)) ?_
  clear hf a; rintro v0_3 w0_3 a ho0_2 hf
  obtain ⟨rfl, hB⟩ := ho0_2
  replace hm := hm.below' hB; clear hB
  refine st_y hf rfl rfl rfl (y_not rfl rfl) ?_
  clear hf a; intro a hf
  refine st_end ?_
  refine x_then_n ?_
  rcases bcases (!(r0_2)) with h0_1 | h0_1
  ·
    replace hq := (ite_t h0_1).symm.trans hq
    have h0_2 := bnot_t' h0_1
    refine cond_t hf rfl h0_1 ?_
    refine wp_seq ?_
    refine wp_region_lit ?_
    refine st_y hf rfl rfl rfl (y_assign rfl rfl) ?_
    clear hf a; intro a hf
    refine st_end ?_
    refine x_then_n ?_
    refine wp_ret ?_
    refine x_then_ret ?_
    obtain rfl := Option.some.inj hq
    replace hm := hm.thaw hle0_1
    refine ret_tmp hf Tryd.results50 rfl ?_
    exact ⟨rfl, hm.below⟩
  ·
    replace hq := (ite_f h0_1).symm.trans hq
    have h0_3 := bnot_f' h0_1
    refine cond_f hf rfl h0_1 ?_
    refine wp_skip ?_
    refine x_then_n ?_
    refine wp_seq ?_
    refine wp_tree (.q 0 (.e 1 (.e 2 (.e 3 (.p 4 (.p 5 (.p 6 (.p 7 (.p 8 .fin))))) .nil) .nil) .nil)) [1, 2] [4, 5, 6, 7, 8] (fun w => Mem w0 hz0_1 w [ow (α := List (Sh hz0_1 Mfn)) [v0_2] r0_1.fns, blk b0_1 [(.int .i64 (f.params)), (.int .i64 (f.slots)), v1] 35]) (by kernel_rfl) (by kernel_rfl) (fun _ _ _ h => h.2) ?_
    replace hm := hm.drew
    have hS : Mem w0 hz0_1 _ [ow (α := List (Sh hz0_1 Mfn)) [v0_2] r0_1.fns, blk b0_1 [(.int .i64 (f.params)), (.int .i64 (f.slots)), v1] 35] := hm.pick [0, 1] (by decide) rfl
    refine td_y hf rfl rfl rfl rfl hS (fun w hm => y_loadN (cs := [(.int .i64 (f.params)), (.int .i64 (f.slots)), v1]) Tryd.isAgg35 Tryd.sizeOf35 rfl rfl (hm.blk_at 1 rfl)) ?_
    clear hf a; intro a hf
    refine te_one ?_
    refine td_ef hf rfl rfl rfl rfl (ef_y hf (y_loadN (cs := [(.int .i64 (f.params)), (.int .i64 (f.slots)), v1]) Tryd.isAgg35 Tryd.sizeOf35 rfl rfl (hm.blk_at 1 rfl))) ?_
    clear hf a; rintro _ _ a ⟨rfl, rfl⟩ hf
    refine ⟨fun _ => hS, ?_⟩
    refine te_one ?_
    obtain ⟨r0_3, hx0_3, hq⟩ := bnd hq
    refine td_ef hf rfl rfl rfl rfl (e_call hf rfl Tryd.call52 rfl (spec_l25Long_ok _ f v1 (hm.now (GT.mono hle0_1 h1)) _ hx0_3)) ?_
    clear hf a; rintro v0_4 w0_4 a ho0_3 hf
    obtain ⟨_, rfl, hB⟩ := ho0_3
    replace hm := hm.give hB; clear hB
    clear hS
    have hS : Mem w0 hz0_1 _ [ow (α := List (Sh hz0_1 Mfn)) [v0_2] r0_1.fns, blk b0_1 [(.int .i64 (f.params)), (.int .i64 (f.slots)), v1] 35] := hm.pick [1, 2] (by decide) rfl
    refine ⟨fun _ => hS, ?_⟩
    refine te_one ?_
    obtain ⟨r0_4, hx0_4, hq⟩ := bnd hq
    refine td_ef hf rfl rfl rfl rfl (e_call hf rfl Tryd.call55 rfl (spec_l25Places_ok _ f v1 (hm.now (GT.mono hle0_1 h1)) r0_3 v0_4 (hm.ow_rep 0 rfl) _ hx0_4)) ?_
    clear hf a; rintro v0_6 w0_5 a ho0_4 hf
    obtain ⟨v0_7, rfl, hB⟩ := ho0_4
    replace hm := hm.give hB; clear hB
    refine ⟨fun h => absurd h (by decide), ?_⟩
    refine td_p hf rfl rfl rfl rfl (fun w => y_move rfl rfl) ?_
    clear hf a; intro a hf
    refine td_p hf rfl rfl rfl rfl (fun w => y_extract rfl rfl rfl) ?_
    clear hf a; intro a hf
    refine td_p hf rfl rfl rfl rfl (fun w => y_extract rfl rfl rfl) ?_
    clear hf a; intro a hf
    refine td_p hf rfl rfl rfl rfl (fun w => y_assign rfl rfl) ?_
    clear hf a; intro a hf
    refine td_p hf rfl rfl rfl rfl (fun w => y_assign rfl rfl) ?_
    clear hf a; intro a hf
    clear hS; refine td_end ?_
    refine x_then_n ?_
    refine wp_seq ?_
    refine wp_region_lit ?_
    refine st_y hf rfl rfl rfl (y_move rfl rfl) ?_
    clear hf a; intro a hf
    refine st_y hf rfl rfl rfl (y_leq rfl rfl rfl) ?_
    clear hf a; intro a hf
    refine st_y hf rfl rfl rfl (y_assign rfl rfl) ?_
    clear hf a; intro a hf
    refine st_end ?_
    refine x_then_n ?_
    refine wp_ret ?_
    obtain rfl := Option.some.inj hq
    replace hm := hm.thaw hle0_1
    refine ret_tmp hf Tryd.results50 rfl ?_
    exact ⟨rfl, hm.below⟩

theorem spec_EncodeFn_ok (w0 : World) (f : Mfn) (v1 : Value) (h1 : GT.rep (hp w0) [v1] f.ins) (r : (List UInt8) × Bool) (hq : spec_EncodeFn f = some r) :
    Con Tryd.prog 31 [(.agg #[(.int .i64 (f.params)), (.int .i64 (f.slots)), v1])] w0 (fun v w' => ∃ (x1 : Value), v = (.tuple #[x1, (.bool (r.2))]) ∧ Mem w0 (hp w0) w' [ow [x1] r.1]) := by
  unfold spec_EncodeFn at hq
  refine con_body (l := [(0, (.agg #[(.int .i64 (f.params)), (.int .i64 (f.slots)), v1]))]) Tryd.func31 rfl Tryd.ntmps31 (Args.get ⟨rfl, trivial⟩) rfl ?_
  intro a hf
  have hm := Mem.start w0
  refine wp_seq ?_
  refine wp_region_lit ?_
  refine st_ef hf rfl rfl rfl (e_box hf hm rfl rfl rfl) ?_
  clear hf a; rintro _ w0_1 a ⟨b0_1, rfl, hm⟩ hf
  refine st_y hf rfl rfl rfl (y_assign rfl rfl) ?_
  clear hf a; intro a hf
  refine st_y hf rfl rfl rfl (y_assign rfl rfl) ?_
  clear hf a; intro a hf
  refine st_end ?_
  refine x_then_n ?_
  refine wp_seq ?_
  refine wp_region_lit ?_
  refine st_ef hf rfl rfl rfl (e_build0 (α := UInt8) et_24 hm rfl) ?_
  clear hf a; rintro v0_1 w0_2 a hm hf
  refine st_y hf rfl rfl rfl (y_assign rfl rfl) ?_
  clear hf a; intro a hf
  refine st_end ?_
  refine x_then_n ?_
  refine wp_seq ?_
  refine wp_seq ?_
  refine wp_region_lit ?_
  refine st_y hf rfl rfl rfl (y_loadN (cs := [(.int .i64 (f.params)), (.int .i64 (f.slots)), v1]) Tryd.isAgg35 Tryd.sizeOf35 rfl rfl (hm.blk_at 1 rfl)) ?_
  clear hf a; intro a hf
  obtain ⟨r0_1, hx0_1, hq⟩ := bnd hq
  refine st_ef hf rfl rfl rfl (e_call hf rfl Tryd.call50 rfl (spec_l25Can_ok _ f v1 (hm.now h1) _ hx0_1)) ?_
  clear hf a; rintro v0_2 w0_3 a ho0_1 hf
  obtain ⟨rfl, hB⟩ := ho0_1
  replace hm := hm.below' hB; clear hB
  refine st_y hf rfl rfl rfl (y_not rfl rfl) ?_
  clear hf a; intro a hf
  refine st_end ?_
  refine x_then_n ?_
  rcases bcases (!(r0_1)) with h0_1 | h0_1
  ·
    replace hq := (ite_t h0_1).symm.trans hq
    have h0_2 := bnot_t' h0_1
    refine cond_t hf rfl h0_1 ?_
    refine wp_seq ?_
    refine wp_region_lit ?_
    refine st_y hf rfl rfl rfl (y_move rfl rfl) ?_
    clear hf a; intro a hf
    refine st_y hf rfl rfl rfl (y_assign rfl rfl) ?_
    clear hf a; intro a hf
    refine st_y hf rfl rfl rfl (y_assign rfl rfl) ?_
    clear hf a; intro a hf
    refine st_end ?_
    refine x_then_n ?_
    refine wp_ret ?_
    refine x_then_ret ?_
    obtain rfl := Option.some.inj hq
    refine ret_tmp2 hf Tryd.results31 rfl rfl ?_
    exact ⟨v0_1, rfl, hm.pick [0] (by decide) rfl⟩
  ·
    replace hq := (ite_f h0_1).symm.trans hq
    have h0_3 := bnot_f' h0_1
    refine cond_f hf rfl h0_1 ?_
    refine wp_skip ?_
    refine x_then_n ?_
    refine wp_seq ?_
    refine wp_region_lit ?_
    refine st_y hf rfl rfl rfl (y_loadN (cs := [(.int .i64 (f.params)), (.int .i64 (f.slots)), v1]) Tryd.isAgg35 Tryd.sizeOf35 rfl rfl (hm.blk_at 1 rfl)) ?_
    clear hf a; intro a hf
    obtain ⟨r0_2, hx0_2, hq⟩ := bnd hq
    refine st_ef hf rfl rfl rfl (e_call hf rfl Tryd.call52 rfl (spec_l25Long_ok _ f v1 (hm.now h1) _ hx0_2)) ?_
    clear hf a; rintro v0_3 w0_4 a ho0_2 hf
    obtain ⟨_, rfl, hB⟩ := ho0_2
    replace hm := hm.give hB; clear hB
    refine st_y hf rfl rfl rfl (y_assign rfl rfl) ?_
    clear hf a; intro a hf
    refine st_end ?_
    refine x_then_n ?_
    refine wp_seq ?_
    refine wp_region_lit ?_
    refine st_y hf rfl rfl rfl (y_loadN (cs := [(.int .i64 (f.params)), (.int .i64 (f.slots)), v1]) Tryd.isAgg35 Tryd.sizeOf35 rfl rfl (hm.blk_at 2 rfl)) ?_
    clear hf a; intro a hf
    refine st_y hf rfl rfl rfl (y_move rfl rfl) ?_
    clear hf a; intro a hf
    obtain ⟨r0_3, hx0_3, hq⟩ := bnd hq
    refine st_ef hf rfl rfl rfl (e_call hf rfl Tryd.call55 rfl (spec_l25Places_ok _ f v1 (hm.now h1) r0_2 v0_3 (hm.ow_rep 0 rfl) _ hx0_3)) ?_
    clear hf a; rintro v0_5 w0_5 a ho0_3 hf
    obtain ⟨v0_6, rfl, hB⟩ := ho0_3
    replace hm := hm.give hB; clear hB
    refine st_y hf rfl rfl rfl (y_move rfl rfl) ?_
    clear hf a; intro a hf
    refine st_y hf rfl rfl rfl (y_extract rfl rfl rfl) ?_
    clear hf a; intro a hf
    refine st_y hf rfl rfl rfl (y_extract rfl rfl rfl) ?_
    clear hf a; intro a hf
    refine st_y hf rfl rfl rfl (y_assign rfl rfl) ?_
    clear hf a; intro a hf
    refine st_y hf rfl rfl rfl (y_assign rfl rfl) ?_
    clear hf a; intro a hf
    refine st_end ?_
    refine x_then_n ?_
    refine wp_seq ?_
    refine wp_seq ?_
    refine wp_region_lit ?_
    refine st_y hf rfl rfl rfl (y_assign rfl rfl) ?_
    clear hf a; intro a hf
    refine st_end ?_
    refine x_then_n ?_
    obtain ⟨p0_1, c0_1, he, hl0_1⟩ := ro_slice (hm.ow_rep 2 rfl)
    subst he
    obtain ⟨p0_2, c0_2, he, hl0_2⟩ := ro_slice (hm.ow_rep 1 rfl)
    subst he
    obtain ⟨p0_3, c0_3, he, hl0_3⟩ := ro_slice (hm.ow_rep 0 rfl)
    subst he
    refine wp_block ?_
    obtain ⟨r0_4, hl0_4, hq⟩ := bnd hq
    refine wp_forN _ (fun i1_1 xs1_1 a w => ∃ (v1_1 : Value), Fr 98 [(1, (.pointer (some ⟨b0_1, 0, none⟩))), (4, v1_1), (5, (.slice p0_2 r0_2.length c0_2)), (6, (.slice p0_3 r0_3.1.length c0_3)), (8, (.int .i64 (i1_1)))] a ∧ Mem w0 (hp w0) w [blk b0_1 [(.int .i64 (f.params)), (.int .i64 (f.slots)), v1] 35, ow [v1_1] xs1_1, ow [(.slice p0_2 r0_2.length c0_2)] r0_2, ow [(.slice p0_3 r0_3.1.length c0_3)] r0_3.1]) (0) ((f.ins.length : Int)) hl0_4 ?_ ?_ ?_
    ·
      exact ⟨(.slice p0_1 ([] : List UInt8).length c0_1), hf.sub ⟨rfl, rfl, rfl, rfl, rfl, trivial⟩, hm.pick [3, 2, 1, 0] (by decide) rfl⟩
    ·
      clear hf hm
      rintro i1_1 xs1_1 a w ⟨v1_1, hf, hm⟩ hi1_1 hi1_2 q0_1 hb0_1 ho0_4
      refine wp_seq ?_
      refine wp_seq ?_
      refine wp_region_lit ?_
      refine st_y hf rfl rfl rfl (y_move rfl rfl) ?_
      clear hf a; intro a hf
      refine st_y hf rfl rfl rfl (y_fieldAddr fo_35_2 rfl rfl) ?_
      clear hf a; intro a hf
      refine st_y hf rfl rfl rfl (y_load1 Tryd.isAgg33 rfl rfl (hm.blk_cell 0 rfl rfl)) ?_
      clear hf a; intro a hf
      obtain ⟨p1_1, c1_1, he, hl1_1⟩ := ro_slice h1
      subst he
      refine st_y hf rfl rfl rfl (y_len_slice st_33.und rfl rfl) ?_
      clear hf a; intro a hf
      refine st_y hf rfl rfl rfl (y_lss rfl rfl rfl) ?_
      clear hf a; intro a hf
      refine st_end ?_
      refine x_then_n ?_
      refine cond_t hf rfl (decide_eq_true (by omega)) ?_
      refine wp_skip ?_
      refine x_then_n ?_
      refine wp_seq ?_
      obtain ⟨s1_1, hq1_1, hb0_1⟩ := bnd hb0_1
      refine code_cut (K := fun a w => ∃ (v1_2 : Value), Fr 98 [(1, (.pointer (some ⟨b0_1, 0, none⟩))), (4, v1_2), (5, (.slice p0_2 r0_2.length c0_2)), (6, (.slice p0_3 r0_3.1.length c0_3)), (8, (.int .i64 (i1_1)))] a ∧ Mem w0 (hp w0) w [blk b0_1 [(.int .i64 (f.params)), (.int .i64 (f.slots)), (.slice p1_1 f.ins.length c1_1)] 35, ow [v1_2] s1_1, ow [(.slice p0_2 r0_2.length c0_2)] r0_2, ow [(.slice p0_3 r0_3.1.length c0_3)] r0_3.1]) ?_ ?_
      ·
        refine wp_block ?_
        refine wp_seq ?_
        refine wp_region_lit ?_
        refine st_y hf rfl rfl rfl (y_fieldAddr fo_35_2 rfl rfl) ?_
        clear hf a; intro a hf
        refine st_y hf rfl rfl rfl (y_load1 Tryd.isAgg33 rfl rfl (hm.blk_cell 0 rfl rfl)) ?_
        clear hf a; intro a hf
        refine st_y hf rfl rfl rfl (y_move rfl rfl) ?_
        clear hf a; intro a hf
        obtain ⟨x2_1, hx2_1, hq1_1⟩ := bnd hq1_1
        obtain ⟨h2_1, hx2_2⟩ := getI_some.1 hx2_1
        obtain ⟨b2_1, o2_1, c2_1, he⟩ := idx_form h1 hx2_2
        simp only [Value.slice.injEq, Option.some.injEq] at he; obtain ⟨rfl, _, rfl⟩ := he
        refine st_y hf rfl rfl rfl (y_indexAddr st_33 rfl rfl rfl h2_1 (idx_lt hx2_2)) ?_
        clear hf a; intro a hf
        refine st_y hf rfl rfl rfl (y_loadN (cs := [(.int .i64 (x2_1.op)), (.int .i64 (x2_1.a_)), (.int .i64 (x2_1.b)), (.int .i64 (x2_1.c)), (.int .i64 (x2_1.n_))]) Tryd.isAgg27 Tryd.sizeOf27 rfl rfl (flat_cells (cs := [(.int .i64 (x2_1.op)), (.int .i64 (x2_1.a_)), (.int .i64 (x2_1.b)), (.int .i64 (x2_1.c)), (.int .i64 (x2_1.n_))]) (hm.now h1) hx2_2 rfl)) ?_
        clear hf a; intro a hf
        refine st_ef hf rfl rfl rfl (e_alloc hm Tryd.zeroValue27 rfl rfl) ?_
        clear hf a; rintro _ w2_1 a ⟨b2_2, rfl, hm⟩ hf
        refine st_ef0 hf rfl rfl (e_storeN 0 hf hm rfl Tryd.sizeOf27 rfl rfl rfl (one_cons rfl (one_cons rfl (one_cons rfl (one_cons rfl (one_cons rfl one_nil))))) rfl rfl) ?_
        clear hf a; rintro _ w2_2 a hm hf
        refine st_end ?_
        refine x_then_n ?_
        refine wp_seq ?_
        refine wp_seq ?_
        refine wp_region_lit ?_
        refine st_y hf rfl rfl rfl (y_loadN (cs := [(.int .i64 (x2_1.op)), (.int .i64 (x2_1.a_)), (.int .i64 (x2_1.b)), (.int .i64 (x2_1.c)), (.int .i64 (x2_1.n_))]) Tryd.isAgg27 Tryd.sizeOf27 rfl rfl (hm.blk_at 0 rfl)) ?_
        clear hf a; intro a hf
        obtain ⟨r2_1, hx2_3, hq1_1⟩ := bnd hq1_1
        refine st_ef hf rfl rfl rfl (e_call hf rfl Tryd.call37 rfl (spec_l24Jumps_ok _ x2_1 _ hx2_3)) ?_
        clear hf a; rintro v2_1 w2_3 a ho2_1 hf
        obtain ⟨rfl, hB⟩ := ho2_1
        replace hm := hm.below' hB; clear hB
        refine st_y hf rfl rfl rfl (y_not rfl rfl) ?_
        clear hf a; intro a hf
        refine st_end ?_
        refine x_then_n ?_
        rcases bcases (!(r2_1)) with h2_2 | h2_2
        ·
          replace hq1_1 := (ite_t h2_2).symm.trans hq1_1
          have h2_3 := bnot_t' h2_2
          refine cond_t hf rfl h2_2 ?_
          refine wp_seq ?_
          refine wp_region_lit ?_
          refine st_y hf rfl rfl rfl (y_move rfl rfl) ?_
          clear hf a; intro a hf
          refine st_y hf rfl rfl rfl (y_loadN (cs := [(.int .i64 (x2_1.op)), (.int .i64 (x2_1.a_)), (.int .i64 (x2_1.b)), (.int .i64 (x2_1.c)), (.int .i64 (x2_1.n_))]) Tryd.isAgg27 Tryd.sizeOf27 rfl rfl (hm.blk_at 0 rfl)) ?_
          clear hf a; intro a hf
          obtain ⟨r2_2, hx2_4, hq1_1⟩ := bnd hq1_1
          refine st_ef hf rfl rfl rfl (e_call hf rfl Tryd.call40 rfl (spec_l25Plain_ok _ x2_1 _ hx2_4)) ?_
          clear hf a; rintro v2_2 w2_4 a ho2_2 hf
          obtain ⟨_, rfl, hB⟩ := ho2_2
          replace hm := hm.give hB; clear hB
          obtain ⟨ys2_1, hx2_5, hq1_1⟩ := bnd hq1_1
          obtain ⟨h2_4, h2_4e⟩ := appM_some.1 hx2_5
          refine st_ef hf rfl rfl rfl (e_append 3 et_24 hf hm rfl (hm.ow_rep 0 rfl) rfl rfl rfl h2_4) ?_
          clear hf a; rintro v2_4 w2_5 a hm hf
          rw [h2_4e] at hm
          refine st_y hf rfl rfl rfl (y_assign rfl rfl) ?_
          clear hf a; intro a hf
          refine st_end ?_
          refine x_then_n ?_
          refine wp_exit ?_
          refine x_then_exit ?_
          refine x_blk_hit ?_
          refine x_then_n ?_
          obtain rfl := Option.some.inj hq1_1
          exact ⟨v2_4, hf.sub ⟨rfl, rfl, rfl, rfl, rfl, trivial⟩, hm.pick [2, 3, 4, 5] (by decide) rfl⟩
        ·
          replace hq1_1 := (ite_f h2_2).symm.trans hq1_1
          have h2_5 := bnot_f' h2_2
          refine cond_f hf rfl h2_2 ?_
          refine wp_skip ?_
          refine x_then_n ?_
          refine wp_seq ?_
          refine wp_region_lit ?_
          refine st_y hf rfl rfl rfl (y_move rfl rfl) ?_
          clear hf a; intro a hf
          refine st_y hf rfl rfl rfl (y_fieldAddr fo_27_4 rfl rfl) ?_
          clear hf a; intro a hf
          refine st_y hf rfl rfl rfl (y_load1 Tryd.isAgg3 rfl rfl (hm.blk_cell 0 rfl rfl)) ?_
          clear hf a; intro a hf
          obtain ⟨x2_2, hx2_6, hq1_1⟩ := bnd hq1_1
          obtain ⟨h2_6, hx2_7⟩ := getI_some.1 hx2_6
          obtain ⟨b2_3, o2_2, c2_2, he⟩ := idx_form (hm.ow_rep 4 rfl) hx2_7
          simp only [Value.slice.injEq, Option.some.injEq] at he; obtain ⟨rfl, _, rfl⟩ := he
          refine st_y hf rfl rfl rfl (y_indexAddr st_46 rfl rfl rfl h2_6 (idx_lt hx2_7)) ?_
          clear hf a; intro a hf
          refine st_y hf rfl rfl rfl (y_load1 Tryd.isAgg3 rfl rfl ((flat_cells (cs := [(.int .i64 (x2_2))]) (hm.ow_rep 4 rfl) hx2_7 rfl).cell (j := 0) rfl)) ?_
          clear hf a; intro a hf
          refine st_y hf rfl rfl rfl (y_assign rfl rfl) ?_
          clear hf a; intro a hf
          refine st_end ?_
          refine x_then_n ?_
          refine wp_seq ?_
          refine wp_tree (.p 0 (.p 1 (.p 3 (.p 4 (.p 5 (.q 2 (.e 6 (.e 7 (.p 8 (.p 9 (.p 10 (.e 11 (.e 12 (.p 13 .fin) .nil) .nil)))) .nil) .nil))))))) [6, 7] [0, 1, 3, 4, 5, 8, 9, 10, 13] (fun w => Mem w0 (hp w0) w [blk b2_2 [(.int .i64 (x2_1.op)), (.int .i64 (x2_1.a_)), (.int .i64 (x2_1.b)), (.int .i64 (x2_1.c)), (.int .i64 (x2_1.n_))] 27, blk b0_1 [(.int .i64 (f.params)), (.int .i64 (f.slots)), (.slice (some ⟨b2_1, o2_1, none⟩) f.ins.length c1_1)] 35, ow [v1_1] xs1_1, ow [(.slice p0_2 r0_2.length c0_2)] r0_2, ow [(.slice (some ⟨b2_3, o2_2, none⟩) r0_3.1.length c0_3)] r0_3.1]) (by kernel_rfl) (by kernel_rfl) (fun _ _ _ h => h.2) ?_
          replace hm := hm.drew
          have hS : Mem w0 (hp w0) _ [blk b2_2 [(.int .i64 (x2_1.op)), (.int .i64 (x2_1.a_)), (.int .i64 (x2_1.b)), (.int .i64 (x2_1.c)), (.int .i64 (x2_1.n_))] 27, blk b0_1 [(.int .i64 (f.params)), (.int .i64 (f.slots)), (.slice (some ⟨b2_1, o2_1, none⟩) f.ins.length c1_1)] 35, ow [v1_1] xs1_1, ow [(.slice p0_2 r0_2.length c0_2)] r0_2, ow [(.slice (some ⟨b2_3, o2_2, none⟩) r0_3.1.length c0_3)] r0_3.1] := hm.pick [0, 1, 2, 3, 4] (by decide) rfl
          refine td_p hf rfl rfl rfl rfl (fun w => y_move rfl rfl) ?_
          clear hf a; intro a hf
          refine td_p hf rfl rfl rfl rfl (fun w => y_fieldAddr fo_27_0 rfl rfl) ?_
          clear hf a; intro a hf
          refine td_p hf rfl rfl rfl rfl (fun w => y_move rfl rfl) ?_
          clear hf a; intro a hf
          refine td_p hf rfl rfl rfl rfl (fun w => y_move rfl rfl) ?_
          clear hf a; intro a hf
          obtain ⟨x2_3, hx2_8, hq1_1⟩ := bnd hq1_1
          obtain ⟨h2_7, hx2_9⟩ := getI_some.1 hx2_8
          obtain ⟨b2_4, o2_3, c2_3, he⟩ := idx_form (hm.ow_rep 3 rfl) hx2_9
          simp only [Value.slice.injEq, Option.some.injEq] at he; obtain ⟨rfl, _, rfl⟩ := he
          refine td_p hf rfl rfl rfl rfl (fun w => y_indexAddr st_68 rfl rfl rfl h2_7 (idx_lt hx2_9)) ?_
          clear hf a; intro a hf
          refine td_y hf rfl rfl rfl rfl hS (fun w hm => y_load1 Tryd.isAgg3 rfl rfl (hm.blk_cell 0 rfl rfl)) ?_
          clear hf a; intro a hf
          refine te_one ?_
          refine td_ef hf rfl rfl rfl rfl (ef_y hf (y_load1 Tryd.isAgg4 rfl rfl ((flat_cells (cs := [(.bool (x2_3))]) (hm.ow_rep 3 rfl) hx2_9 rfl).cell (j := 0) rfl))) ?_
          clear hf a; rintro _ _ a ⟨rfl, rfl⟩ hf
          refine ⟨fun _ => hS, ?_⟩
          refine te_one ?_
          obtain ⟨r2_3, hx2_10, hq1_1⟩ := bnd hq1_1
          refine td_ef hf rfl rfl rfl rfl (e_call hf rfl Tryd.call58 rfl (spec_l5Truth_ok _ x2_3 _ hx2_10)) ?_
          clear hf a; rintro v2_5 w2_6 a ho2_3 hf
          obtain ⟨rfl, hB⟩ := ho2_3
          replace hm := hm.below' hB; clear hB
          clear hS
          have hS : Mem w0 (hp w0) _ [blk b2_2 [(.int .i64 (x2_1.op)), (.int .i64 (x2_1.a_)), (.int .i64 (x2_1.b)), (.int .i64 (x2_1.c)), (.int .i64 (x2_1.n_))] 27, blk b0_1 [(.int .i64 (f.params)), (.int .i64 (f.slots)), (.slice (some ⟨b2_1, o2_1, none⟩) f.ins.length c1_1)] 35, ow [v1_1] xs1_1, ow [(.slice (some ⟨b2_4, o2_3, none⟩) r0_2.length c0_2)] r0_2, ow [(.slice (some ⟨b2_3, o2_2, none⟩) r0_3.1.length c0_3)] r0_3.1] := hm.pick [0, 1, 2, 3, 4] (by decide) rfl
          refine ⟨fun _ => hS, ?_⟩
          refine td_p hf rfl rfl rfl rfl (fun w => y_mulw rfl rfl rfl) ?_
          clear hf a; intro a hf
          refine td_p hf rfl rfl rfl rfl (fun w => y_addw rfl rfl rfl) ?_
          clear hf a; intro a hf
          refine td_p hf rfl rfl rfl rfl (fun w => y_conv8 Tryd.underlying3 Tryd.underlying5 rfl rfl) ?_
          clear hf a; intro a hf
          refine te_one ?_
          refine td_ef hf rfl rfl rfl rfl (e_build (vs := #[(0, (.int .u8 (((byteI (w64 (x2_1.op + (w64 (128 * r2_3)))))).toNat : Int)))]) (cs := [(.int .u8 (((byteI (w64 (x2_1.op + (w64 (128 * r2_3)))))).toNat : Int))]) et_24 hf hm rfl rfl (by kernel_rfl) rfl rfl) ?_
          clear hf a; rintro _ w2_7 a ⟨b2_5, rfl, hm⟩ hf
          replace hm := hm.lit (xs := ([(byteI (w64 (x2_1.op + (w64 (128 * r2_3)))))] : List UInt8)) 0 rfl rfl rfl rfl
          refine ⟨fun h => absurd h (by decide), ?_⟩
          refine te_one ?_
          obtain ⟨ys2_2, hx2_11, hq1_1⟩ := bnd hq1_1
          obtain ⟨h2_8, h2_8e⟩ := appM_some.1 hx2_11
          refine td_ef hf rfl rfl rfl rfl (e_append 3 et_24 hf hm rfl (hm.ow_rep 0 rfl) rfl rfl rfl h2_8) ?_
          clear hf a; rintro v2_6 w2_8 a hm hf
          rw [h2_8e] at hm
          refine ⟨fun h => absurd h (by decide), ?_⟩
          refine td_p hf rfl rfl rfl rfl (fun w => y_assign rfl rfl) ?_
          clear hf a; intro a hf
          clear hS; refine td_end ?_
          refine x_then_n ?_
          refine wp_seq ?_
          refine wp_seq ?_
          refine wp_region_lit ?_
          refine st_y hf rfl rfl rfl (y_fieldAddr fo_27_0 rfl rfl) ?_
          clear hf a; intro a hf
          refine st_y hf rfl rfl rfl (y_load1 Tryd.isAgg3 rfl rfl (hm.blk_cell 1 rfl rfl)) ?_
          clear hf a; intro a hf
          refine st_y hf rfl rfl rfl (y_eql rfl rfl rfl) ?_
          clear hf a; intro a hf
          refine st_end ?_
          refine x_then_n ?_
          obtain ⟨s2_1, hq2_1, hq1_1⟩ := bnd hq1_1
          refine code_cut (K := fun a w => ∃ (v2_7 : Value), Fr 98 [(1, (.pointer (some ⟨b0_1, 0, none⟩))), (4, v2_7), (5, (.slice (some ⟨b2_4, o2_3, none⟩) r0_2.length c0_2)), (6, (.slice (some ⟨b2_3, o2_2, none⟩) r0_3.1.length c0_3)), (8, (.int .i64 (i1_1))), (9, (.pointer (some ⟨b2_2, 0, none⟩))), (10, (.int .i64 (x2_2)))] a ∧ Mem w0 (hp w0) w [blk b0_1 [(.int .i64 (f.params)), (.int .i64 (f.slots)), (.slice (some ⟨b2_1, o2_1, none⟩) f.ins.length c1_1)] 35, ow [v2_7] s2_1, ow [(.slice (some ⟨b2_4, o2_3, none⟩) r0_2.length c0_2)] r0_2, ow [(.slice (some ⟨b2_3, o2_2, none⟩) r0_3.1.length c0_3)] r0_3.1, blk b2_2 [(.int .i64 (x2_1.op)), (.int .i64 (x2_1.a_)), (.int .i64 (x2_1.b)), (.int .i64 (x2_1.c)), (.int .i64 (x2_1.n_))] 27]) ?_ ?_
          ·
            rcases bcases (decide (x2_1.op = 21)) with h3_1 | h3_1
            ·
              replace hq2_1 := (ite_t h3_1).symm.trans hq2_1
              have h3_2 := of_decide_eq_true h3_1
              refine cond_t hf rfl h3_1 ?_
              refine wp_region_lit ?_
              refine st_y hf rfl rfl rfl (y_move rfl rfl) ?_
              clear hf a; intro a hf
              refine st_y hf rfl rfl rfl (y_fieldAddr fo_27_1 rfl rfl) ?_
              clear hf a; intro a hf
              refine st_y hf rfl rfl rfl (y_load1 Tryd.isAgg3 rfl rfl (hm.blk_cell 1 rfl rfl)) ?_
              clear hf a; intro a hf
              refine st_y hf rfl rfl rfl (y_conv8 Tryd.underlying3 Tryd.underlying5 rfl rfl) ?_
              clear hf a; intro a hf
              refine st_ef hf rfl rfl rfl (e_build (vs := #[(0, (.int .u8 (((byteI x2_1.a_)).toNat : Int)))]) (cs := [(.int .u8 (((byteI x2_1.a_)).toNat : Int))]) et_24 hf hm rfl rfl (by kernel_rfl) rfl rfl) ?_
              clear hf a; rintro _ w3_1 a ⟨b3_1, rfl, hm⟩ hf
              replace hm := hm.lit (xs := ([(byteI x2_1.a_)] : List UInt8)) 0 rfl rfl rfl rfl
              obtain ⟨ys3_1, hx3_1, hq2_1⟩ := bnd hq2_1
              obtain ⟨h3_3, h3_3e⟩ := appM_some.1 hx3_1
              refine st_ef hf rfl rfl rfl (e_append 4 et_24 hf hm rfl (hm.ow_rep 0 rfl) rfl rfl rfl h3_3) ?_
              clear hf a; rintro v3_1 w3_2 a hm hf
              rw [h3_3e] at hm
              refine st_y hf rfl rfl rfl (y_assign rfl rfl) ?_
              clear hf a; intro a hf
              refine st_end ?_
              refine x_then_n ?_
              obtain rfl := Option.some.inj hq2_1
              exact ⟨v3_1, hf.sub ⟨rfl, rfl, rfl, rfl, rfl, rfl, rfl, trivial⟩, hm.pick [3, 4, 5, 6, 2] (by decide) rfl⟩
            ·
              replace hq2_1 := (ite_f h3_1).symm.trans hq2_1
              have h3_4 := of_decide_eq_false h3_1
              refine cond_f hf rfl h3_1 ?_
              refine wp_skip ?_
              refine x_then_n ?_
              obtain rfl := Option.some.inj hq2_1
              exact ⟨v2_6, hf.sub ⟨rfl, rfl, rfl, rfl, rfl, rfl, rfl, trivial⟩, hm.pick [2, 3, 4, 5, 1] (by decide) rfl⟩
          ·
            clear hf hm
            rintro a w ⟨v2_7, hf, hm⟩
            refine x_then_n ?_
            refine wp_seq ?_
            refine wp_region_lit ?_
            refine st_y hf rfl rfl rfl (y_move rfl rfl) ?_
            clear hf a; intro a hf
            refine st_y hf rfl rfl rfl (y_move rfl rfl) ?_
            clear hf a; intro a hf
            obtain ⟨x2_4, hx2_12, hq1_1⟩ := bnd hq1_1
            obtain ⟨h2_9, hx2_13⟩ := getI_some.1 hx2_12
            refine st_y hf rfl rfl rfl (y_indexAddr st_68 rfl rfl rfl h2_9 (idx_lt hx2_13)) ?_
            clear hf a; intro a hf
            refine st_y hf rfl rfl rfl (y_load1 Tryd.isAgg4 rfl rfl ((flat_cells (cs := [(.bool (x2_4))]) (hm.ow_rep 2 rfl) hx2_13 rfl).cell (j := 0) rfl)) ?_
            clear hf a; intro a hf
            refine st_end ?_
            refine x_then_n ?_
            obtain ⟨s2_2, hq2_2, hq1_1⟩ := bnd hq1_1
            refine code_cut (K := fun a w => ∃ (v2_8 : Value), Fr 98 [(1, (.pointer (some ⟨b0_1, 0, none⟩))), (4, v2_8), (5, (.slice (some ⟨b2_4, o2_3, none⟩) r0_2.length c0_2)), (6, (.slice (some ⟨b2_3, o2_2, none⟩) r0_3.1.length c0_3)), (8, (.int .i64 (i1_1)))] a ∧ Mem w0 (hp w0) w [blk b0_1 [(.int .i64 (f.params)), (.int .i64 (f.slots)), (.slice (some ⟨b2_1, o2_1, none⟩) f.ins.length c1_1)] 35, ow [v2_8] s2_2, ow [(.slice (some ⟨b2_4, o2_3, none⟩) r0_2.length c0_2)] r0_2, ow [(.slice (some ⟨b2_3, o2_2, none⟩) r0_3.1.length c0_3)] r0_3.1]) ?_ ?_
            ·
              rcases bcases (x2_4) with h3_5 | h3_5
              ·
                replace hq2_2 := (ite_t h3_5).symm.trans hq2_2
                refine cond_t hf rfl h3_5 ?_
                refine wp_region_lit ?_
                refine st_y hf rfl rfl rfl (y_move rfl rfl) ?_
                clear hf a; intro a hf
                refine st_y hf rfl rfl rfl (y_move rfl rfl) ?_
                clear hf a; intro a hf
                refine st_y hf rfl rfl rfl (y_rem rfl rfl rfl (by decide)) ?_
                clear hf a; intro a hf
                refine st_y hf rfl rfl rfl (y_conv8 Tryd.underlying3 Tryd.underlying5 rfl rfl) ?_
                clear hf a; intro a hf
                refine st_y hf rfl rfl rfl (y_move rfl rfl) ?_
                clear hf a; intro a hf
                refine st_y hf rfl rfl rfl (y_quo rfl rfl rfl (by decide)) ?_
                clear hf a; intro a hf
                refine st_y hf rfl rfl rfl (y_conv8 Tryd.underlying3 Tryd.underlying5 rfl rfl) ?_
                clear hf a; intro a hf
                refine st_ef hf rfl rfl rfl (e_build (vs := #[(0, (.int .u8 (((byteI (x2_2.tmod 256))).toNat : Int))), (1, (.int .u8 (((byteI (w64 (x2_2.tdiv 256)))).toNat : Int)))]) (cs := [(.int .u8 (((byteI (x2_2.tmod 256))).toNat : Int)), (.int .u8 (((byteI (w64 (x2_2.tdiv 256)))).toNat : Int))]) et_24 hf hm rfl rfl (by kernel_rfl) rfl rfl) ?_
                clear hf a; rintro _ w3_3 a ⟨b3_2, rfl, hm⟩ hf
                replace hm := hm.lit (xs := ([(byteI (x2_2.tmod 256)), (byteI (w64 (x2_2.tdiv 256)))] : List UInt8)) 0 rfl rfl rfl rfl
                obtain ⟨ys3_2, hx3_2, hq2_2⟩ := bnd hq2_2
                obtain ⟨h3_6, h3_6e⟩ := appM_some.1 hx3_2
                refine st_ef hf rfl rfl rfl (e_append 2 et_24 hf hm rfl (hm.ow_rep 0 rfl) rfl rfl rfl h3_6) ?_
                clear hf a; rintro v3_2 w3_4 a hm hf
                rw [h3_6e] at hm
                refine st_y hf rfl rfl rfl (y_assign rfl rfl) ?_
                clear hf a; intro a hf
                refine st_end ?_
                refine x_then_n ?_
                obtain rfl := Option.some.inj hq2_2
                exact ⟨v3_2, hf.sub ⟨rfl, rfl, rfl, rfl, rfl, trivial⟩, hm.pick [1, 2, 3, 4] (by decide) rfl⟩
              ·
                replace hq2_2 := (ite_f h3_5).symm.trans hq2_2
                refine cond_f hf rfl h3_5 ?_
                refine wp_tree (.p 0 (.p 1 (.p 2 (.p 3 (.p 4 (.q 5 (.p 6 (.e 7 (.e 8 (.p 9 (.p 10 (.p 11 (.e 12 (.e 13 (.p 14 .fin) .nil) .nil)))) .nil) .nil)))))))) [7, 8] [0, 1, 2, 3, 4, 6, 9, 10, 11, 14] (fun w => Mem w0 (hp w0) w [blk b0_1 [(.int .i64 (f.params)), (.int .i64 (f.slots)), (.slice (some ⟨b2_1, o2_1, none⟩) f.ins.length c1_1)] 35, ow [v2_7] s2_1, ow [(.slice (some ⟨b2_4, o2_3, none⟩) r0_2.length c0_2)] r0_2, ow [(.slice (some ⟨b2_3, o2_2, none⟩) r0_3.1.length c0_3)] r0_3.1, blk b2_2 [(.int .i64 (x2_1.op)), (.int .i64 (x2_1.a_)), (.int .i64 (x2_1.b)), (.int .i64 (x2_1.c)), (.int .i64 (x2_1.n_))] 27]) (by kernel_rfl) (by kernel_rfl) (fun _ _ _ h => h.2) ?_
                replace hm := hm.drew
                have hS : Mem w0 (hp w0) _ [blk b0_1 [(.int .i64 (f.params)), (.int .i64 (f.slots)), (.slice (some ⟨b2_1, o2_1, none⟩) f.ins.length c1_1)] 35, ow [v2_7] s2_1, ow [(.slice (some ⟨b2_4, o2_3, none⟩) r0_2.length c0_2)] r0_2, ow [(.slice (some ⟨b2_3, o2_2, none⟩) r0_3.1.length c0_3)] r0_3.1, blk b2_2 [(.int .i64 (x2_1.op)), (.int .i64 (x2_1.a_)), (.int .i64 (x2_1.b)), (.int .i64 (x2_1.c)), (.int .i64 (x2_1.n_))] 27] := hm.pick [0, 1, 2, 3, 4] (by decide) rfl
                refine td_p hf rfl rfl rfl rfl (fun w => y_move rfl rfl) ?_
                clear hf a; intro a hf
                refine td_p hf rfl rfl rfl rfl (fun w => y_move rfl rfl) ?_
                clear hf a; intro a hf
                refine td_p hf rfl rfl rfl rfl (fun w => y_move rfl rfl) ?_
                clear hf a; intro a hf
                refine td_p hf rfl rfl rfl rfl (fun w => y_move rfl rfl) ?_
                clear hf a; intro a hf
                obtain ⟨x3_1, hx3_3, hq2_2⟩ := bnd hq2_2
                obtain ⟨h3_7, hx3_4⟩ := getI_some.1 hx3_3
                refine td_p hf rfl rfl rfl rfl (fun w => y_indexAddr st_46 rfl rfl rfl h3_7 (idx_lt hx3_4)) ?_
                clear hf a; intro a hf
                refine td_y hf rfl rfl rfl rfl hS (fun w hm => y_load1 Tryd.isAgg3 rfl rfl ((flat_cells (cs := [(.int .i64 (x3_1))]) (hm.ow_rep 3 rfl) hx3_4 rfl).cell (j := 0) rfl)) ?_
                clear hf a; intro a hf
                refine td_p hf rfl rfl rfl rfl (fun w => y_subw rfl rfl rfl) ?_
                clear hf a; intro a hf
                refine te_one ?_
                refine td_ef hf rfl rfl rfl rfl (ef_y hf (y_loadN (cs := [(.int .i64 (x2_1.op)), (.int .i64 (x2_1.a_)), (.int .i64 (x2_1.b)), (.int .i64 (x2_1.c)), (.int .i64 (x2_1.n_))]) Tryd.isAgg27 Tryd.sizeOf27 rfl rfl (hm.blk_at 4 rfl))) ?_
                clear hf a; rintro _ _ a ⟨rfl, rfl⟩ hf
                refine ⟨fun _ => hS, ?_⟩
                refine te_one ?_
                obtain ⟨r3_1, hx3_5, hq2_2⟩ := bnd hq2_2
                refine td_ef hf rfl rfl rfl rfl (e_call hf rfl Tryd.call57 rfl (spec_l25Size_ok _ x2_1 false _ hx3_5)) ?_
                clear hf a; rintro v3_3 w3_5 a ho3_1 hf
                obtain ⟨rfl, hB⟩ := ho3_1
                replace hm := hm.below' hB; clear hB
                clear hS
                have hS : Mem w0 (hp w0) _ [blk b0_1 [(.int .i64 (f.params)), (.int .i64 (f.slots)), (.slice (some ⟨b2_1, o2_1, none⟩) f.ins.length c1_1)] 35, ow [v2_7] s2_1, ow [(.slice (some ⟨b2_4, o2_3, none⟩) r0_2.length c0_2)] r0_2, ow [(.slice (some ⟨b2_3, o2_2, none⟩) r0_3.1.length c0_3)] r0_3.1, blk b2_2 [(.int .i64 (x2_1.op)), (.int .i64 (x2_1.a_)), (.int .i64 (x2_1.b)), (.int .i64 (x2_1.c)), (.int .i64 (x2_1.n_))] 27] := hm.pick [0, 1, 2, 3, 4] (by decide) rfl
                refine ⟨fun _ => hS, ?_⟩
                refine td_p hf rfl rfl rfl rfl (fun w => y_subw rfl rfl rfl) ?_
                clear hf a; intro a hf
                refine td_p hf rfl rfl rfl rfl (fun w => y_addw rfl rfl rfl) ?_
                clear hf a; intro a hf
                refine td_p hf rfl rfl rfl rfl (fun w => y_conv8 Tryd.underlying3 Tryd.underlying5 rfl rfl) ?_
                clear hf a; intro a hf
                refine te_one ?_
                refine td_ef hf rfl rfl rfl rfl (e_build (vs := #[(0, (.int .u8 (((byteI (w64 ((w64 ((w64 (x2_2 - x3_1)) - r3_1)) + 256)))).toNat : Int)))]) (cs := [(.int .u8 (((byteI (w64 ((w64 ((w64 (x2_2 - x3_1)) - r3_1)) + 256)))).toNat : Int))]) et_24 hf hm rfl rfl (by kernel_rfl) rfl rfl) ?_
                clear hf a; rintro _ w3_6 a ⟨b3_3, rfl, hm⟩ hf
                replace hm := hm.lit (xs := ([(byteI (w64 ((w64 ((w64 (x2_2 - x3_1)) - r3_1)) + 256)))] : List UInt8)) 0 rfl rfl rfl rfl
                refine ⟨fun h => absurd h (by decide), ?_⟩
                refine te_one ?_
                obtain ⟨ys3_3, hx3_6, hq2_2⟩ := bnd hq2_2
                obtain ⟨h3_8, h3_8e⟩ := appM_some.1 hx3_6
                refine td_ef hf rfl rfl rfl rfl (e_append 2 et_24 hf hm rfl (hm.ow_rep 0 rfl) rfl rfl rfl h3_8) ?_
                clear hf a; rintro v3_4 w3_7 a hm hf
                rw [h3_8e] at hm
                refine ⟨fun h => absurd h (by decide), ?_⟩
                refine td_p hf rfl rfl rfl rfl (fun w => y_assign rfl rfl) ?_
                clear hf a; intro a hf
                clear hS; refine td_end ?_
                refine x_then_n ?_
                obtain rfl := Option.some.inj hq2_2
                exact ⟨v3_4, hf.sub ⟨rfl, rfl, rfl, rfl, rfl, trivial⟩, hm.pick [1, 2, 3, 4] (by decide) rfl⟩
            ·
              clear hf hm
              rintro a w ⟨v2_8, hf, hm⟩
              refine x_blk_n ?_
              refine x_then_n ?_
              obtain rfl := Option.some.inj hq1_1
              exact ⟨v2_8, hf.sub ⟨rfl, rfl, rfl, rfl, rfl, trivial⟩, hm.pick [0, 1, 2, 3] (by decide) rfl⟩
      ·
        clear hf hm
        rintro a w ⟨v1_2, hf, hm⟩
        refine x_then_n ?_
        refine wp_region_lit ?_
        refine st_y hf rfl rfl rfl (y_move rfl rfl) ?_
        clear hf a; intro a hf
        refine st_y hf rfl rfl rfl (y_add64 rfl rfl rfl (by omega) (by omega)) ?_
        clear hf a; intro a hf
        refine st_y hf rfl rfl rfl (y_assign rfl rfl) ?_
        clear hf a; intro a hf
        refine st_end ?_
        refine x_then_n ?_
        obtain rfl := Option.some.inj hb0_1
        exact ⟨_, rfl, v1_2, hf.sub ⟨rfl, rfl, rfl, rfl, rfl, trivial⟩, hm.pick [0, 1, 2, 3] (by decide) rfl⟩
    ·
      clear hf hm
      rintro i0_1 xs0_1 a w ⟨v0_7, hf, hm⟩ hi0_1 hi0_2 rfl
      replace hq := sum_l hq
      refine wp_seq ?_
      refine wp_seq ?_
      refine wp_region_lit ?_
      refine st_y hf rfl rfl rfl (y_move rfl rfl) ?_
      clear hf a; intro a hf
      refine st_y hf rfl rfl rfl (y_fieldAddr fo_35_2 rfl rfl) ?_
      clear hf a; intro a hf
      refine st_y hf rfl rfl rfl (y_load1 Tryd.isAgg33 rfl rfl (hm.blk_cell 0 rfl rfl)) ?_
      clear hf a; intro a hf
      obtain ⟨p0_4, c0_4, he, hl0_5⟩ := ro_slice h1
      subst he
      refine st_y hf rfl rfl rfl (y_len_slice st_33.und rfl rfl) ?_
      clear hf a; intro a hf
      refine st_y hf rfl rfl rfl (y_lss rfl rfl rfl) ?_
      clear hf a; intro a hf
      refine st_end ?_
      refine x_then_n ?_
      refine cond_f hf rfl (decide_eq_false (by omega)) ?_
      refine wp_exit ?_
      refine x_then_exit ?_
      refine x_then_exit ?_
      refine x_blk_hit ?_
      refine x_then_n ?_
      refine wp_seq ?_
      refine wp_region_lit ?_
      refine st_y hf rfl rfl rfl (y_move rfl rfl) ?_
      clear hf a; intro a hf
      refine st_y hf rfl rfl rfl (y_assign rfl rfl) ?_
      clear hf a; intro a hf
      refine st_y hf rfl rfl rfl (y_assign rfl rfl) ?_
      clear hf a; intro a hf
      refine st_end ?_
      refine x_then_n ?_
      refine wp_ret ?_
      obtain rfl := Option.some.inj hq
      refine ret_tmp2 hf Tryd.results31 rfl rfl ?_
      exact ⟨v0_7, rfl, hm.pick [1] (by decide) rfl⟩

theorem spec_DecodeFn_ok (w0 : World) (params : Int) (slots : Int) (code : List UInt8) (v1 : Value) (h1 : GT.rep (hp w0) [v1] code) (r : Mfn × Bool) (hq : spec_DecodeFn params slots code = some r) :
    Con Tryd.prog 32 [(.int .i64 (params)), (.int .i64 (slots)), v1] w0 (fun v w' => ∃ (x1 : Value), v = (.tuple #[(.agg #[(.int .i64 (r.1.params)), (.int .i64 (r.1.slots)), x1]), (.bool (r.2))]) ∧ Mem w0 (hp w0) w' [ow [x1] r.1.ins]) := by
  unfold spec_DecodeFn at hq
  refine con_body (l := [(0, (.int .i64 (params))), (1, (.int .i64 (slots))), (2, v1)]) Tryd.func32 rfl Tryd.ntmps32 (Args.get ⟨rfl, rfl, rfl, trivial⟩) rfl ?_
  intro a hf
  have hm := Mem.start w0
  refine wp_seq ?_
  refine wp_region_lit ?_
  refine st_ef hf rfl rfl rfl (e_alloc hm Tryd.zeroValue35 rfl rfl) ?_
  clear hf a; rintro _ w0_1 a ⟨b0_1, rfl, hm⟩ hf
  refine st_y hf rfl rfl rfl (y_assign rfl rfl) ?_
  clear hf a; intro a hf
  refine st_end ?_
  refine x_then_n ?_
  refine wp_seq ?_
  refine wp_region_lit ?_
  refine st_y hf rfl rfl rfl (y_move rfl rfl) ?_
  clear hf a; intro a hf
  refine st_y hf rfl rfl rfl (y_move rfl rfl) ?_
  clear hf a; intro a hf
  refine st_y hf rfl rfl rfl (y_build (vs := [(0, (.int .i64 (params))), (1, (.int .i64 (slots)))]) (cs := #[(.int .i64 (params)), (.int .i64 (slots)), (.slice none 0 0)]) rfl rfl (by kernel_rfl)) ?_
  clear hf a; intro a hf
  refine st_ef hf rfl rfl rfl (e_alloc hm Tryd.zeroValue35 rfl rfl) ?_
  clear hf a; rintro _ w0_2 a ⟨b0_2, rfl, hm⟩ hf
  refine st_ef0 hf rfl rfl (e_storeN 0 hf hm rfl Tryd.sizeOf35 rfl rfl rfl (one_cons rfl (one_cons rfl (one_cons rfl one_nil))) rfl rfl) ?_
  clear hf a; rintro _ w0_3 a hm hf
  refine st_end ?_
  refine x_then_n ?_
  refine wp_seq ?_
  refine wp_region_lit ?_
  refine st_ef hf rfl rfl rfl (e_build0 (α := Int) et_46 hm rfl) ?_
  clear hf a; rintro v0_1 w0_4 a hm hf
  refine st_y hf rfl rfl rfl (y_assign rfl rfl) ?_
  clear hf a; intro a hf
  refine st_end ?_
  refine x_then_n ?_
  refine wp_seq ?_
  refine wp_seq ?_
  refine wp_region_lit ?_
  refine st_y hf rfl rfl rfl (y_assign rfl rfl) ?_
  clear hf a; intro a hf
  refine st_end ?_
  refine x_then_n ?_
  obtain ⟨p0_1, c0_1, he, hl0_1⟩ := ro_slice (hm.ow_rep 0 rfl)
  subst he
  obtain ⟨c0_2, hq0_1, hq⟩ := bnd hq
  refine code_cut (K := fun a w => ∃ s0_1, c0_2 = .inl s0_1 ∧ ∃ (v0_2 : Value) (v0_3 : Value), Fr 95 [(2, v1), (6, (.pointer (some ⟨b0_1, 0, none⟩))), (8, (.pointer (some ⟨b0_2, 0, none⟩))), (9, v0_3)] a ∧ Mem w0 (hp w0) w [blk b0_1 [(.int .i64 (0)), (.int .i64 (0)), (.slice none 0 0)] 35, blk b0_2 [(.int .i64 (params)), (.int .i64 (slots)), v0_2] 35, ow [v0_2] s0_1.1, ow [v0_3] s0_1.2]) ?_ ?_
  ·
    refine wp_block ?_
    obtain ⟨r1_1, hl1_1, hq0_1⟩ := bnd hq0_1
    refine wp_loopM _ (fun xs2_1 a w => ∃ (v2_1 : Value) (v2_2 : Value), Fr 95 [(2, v1), (6, (.pointer (some ⟨b0_1, 0, none⟩))), (8, (.pointer (some ⟨b0_2, 0, none⟩))), (9, v2_2), (10, (.int .i64 (xs2_1.2.2)))] a ∧ Mem w0 (hp w0) w [blk b0_1 [(.int .i64 (0)), (.int .i64 (0)), (.slice none 0 0)] 35, blk b0_2 [(.int .i64 (params)), (.int .i64 (slots)), v2_1] 35, ow [v2_1] xs2_1.1, ow [v2_2] xs2_1.2.1]) hl1_1 ?_ ?_
    ·
      have hm := hm.nilow (α := Mins)
      exact ⟨(.slice none 0 0), (.slice p0_1 ([] : List Int).length c0_1), hf.sub ⟨rfl, rfl, rfl, rfl, rfl, trivial⟩, hm.pick [3, 2, 0, 1] (by decide) rfl⟩
    ·
      clear hf hm
      rintro xs2_1 a w q1_1 ⟨v2_1, v2_2, hf, hm⟩ hb1_1 ho1_1
      refine wp_seq ?_
      refine wp_seq ?_
      obtain ⟨s2_1, hq2_1, hb1_1⟩ := bnd hb1_1
      refine code_cut (K := fun a w => Fr 95 [(2, v1), (6, (.pointer (some ⟨b0_1, 0, none⟩))), (8, (.pointer (some ⟨b0_2, 0, none⟩))), (9, v2_2), (10, (.int .i64 (xs2_1.2.2))), (29, (.bool (s2_1)))] a ∧ Mem w0 (hp w0) w [blk b0_1 [(.int .i64 (0)), (.int .i64 (0)), (.slice none 0 0)] 35, blk b0_2 [(.int .i64 (params)), (.int .i64 (slots)), v2_1] 35, ow [v2_1] xs2_1.1, ow [v2_2] xs2_1.2.1]) ?_ ?_
      ·
        refine wp_region_lit ?_
        refine st_y hf rfl rfl rfl (y_move rfl rfl) ?_
        clear hf a; intro a hf
        refine st_y hf rfl rfl rfl (y_move rfl rfl) ?_
        clear hf a; intro a hf
        obtain ⟨p3_1, c3_1, he, hl3_1⟩ := ro_slice h1
        subst he
        refine st_y hf rfl rfl rfl (y_len_slice st_24.und rfl rfl) ?_
        clear hf a; intro a hf
        refine st_y hf rfl rfl rfl (y_lss rfl rfl rfl) ?_
        clear hf a; intro a hf
        refine st_y hf rfl rfl rfl (y_move rfl rfl) ?_
        clear hf a; intro a hf
        rcases bcases (decide (xs2_1.2.2 < ((code.length : Int)))) with h3_1 | h3_1
        ·
          replace hq2_1 := (ite_t h3_1).symm.trans hq2_1
          have h3_2 := of_decide_eq_true h3_1
          refine st_yg hf rfl rfl (lk_b rfl h3_1) rfl rfl (y_move rfl rfl) ?_
          clear hf a; intro a hf
          refine st_yg hf rfl rfl (lk_b rfl h3_1) rfl rfl (y_len_slice st_24.und rfl rfl) ?_
          clear hf a; intro a hf
          refine st_yg hf rfl rfl (lk_b rfl h3_1) rfl rfl (y_leq rfl rfl rfl) ?_
          clear hf a; intro a hf
          refine st_y hf rfl rfl rfl (y_pick_t rfl (ev_b rfl h3_1) rfl) ?_
          clear hf a; intro a hf
          refine st_end ?_
          refine x_then_n ?_
          obtain rfl := Option.some.inj hq2_1
          exact ⟨hf.sub ⟨rfl, rfl, rfl, rfl, rfl, rfl, trivial⟩, hm.pick [0, 1, 2, 3] (by decide) rfl⟩
        ·
          replace hq2_1 := (ite_f h3_1).symm.trans hq2_1
          have h3_3 := of_decide_eq_false h3_1
          refine st_no hf rfl rfl (lk_b rfl h3_1) rfl rfl rfl ?_
          clear hf a; intro a hf
          refine st_no hf rfl rfl (lk_b rfl h3_1) rfl rfl rfl ?_
          clear hf a; intro a hf
          refine st_no hf rfl rfl (lk_b rfl h3_1) rfl rfl rfl ?_
          clear hf a; intro a hf
          refine st_y hf rfl rfl rfl (y_pick_f rfl (ev_b rfl h3_1) rfl) ?_
          clear hf a; intro a hf
          refine st_end ?_
          refine x_then_n ?_
          obtain rfl := Option.some.inj hq2_1
          exact ⟨hf.sub ⟨rfl, rfl, rfl, rfl, rfl, rfl, trivial⟩, hm.pick [0, 1, 2, 3] (by decide) rfl⟩
      ·
        clear hf hm
        rintro a w ⟨hf, hm⟩
        refine x_then_n ?_
        rcases bcases (s2_1) with h2_1 | h2_1
        ·
          replace hb1_1 := (ite_t h2_1).symm.trans hb1_1
          refine cond_t hf rfl h2_1 ?_
          refine wp_skip ?_
          refine x_then_n ?_
          refine wp_block ?_
          refine wp_seq ?_
          refine wp_region_lit ?_
          refine st_y hf rfl rfl rfl (y_move rfl rfl) ?_
          clear hf a; intro a hf
          refine st_y hf rfl rfl rfl (y_move rfl rfl) ?_
          clear hf a; intro a hf
          obtain ⟨r2_1, hx2_1, hb1_1⟩ := bnd hb1_1
          refine st_ef hf rfl rfl rfl (e_call hf rfl Tryd.call59 rfl (spec_l25One_ok _ code v1 (hm.now h1) xs2_1.2.2 _ hx2_1)) ?_
          clear hf a; rintro v2_3 w2_1 a ho2_1 hf
          obtain ⟨rfl, hB⟩ := ho2_1
          replace hm := hm.below' hB; clear hB
          refine st_y hf rfl rfl rfl (y_move rfl rfl) ?_
          clear hf a; intro a hf
          refine st_y hf rfl rfl rfl (y_extract rfl rfl rfl) ?_
          clear hf a; intro a hf
          refine st_y hf rfl rfl rfl (y_extract rfl rfl rfl) ?_
          clear hf a; intro a hf
          refine st_y hf rfl rfl rfl (y_extract rfl rfl rfl) ?_
          clear hf a; intro a hf
          refine st_ef hf rfl rfl rfl (e_alloc hm Tryd.zeroValue27 rfl rfl) ?_
          clear hf a; rintro _ w2_2 a ⟨b2_1, rfl, hm⟩ hf
          refine st_ef0 hf rfl rfl (e_storeN 0 hf hm rfl Tryd.sizeOf27 rfl rfl rfl (one_cons rfl (one_cons rfl (one_cons rfl (one_cons rfl (one_cons rfl one_nil))))) rfl rfl) ?_
          clear hf a; rintro _ w2_3 a hm hf
          refine st_y hf rfl rfl rfl (y_assign rfl rfl) ?_
          clear hf a; intro a hf
          refine st_y hf rfl rfl rfl (y_assign rfl rfl) ?_
          clear hf a; intro a hf
          refine st_end ?_
          refine x_then_n ?_
          refine wp_seq ?_
          refine wp_seq ?_
          refine wp_region_lit ?_
          refine st_y hf rfl rfl rfl (y_move rfl rfl) ?_
          clear hf a; intro a hf
          refine st_y hf rfl rfl rfl (y_not rfl rfl) ?_
          clear hf a; intro a hf
          refine st_end ?_
          refine x_then_n ?_
          rcases bcases (!(r2_1.2.2)) with h2_2 | h2_2
          ·
            replace hb1_1 := (ite_t h2_2).symm.trans hb1_1
            have h2_3 := bnot_t' h2_2
            refine cond_t hf rfl h2_2 ?_
            refine wp_seq ?_
            refine wp_region_lit ?_
            refine st_y hf rfl rfl rfl (y_build (vs := []) (cs := #[(.int .i64 (0)), (.int .i64 (0)), (.slice none 0 0)]) rfl rfl (by kernel_rfl)) ?_
            clear hf a; intro a hf
            refine st_ef0 hf rfl rfl (e_storeN 1 hf hm rfl Tryd.sizeOf35 rfl rfl rfl (one_cons rfl (one_cons rfl (one_cons rfl one_nil))) rfl rfl) ?_
            clear hf a; rintro _ w2_4 a hm hf
            refine st_y hf rfl rfl rfl (y_assign rfl rfl) ?_
            clear hf a; intro a hf
            refine st_end ?_
            refine x_then_n ?_
            refine wp_ret ?_
            refine x_then_ret ?_
            refine x_blk_ret ?_
            refine x_then_ret ?_
            refine x_blk_ret ?_
            refine x_then_ret ?_
            refine x_then_ret ?_
            obtain rfl := Option.some.inj hb1_1
            obtain rfl := ho1_1 _ rfl
            replace hq0_1 := sum_l hq0_1
            obtain rfl := Option.some.inj hq0_1
            replace hq := sum_r hq
            obtain rfl := Option.some.inj hq
            have hm := hm.nilow (α := Mins)
            refine ret_cell_tmp 2 hf Tryd.results32 hm rfl rfl Tryd.isAgg35 Tryd.sizeOf35 rfl ?_
            exact ⟨(.slice none 0 0), rfl, hm.pick [0] (by decide) rfl⟩
          ·
            replace hb1_1 := (ite_f h2_2).symm.trans hb1_1
            have h2_4 := bnot_f' h2_2
            refine cond_f hf rfl h2_2 ?_
            refine wp_skip ?_
            refine x_then_n ?_
            refine wp_seq ?_
            refine wp_region_lit ?_
            refine st_y hf rfl rfl rfl (y_fieldAddr fo_35_2 rfl rfl) ?_
            clear hf a; intro a hf
            refine st_y hf rfl rfl rfl (y_load1 Tryd.isAgg33 rfl rfl (hm.blk_cell 2 rfl rfl)) ?_
            clear hf a; intro a hf
            refine st_y hf rfl rfl rfl (y_loadN (cs := [(.int .i64 (r2_1.1.op)), (.int .i64 (r2_1.1.a_)), (.int .i64 (r2_1.1.b)), (.int .i64 (r2_1.1.c)), (.int .i64 (r2_1.1.n_))]) Tryd.isAgg27 Tryd.sizeOf27 rfl rfl (hm.blk_at 0 rfl)) ?_
            clear hf a; intro a hf
            refine st_ef hf rfl rfl rfl (e_build (vs := #[(0, (.agg #[(.int .i64 (r2_1.1.op)), (.int .i64 (r2_1.1.a_)), (.int .i64 (r2_1.1.b)), (.int .i64 (r2_1.1.c)), (.int .i64 (r2_1.1.n_))]))]) (cs := [(.int .i64 (r2_1.1.op)), (.int .i64 (r2_1.1.a_)), (.int .i64 (r2_1.1.b)), (.int .i64 (r2_1.1.c)), (.int .i64 (r2_1.1.n_))]) et_33 hf hm rfl rfl (by kernel_rfl) rfl rfl) ?_
            clear hf a; rintro _ w2_5 a ⟨b2_2, rfl, hm⟩ hf
            replace hm := hm.lit (xs := ([r2_1.1] : List Mins)) 0 rfl rfl rfl rfl
            obtain ⟨ys2_1, hx2_2, hb1_1⟩ := bnd hb1_1
            obtain ⟨h2_5, h2_5e⟩ := appM_some.1 hx2_2
            refine st_ef hf rfl rfl rfl (e_append 4 et_33 hf hm rfl (hm.ow_rep 0 rfl) rfl rfl rfl h2_5) ?_
            clear hf a; rintro v2_4 w2_6 a hm hf
            rw [h2_5e] at hm
            refine st_y hf rfl rfl rfl (y_fieldAddr fo_35_2 rfl rfl) ?_
            clear hf a; intro a hf
            refine st_ef0 hf rfl rfl (e_store1 3 hf hm rfl Tryd.sizeOf33 rfl rfl rfl (rep_one (hm.ow_rep 4 rfl)) rfl) ?_
            clear hf a; rintro _ w2_7 a hm hf
            refine st_end ?_
            refine x_then_n ?_
            refine wp_seq ?_
            refine wp_region_lit ?_
            refine st_y hf rfl rfl rfl (y_move rfl rfl) ?_
            clear hf a; intro a hf
            refine st_y hf rfl rfl rfl (y_move rfl rfl) ?_
            clear hf a; intro a hf
            refine st_ef hf rfl rfl rfl (e_build (vs := #[(0, (.int .i64 (xs2_1.2.2)))]) (cs := [(.int .i64 (xs2_1.2.2))]) et_46 hf hm rfl rfl (by kernel_rfl) rfl rfl) ?_
            clear hf a; rintro _ w2_8 a ⟨b2_3, rfl, hm⟩ hf
            replace hm := hm.lit (xs := ([xs2_1.2.2] : List Int)) 0 rfl rfl rfl rfl
            obtain ⟨ys2_2, hx2_3, hb1_1⟩ := bnd hb1_1
            obtain ⟨h2_6, h2_6e⟩ := appM_some.1 hx2_3
            refine st_ef hf rfl rfl rfl (e_append 6 et_46 hf hm rfl (hm.ow_rep 0 rfl) rfl rfl rfl h2_6) ?_
            clear hf a; rintro v2_5 w2_9 a hm hf
            rw [h2_6e] at hm
            refine st_y hf rfl rfl rfl (y_assign rfl rfl) ?_
            clear hf a; intro a hf
            refine st_end ?_
            refine x_then_n ?_
            refine wp_region_lit ?_
            refine st_y hf rfl rfl rfl (y_move rfl rfl) ?_
            clear hf a; intro a hf
            refine st_y hf rfl rfl rfl (y_move rfl rfl) ?_
            clear hf a; intro a hf
            refine st_y hf rfl rfl rfl (y_addw rfl rfl rfl) ?_
            clear hf a; intro a hf
            refine st_y hf rfl rfl rfl (y_assign rfl rfl) ?_
            clear hf a; intro a hf
            refine st_end ?_
            refine x_blk_n ?_
            refine x_then_n ?_
            obtain rfl := Option.some.inj hb1_1
            exact ⟨_, rfl, v2_4, v2_5, hf.sub ⟨rfl, rfl, rfl, rfl, rfl, trivial⟩, hm.pick [3, 4, 5, 6] (by decide) rfl⟩
        ·
          replace hb1_1 := (ite_f h2_1).symm.trans hb1_1
          refine cond_f hf rfl h2_1 ?_
          refine wp_exit ?_
          refine x_then_exit ?_
          refine x_then_exit ?_
          refine x_blk_hit ?_
          refine x_then_n ?_
          obtain rfl := Option.some.inj hb1_1
          obtain rfl := ho1_1 _ rfl
          replace hq0_1 := sum_r hq0_1
          obtain rfl := Option.some.inj hq0_1
          exact ⟨_, rfl, v2_1, v2_2, hf.sub ⟨rfl, rfl, rfl, rfl, trivial⟩, hm.pick [0, 1, 2, 3] (by decide) rfl⟩
  ·
    clear hf hm
    rintro a w ⟨s0_1, rfl, v0_2, v0_3, hf, hm⟩
    replace hq := sum_l hq
    refine x_then_n ?_
    refine wp_seq ?_
    refine wp_seq ?_
    refine wp_region_lit ?_
    refine st_y hf rfl rfl rfl (y_assign rfl rfl) ?_
    clear hf a; intro a hf
    refine st_end ?_
    refine x_then_n ?_
    obtain ⟨p0_2, c0_3, he, hl0_2⟩ := ro_slice (hm.ow_rep 2 rfl)
    subst he
    obtain ⟨p0_3, c0_4, he, hl0_3⟩ := ro_slice (hm.ow_rep 3 rfl)
    subst he
    refine wp_block ?_
    obtain ⟨r0_1, hl0_4, hq⟩ := bnd hq
    refine wp_forN _ (fun i1_1 xs1_1 a w => Fr 95 [(2, v1), (6, (.pointer (some ⟨b0_1, 0, none⟩))), (8, (.pointer (some ⟨b0_2, 0, none⟩))), (9, (.slice p0_3 s0_1.2.length c0_4)), (14, (.int .i64 (i1_1)))] a ∧ Mem w0 (hp w0) w [blk b0_1 [(.int .i64 (0)), (.int .i64 (0)), (.slice none 0 0)] 35, blk b0_2 [(.int .i64 (params)), (.int .i64 (slots)), (.slice p0_2 s0_1.1.length c0_3)] 35, ow [(.slice p0_2 s0_1.1.length c0_3)] xs1_1, ow [(.slice p0_3 s0_1.2.length c0_4)] s0_1.2]) (0) ((s0_1.1.length : Int)) hl0_4 ?_ ?_ ?_
    ·
      exact ⟨hf.sub ⟨rfl, rfl, rfl, rfl, rfl, trivial⟩, hm.pick [0, 1, 2, 3] (by decide) rfl⟩
    ·
      clear hf hm
      rintro i1_1 xs1_1 a w ⟨hf, hm⟩ hi1_1 hi1_2 q0_1 hb0_1 ho0_1
      refine wp_seq ?_
      refine wp_seq ?_
      refine wp_region_lit ?_
      refine st_y hf rfl rfl rfl (y_move rfl rfl) ?_
      clear hf a; intro a hf
      refine st_y hf rfl rfl rfl (y_fieldAddr fo_35_2 rfl rfl) ?_
      clear hf a; intro a hf
      refine st_y hf rfl rfl rfl (y_load1 Tryd.isAgg33 rfl rfl (hm.blk_cell 1 rfl rfl)) ?_
      clear hf a; intro a hf
      have hl1_2 := rep_len (hm.ow_rep 2 rfl)
      refine st_y hf rfl rfl rfl (y_len_slice st_33.und rfl rfl) ?_
      clear hf a; intro a hf
      refine st_y hf rfl rfl rfl (y_lss rfl rfl rfl) ?_
      clear hf a; intro a hf
      refine st_end ?_
      refine x_then_n ?_
      refine cond_t hf rfl (decide_eq_true (by omega)) ?_
      refine wp_skip ?_
      refine x_then_n ?_
      refine wp_seq ?_
      obtain ⟨s1_1, hq1_1, hb0_1⟩ := bnd hb0_1
      refine code_cut (K := fun a w => Fr 95 [(2, v1), (6, (.pointer (some ⟨b0_1, 0, none⟩))), (8, (.pointer (some ⟨b0_2, 0, none⟩))), (9, (.slice p0_3 s0_1.2.length c0_4)), (14, (.int .i64 (i1_1)))] a ∧ Mem w0 (hp w0) w [blk b0_1 [(.int .i64 (0)), (.int .i64 (0)), (.slice none 0 0)] 35, blk b0_2 [(.int .i64 (params)), (.int .i64 (slots)), (.slice p0_2 s0_1.1.length c0_3)] 35, ow [(.slice p0_2 s0_1.1.length c0_3)] s1_1, ow [(.slice p0_3 s0_1.2.length c0_4)] s0_1.2]) ?_ ?_
      ·
        refine wp_block ?_
        refine wp_seq ?_
        refine wp_region_lit ?_
        refine st_y hf rfl rfl rfl (y_fieldAddr fo_35_2 rfl rfl) ?_
        clear hf a; intro a hf
        refine st_y hf rfl rfl rfl (y_load1 Tryd.isAgg33 rfl rfl (hm.blk_cell 1 rfl rfl)) ?_
        clear hf a; intro a hf
        refine st_y hf rfl rfl rfl (y_move rfl rfl) ?_
        clear hf a; intro a hf
        obtain ⟨x2_1, hx2_4, hq1_1⟩ := bnd hq1_1
        obtain ⟨h2_7, hx2_5⟩ := getI_some.1 hx2_4
        obtain ⟨b2_4, o2_1, c2_1, he⟩ := idx_form (hm.ow_rep 2 rfl) hx2_5
        simp only [Value.slice.injEq, Option.some.injEq] at he; obtain ⟨rfl, _, rfl⟩ := he
        have hL2_1 := rep_slice_len (hm.ow_rep 2 rfl)
        refine st_y hf rfl rfl rfl (y_indexAddr st_33 rfl rfl rfl h2_7 (idx_lt2 hx2_5 hL2_1)) ?_
        clear hf a; intro a hf
        refine st_y hf rfl rfl rfl (y_loadN (cs := [(.int .i64 (x2_1.op)), (.int .i64 (x2_1.a_)), (.int .i64 (x2_1.b)), (.int .i64 (x2_1.c)), (.int .i64 (x2_1.n_))]) Tryd.isAgg27 Tryd.sizeOf27 rfl rfl (flat_cells (cs := [(.int .i64 (x2_1.op)), (.int .i64 (x2_1.a_)), (.int .i64 (x2_1.b)), (.int .i64 (x2_1.c)), (.int .i64 (x2_1.n_))]) (hm.ow_rep 2 rfl) hx2_5 rfl)) ?_
        clear hf a; intro a hf
        obtain ⟨r2_2, hx2_6, hq1_1⟩ := bnd hq1_1
        refine st_ef hf rfl rfl rfl (e_call hf rfl Tryd.call37 rfl (spec_l24Jumps_ok _ x2_1 _ hx2_6)) ?_
        clear hf a; rintro v2_6 w2_10 a ho2_2 hf
        obtain ⟨rfl, hB⟩ := ho2_2
        replace hm := hm.below' hB; clear hB
        refine st_end ?_
        refine x_then_n ?_
        obtain ⟨s2_2, hq2_2, hq1_1⟩ := bnd hq1_1
        refine code_cut (K := fun a w => Fr 95 [(2, v1), (6, (.pointer (some ⟨b0_1, 0, none⟩))), (8, (.pointer (some ⟨b0_2, 0, none⟩))), (9, (.slice p0_3 s0_1.2.length c0_4)), (14, (.int .i64 (i1_1)))] a ∧ Mem w0 (hp w0) w [blk b0_1 [(.int .i64 (0)), (.int .i64 (0)), (.slice none 0 0)] 35, blk b0_2 [(.int .i64 (params)), (.int .i64 (slots)), (.slice (some ⟨b2_4, o2_1, none⟩) s0_1.1.length c0_3)] 35, ow [(.slice (some ⟨b2_4, o2_1, none⟩) s0_1.1.length c0_3)] s2_2, ow [(.slice p0_3 s0_1.2.length c0_4)] s0_1.2]) ?_ ?_
        ·
          rcases bcases (r2_2) with h3_4 | h3_4
          ·
            replace hq2_2 := (ite_t h3_4).symm.trans hq2_2
            refine cond_t hf rfl h3_4 ?_
            refine wp_tree (.p 0 (.p 2 (.p 3 (.p 4 (.p 6 (.q 1 (.e 5 (.p 7 (.p 8 (.e 9 (.e 10 (.p 11 (.p 12 (.e 13 .fin .nil))) .nil) .nil))) .nil))))))) [5, 9, 10] [0, 2, 3, 4, 6, 7, 8, 11, 12] (fun w => Mem w0 (hp w0) w [blk b0_1 [(.int .i64 (0)), (.int .i64 (0)), (.slice none 0 0)] 35, blk b0_2 [(.int .i64 (params)), (.int .i64 (slots)), (.slice (some ⟨b2_4, o2_1, none⟩) s0_1.1.length c0_3)] 35, ow [(.slice (some ⟨b2_4, o2_1, none⟩) s0_1.1.length c0_3)] xs1_1, ow [(.slice p0_3 s0_1.2.length c0_4)] s0_1.2]) (by kernel_rfl) (by kernel_rfl) (fun _ _ _ h => h.2) ?_
            replace hm := hm.drew
            have hS : Mem w0 (hp w0) _ [blk b0_1 [(.int .i64 (0)), (.int .i64 (0)), (.slice none 0 0)] 35, blk b0_2 [(.int .i64 (params)), (.int .i64 (slots)), (.slice (some ⟨b2_4, o2_1, none⟩) s0_1.1.length c0_3)] 35, ow [(.slice (some ⟨b2_4, o2_1, none⟩) s0_1.1.length c0_3)] xs1_1, ow [(.slice p0_3 s0_1.2.length c0_4)] s0_1.2] := hm.pick [0, 1, 2, 3] (by decide) rfl
            refine td_p hf rfl rfl rfl rfl (fun w => y_fieldAddr fo_35_2 rfl rfl) ?_
            clear hf a; intro a hf
            refine td_p hf rfl rfl rfl rfl (fun w => y_move rfl rfl) ?_
            clear hf a; intro a hf
            refine td_p hf rfl rfl rfl rfl (fun w => y_move rfl rfl) ?_
            clear hf a; intro a hf
            refine td_p hf rfl rfl rfl rfl (fun w => y_fieldAddr fo_35_2 rfl rfl) ?_
            clear hf a; intro a hf
            refine td_p hf rfl rfl rfl rfl (fun w => y_move rfl rfl) ?_
            clear hf a; intro a hf
            refine td_y hf rfl rfl rfl rfl hS (fun w hm => y_load1 Tryd.isAgg33 rfl rfl (hm.blk_cell 1 rfl rfl)) ?_
            clear hf a; intro a hf
            refine te_one ?_
            refine td_ef hf rfl rfl rfl rfl (ef_y hf (y_load1 Tryd.isAgg33 rfl rfl (hm.blk_cell 1 rfl rfl))) ?_
            clear hf a; rintro _ _ a ⟨rfl, rfl⟩ hf
            refine ⟨fun _ => hS, ?_⟩
            have hL3_1 := rep_slice_len (hm.ow_rep 2 rfl)
            refine td_p hf rfl rfl rfl rfl (fun w => y_indexAddr st_33 rfl rfl rfl h2_7 (idx_lt2 hx2_5 hL3_1)) ?_
            clear hf a; intro a hf
            refine td_p hf rfl rfl rfl rfl (fun w => y_fieldAddr fo_27_4 rfl rfl) ?_
            clear hf a; intro a hf
            refine te_one ?_
            refine td_ef hf rfl rfl rfl rfl (ef_y hf (y_load1 Tryd.isAgg3 rfl rfl ((flat_cells (cs := [(.int .i64 (x2_1.op)), (.int .i64 (x2_1.a_)), (.int .i64 (x2_1.b)), (.int .i64 (x2_1.c)), (.int .i64 (x2_1.n_))]) (hm.ow_rep 2 rfl) hx2_5 rfl).cell (j := 4) rfl))) ?_
            clear hf a; rintro _ _ a ⟨rfl, rfl⟩ hf
            refine ⟨fun _ => hS, ?_⟩
            refine te_one ?_
            obtain ⟨r3_1, hx3_1, hq2_2⟩ := bnd hq2_2
            refine td_ef hf rfl rfl rfl rfl (e_call hf rfl Tryd.call60 rfl (spec_l10At_ok _ s0_1.2 (.slice p0_3 s0_1.2.length c0_4) (hm.ow_rep 3 rfl) x2_1.n_ _ hx3_1)) ?_
            clear hf a; rintro v3_1 w3_1 a ho3_1 hf
            obtain ⟨rfl, hB⟩ := ho3_1
            replace hm := hm.below' hB; clear hB
            clear hS
            have hS : Mem w0 (hp w0) _ [blk b0_1 [(.int .i64 (0)), (.int .i64 (0)), (.slice none 0 0)] 35, blk b0_2 [(.int .i64 (params)), (.int .i64 (slots)), (.slice (some ⟨b2_4, o2_1, none⟩) s0_1.1.length c0_3)] 35, ow [(.slice (some ⟨b2_4, o2_1, none⟩) s0_1.1.length c0_3)] xs1_1, ow [(.slice p0_3 s0_1.2.length c0_4)] s0_1.2] := hm.pick [0, 1, 2, 3] (by decide) rfl
            refine ⟨fun _ => hS, ?_⟩
            have hL3_2 := rep_slice_len (hm.ow_rep 2 rfl)
            refine td_p hf rfl rfl rfl rfl (fun w => y_indexAddr st_33 rfl rfl rfl h2_7 (idx_lt2 hx2_5 hL3_2)) ?_
            clear hf a; intro a hf
            refine td_p hf rfl rfl rfl rfl (fun w => y_fieldAddr fo_27_4 rfl rfl) ?_
            clear hf a; intro a hf
            refine te_one ?_
            refine td_ef0 hf rfl rfl rfl (e_setElem (x1 := (⟨x2_1.op, x2_1.a_, x2_1.b, x2_1.c, r3_1⟩ : Mins)) (j := 4) (vs := [(.int .i64 (r3_1))]) 2 hf hm rfl hx2_5 rfl Tryd.sizeOf3 rfl rfl rfl (one_cons rfl one_nil) rfl rfl) ?_
            clear hf a; rintro _ w3_2 a hm hf
            have hx3_2 := List.getElem?_set_self (a := (⟨x2_1.op, x2_1.a_, x2_1.b, x2_1.c, r3_1⟩ : Mins)) (idx_lt hx2_5)
            refine ⟨fun h => absurd h (by decide), ?_⟩
            clear hS; refine td_end ?_
            refine x_then_n ?_
            obtain rfl := Option.some.inj hq2_2
            exact ⟨hf.sub ⟨rfl, rfl, rfl, rfl, rfl, trivial⟩, hm.pick [0, 1, 2, 3] (by decide) rfl⟩
          ·
            replace hq2_2 := (ite_f h3_4).symm.trans hq2_2
            refine cond_f hf rfl h3_4 ?_
            refine wp_skip ?_
            refine x_then_n ?_
            obtain rfl := Option.some.inj hq2_2
            exact ⟨hf.sub ⟨rfl, rfl, rfl, rfl, rfl, trivial⟩, hm.pick [0, 1, 2, 3] (by decide) rfl⟩
        ·
          clear hf hm
          rintro a w ⟨hf, hm⟩
          refine x_blk_n ?_
          refine x_then_n ?_
          obtain rfl := Option.some.inj hq1_1
          exact ⟨hf.sub ⟨rfl, rfl, rfl, rfl, rfl, trivial⟩, hm.pick [0, 1, 2, 3] (by decide) rfl⟩
      ·
        clear hf hm
        rintro a w ⟨hf, hm⟩
        refine x_then_n ?_
        refine wp_region_lit ?_
        refine st_y hf rfl rfl rfl (y_move rfl rfl) ?_
        clear hf a; intro a hf
        refine st_y hf rfl rfl rfl (y_add64 rfl rfl rfl (by omega) (by omega)) ?_
        clear hf a; intro a hf
        refine st_y hf rfl rfl rfl (y_assign rfl rfl) ?_
        clear hf a; intro a hf
        refine st_end ?_
        refine x_then_n ?_
        obtain rfl := Option.some.inj hb0_1
        exact ⟨_, rfl, hf.sub ⟨rfl, rfl, rfl, rfl, rfl, trivial⟩, hm.pick [0, 1, 2, 3] (by decide) rfl⟩
    ·
      clear hf hm
      rintro i0_1 xs0_1 a w ⟨hf, hm⟩ hi0_1 hi0_2 rfl
      replace hq := sum_l hq
      refine wp_seq ?_
      refine wp_seq ?_
      refine wp_region_lit ?_
      refine st_y hf rfl rfl rfl (y_move rfl rfl) ?_
      clear hf a; intro a hf
      refine st_y hf rfl rfl rfl (y_fieldAddr fo_35_2 rfl rfl) ?_
      clear hf a; intro a hf
      refine st_y hf rfl rfl rfl (y_load1 Tryd.isAgg33 rfl rfl (hm.blk_cell 1 rfl rfl)) ?_
      clear hf a; intro a hf
      have hl0_5 := rep_len (hm.ow_rep 2 rfl)
      refine st_y hf rfl rfl rfl (y_len_slice st_33.und rfl rfl) ?_
      clear hf a; intro a hf
      refine st_y hf rfl rfl rfl (y_lss rfl rfl rfl) ?_
      clear hf a; intro a hf
      refine st_end ?_
      refine x_then_n ?_
      refine cond_f hf rfl (decide_eq_false (by omega)) ?_
      refine wp_exit ?_
      refine x_then_exit ?_
      refine x_then_exit ?_
      refine x_blk_hit ?_
      refine x_then_n ?_
      refine wp_seq ?_
      refine wp_region_lit ?_
      refine st_y hf rfl rfl rfl (y_loadN (cs := [(.int .i64 (params)), (.int .i64 (slots)), (.slice p0_2 s0_1.1.length c0_3)]) Tryd.isAgg35 Tryd.sizeOf35 rfl rfl (hm.blk_at 1 rfl)) ?_
      clear hf a; intro a hf
      obtain ⟨r0_2, hx0_1, hq⟩ := bnd hq
      refine st_ef hf rfl rfl rfl (e_call hf rfl Tryd.call31 rfl (spec_EncodeFn_ok _ (⟨params, slots, xs0_1⟩ : Mfn) (.slice p0_2 s0_1.1.length c0_3) (hm.ow_rep 2 rfl) _ hx0_1)) ?_
      clear hf a; rintro v0_4 w0_5 a ho0_2 hf
      obtain ⟨v0_5, rfl, hB⟩ := ho0_2
      replace hm := hm.give hB; clear hB
      refine st_y hf rfl rfl rfl (y_move rfl rfl) ?_
      clear hf a; intro a hf
      refine st_y hf rfl rfl rfl (y_extract rfl rfl rfl) ?_
      clear hf a; intro a hf
      refine st_y hf rfl rfl rfl (y_extract rfl rfl rfl) ?_
      clear hf a; intro a hf
      refine st_y hf rfl rfl rfl (y_assign rfl rfl) ?_
      clear hf a; intro a hf
      refine st_y hf rfl rfl rfl (y_assign rfl rfl) ?_
      clear hf a; intro a hf
      refine st_end ?_
      refine x_then_n ?_
      refine wp_seq ?_
      refine wp_seq ?_
      obtain ⟨s0_2, hq0_2, hq⟩ := bnd hq
      refine code_cut (K := fun a w => Fr 95 [(6, (.pointer (some ⟨b0_1, 0, none⟩))), (8, (.pointer (some ⟨b0_2, 0, none⟩))), (92, (.bool (s0_2)))] a ∧ Mem w0 (hp w0) w [blk b0_1 [(.int .i64 (0)), (.int .i64 (0)), (.slice none 0 0)] 35, blk b0_2 [(.int .i64 (params)), (.int .i64 (slots)), (.slice p0_2 s0_1.1.length c0_3)] 35, ow [(.slice p0_2 s0_1.1.length c0_3)] xs0_1]) ?_ ?_
      ·
        refine wp_region_lit ?_
        refine st_y hf rfl rfl rfl (y_move rfl rfl) ?_
        clear hf a; intro a hf
        refine st_y hf rfl rfl rfl (y_not rfl rfl) ?_
        clear hf a; intro a hf
        refine st_y hf rfl rfl rfl (y_move rfl rfl) ?_
        clear hf a; intro a hf
        rcases bcases (!(r0_2.2)) with h1_1 | h1_1
        ·
          replace hq0_2 := (ite_t h1_1).symm.trans hq0_2
          have h1_2 := bnot_t' h1_1
          refine st_no hf rfl rfl (lk_b rfl h1_1) rfl rfl rfl ?_
          clear hf a; intro a hf
          refine st_no hf rfl rfl (lk_b rfl h1_1) rfl rfl rfl ?_
          clear hf a; intro a hf
          refine st_no hf rfl rfl (lk_b rfl h1_1) rfl rfl rfl ?_
          clear hf a; intro a hf
          refine st_no hf rfl rfl (lk_b rfl h1_1) rfl rfl rfl ?_
          clear hf a; intro a hf
          refine st_no hf rfl rfl (lk_b rfl h1_1) rfl rfl rfl ?_
          clear hf a; intro a hf
          refine st_y hf rfl rfl rfl (y_pick_t rfl (ev_b rfl h1_1) rfl) ?_
          clear hf a; intro a hf
          refine st_end ?_
          refine x_then_n ?_
          obtain rfl := Option.some.inj hq0_2
          exact ⟨hf.sub ⟨rfl, rfl, rfl, trivial⟩, hm.pick [1, 2, 3] (by decide) rfl⟩
        ·
          replace hq0_2 := (ite_f h1_1).symm.trans hq0_2
          have h1_3 := bnot_f' h1_1
          refine st_yg hf rfl rfl (lk_b rfl h1_1) rfl rfl (y_move rfl rfl) ?_
          clear hf a; intro a hf
          refine st_yg hf rfl rfl (lk_b rfl h1_1) rfl rfl (y_bytesStr (xs := r0_2.1) Tryd.underlying24 Tryd.underlying5 Tryd.underlying9 rfl rfl (hm.ow_rep 0 rfl)) ?_
          clear hf a; intro a hf
          refine st_yg hf rfl rfl (lk_b rfl h1_1) rfl rfl (y_move rfl rfl) ?_
          clear hf a; intro a hf
          refine st_yg hf rfl rfl (lk_b rfl h1_1) rfl rfl (y_bytesStr (xs := code) Tryd.underlying24 Tryd.underlying5 Tryd.underlying9 rfl rfl (hm.now h1)) ?_
          clear hf a; intro a hf
          refine st_yg hf rfl rfl (lk_b rfl h1_1) rfl rfl (y_neqs (p := (strL r0_2.1)) (q := (strL code)) rfl rfl rfl) ?_
          clear hf a; intro a hf
          refine st_y hf rfl rfl rfl (y_pick_f rfl (ev_b rfl h1_1) rfl) ?_
          clear hf a; intro a hf
          refine st_end ?_
          refine x_then_n ?_
          obtain rfl := Option.some.inj hq0_2
          exact ⟨hf.sub ⟨rfl, rfl, rfl, trivial⟩, hm.pick [1, 2, 3] (by decide) rfl⟩
      ·
        clear hf hm
        rintro a w ⟨hf, hm⟩
        refine x_then_n ?_
        rcases bcases (s0_2) with h0_1 | h0_1
        ·
          replace hq := (ite_t h0_1).symm.trans hq
          refine cond_t hf rfl h0_1 ?_
          refine wp_seq ?_
          refine wp_region_lit ?_
          refine st_y hf rfl rfl rfl (y_build (vs := []) (cs := #[(.int .i64 (0)), (.int .i64 (0)), (.slice none 0 0)]) rfl rfl (by kernel_rfl)) ?_
          clear hf a; intro a hf
          refine st_ef0 hf rfl rfl (e_storeN 0 hf hm rfl Tryd.sizeOf35 rfl rfl rfl (one_cons rfl (one_cons rfl (one_cons rfl one_nil))) rfl rfl) ?_
          clear hf a; rintro _ w0_6 a hm hf
          refine st_y hf rfl rfl rfl (y_assign rfl rfl) ?_
          clear hf a; intro a hf
          refine st_end ?_
          refine x_then_n ?_
          refine wp_ret ?_
          refine x_then_ret ?_
          obtain rfl := Option.some.inj hq
          have hm := hm.nilow (α := Mins)
          refine ret_cell_tmp 1 hf Tryd.results32 hm rfl rfl Tryd.isAgg35 Tryd.sizeOf35 rfl ?_
          exact ⟨(.slice none 0 0), rfl, hm.pick [0] (by decide) rfl⟩
        ·
          replace hq := (ite_f h0_1).symm.trans hq
          refine cond_f hf rfl h0_1 ?_
          refine wp_skip ?_
          refine x_then_n ?_
          refine wp_seq ?_
          refine wp_region_lit ?_
          refine st_y hf rfl rfl rfl (y_loadN (cs := [(.int .i64 (params)), (.int .i64 (slots)), (.slice p0_2 s0_1.1.length c0_3)]) Tryd.isAgg35 Tryd.sizeOf35 rfl rfl (hm.blk_at 1 rfl)) ?_
          clear hf a; intro a hf
          refine st_ef0 hf rfl rfl (e_storeN 0 hf hm rfl Tryd.sizeOf35 rfl rfl rfl (one_cons rfl (one_cons rfl (one_cons rfl one_nil))) rfl rfl) ?_
          clear hf a; rintro _ w0_7 a hm hf
          refine st_y hf rfl rfl rfl (y_assign rfl rfl) ?_
          clear hf a; intro a hf
          refine st_end ?_
          refine x_then_n ?_
          refine wp_ret ?_
          obtain rfl := Option.some.inj hq
          refine ret_cell_tmp 0 hf Tryd.results32 hm rfl rfl Tryd.isAgg35 Tryd.sizeOf35 rfl ?_
          exact ⟨(.slice p0_2 s0_1.1.length c0_3), rfl, hm.pick [2] (by decide) rfl⟩

theorem impl_within_ok (w0 : World) (n_ : Int) (low : Int) (high : Int) (r : Bool) (hq : impl_within n_ low high = some r) :
    Con Tryd.prog 43 [(.int .i64 (n_)), (.int .i64 (low)), (.int .i64 (high))] w0 (fun v w' => v = (.bool (r)) ∧ Below w0.heap.size w0 w') := by
  unfold impl_within at hq
  refine con_body (l := [(0, (.int .i64 (n_))), (1, (.int .i64 (low))), (2, (.int .i64 (high)))]) Tryd.func43 rfl Tryd.ntmps43 (Args.get ⟨rfl, rfl, rfl, trivial⟩) rfl ?_
  intro a hf
  have hm := Mem.start w0
  refine wp_seq ?_
  refine wp_region_lit ?_
  refine st_y hf rfl rfl rfl (y_assign rfl rfl) ?_
  clear hf a; intro a hf
  refine st_end ?_
  refine x_then_n ?_
  refine wp_seq ?_
  obtain ⟨s0_1, hq0_1, hq⟩ := bnd hq
  refine code_cut (K := fun a w => Fr 15 [(6, (.bool (s0_1)))] a ∧ Mem w0 (hp w0) w []) ?_ ?_
  ·
    refine wp_region_lit ?_
    refine st_y hf rfl rfl rfl (y_move rfl rfl) ?_
    clear hf a; intro a hf
    refine st_y hf rfl rfl rfl (y_move rfl rfl) ?_
    clear hf a; intro a hf
    refine st_y hf rfl rfl rfl (y_leq rfl rfl rfl) ?_
    clear hf a; intro a hf
    refine st_y hf rfl rfl rfl (y_move rfl rfl) ?_
    clear hf a; intro a hf
    rcases bcases (decide (low ≤ n_)) with h1_1 | h1_1
    ·
      replace hq0_1 := (ite_t h1_1).symm.trans hq0_1
      have h1_2 := of_decide_eq_true h1_1
      refine st_yg hf rfl rfl (lk_b rfl h1_1) rfl rfl (y_move rfl rfl) ?_
      clear hf a; intro a hf
      refine st_yg hf rfl rfl (lk_b rfl h1_1) rfl rfl (y_move rfl rfl) ?_
      clear hf a; intro a hf
      refine st_yg hf rfl rfl (lk_b rfl h1_1) rfl rfl (y_leq rfl rfl rfl) ?_
      clear hf a; intro a hf
      refine st_y hf rfl rfl rfl (y_pick_t rfl (ev_b rfl h1_1) rfl) ?_
      clear hf a; intro a hf
      refine st_y hf rfl rfl rfl (y_assign rfl rfl) ?_
      clear hf a; intro a hf
      refine st_end ?_
      refine x_then_n ?_
      obtain rfl := Option.some.inj hq0_1
      exact ⟨hf.sub ⟨rfl, trivial⟩, hm.pick [] (by decide) rfl⟩
    ·
      replace hq0_1 := (ite_f h1_1).symm.trans hq0_1
      have h1_3 := of_decide_eq_false h1_1
      refine st_no hf rfl rfl (lk_b rfl h1_1) rfl rfl rfl ?_
      clear hf a; intro a hf
      refine st_no hf rfl rfl (lk_b rfl h1_1) rfl rfl rfl ?_
      clear hf a; intro a hf
      refine st_no hf rfl rfl (lk_b rfl h1_1) rfl rfl rfl ?_
      clear hf a; intro a hf
      refine st_y hf rfl rfl rfl (y_pick_f rfl (ev_b rfl h1_1) rfl) ?_
      clear hf a; intro a hf
      refine st_y hf rfl rfl rfl (y_assign rfl rfl) ?_
      clear hf a; intro a hf
      refine st_end ?_
      refine x_then_n ?_
      obtain rfl := Option.some.inj hq0_1
      exact ⟨hf.sub ⟨rfl, trivial⟩, hm.pick [] (by decide) rfl⟩
  ·
    clear hf hm
    rintro a w ⟨hf, hm⟩
    refine x_then_n ?_
    refine wp_ret ?_
    obtain rfl := Option.some.inj hq
    refine ret_tmp hf Tryd.results43 rfl ?_
    exact ⟨rfl, hm.below⟩

theorem impl_jumpOp_ok (w0 : World) (op : Int) (r : Bool) (hq : impl_jumpOp op = some r) :
    Con Tryd.prog 42 [(.int .i64 (op))] w0 (fun v w' => v = (.bool (r)) ∧ Below w0.heap.size w0 w') := by
  unfold impl_jumpOp at hq
  refine con_body (l := [(0, (.int .i64 (op)))]) Tryd.func42 rfl Tryd.ntmps42 (Args.get ⟨rfl, trivial⟩) rfl ?_
  intro a hf
  have hm := Mem.start w0
  refine wp_seq ?_
  refine wp_region_lit ?_
  refine st_y hf rfl rfl rfl (y_assign rfl rfl) ?_
  clear hf a; intro a hf
  refine st_end ?_
  refine x_then_n ?_
  refine wp_seq ?_
  obtain ⟨s0_1, hq0_1, hq⟩ := bnd hq
  refine code_cut (K := fun a w => Fr 9 [(2, (.bool (s0_1)))] a ∧ Mem w0 (hp w0) w []) ?_ ?_
  ·
    refine wp_region_lit ?_
    refine st_y hf rfl rfl rfl (y_move rfl rfl) ?_
    clear hf a; intro a hf
    refine st_y hf rfl rfl rfl (y_eql rfl rfl rfl) ?_
    clear hf a; intro a hf
    refine st_y hf rfl rfl rfl (y_move rfl rfl) ?_
    clear hf a; intro a hf
    rcases bcases (decide (op = 20)) with h1_1 | h1_1
    ·
      replace hq0_1 := (ite_t h1_1).symm.trans hq0_1
      have h1_2 := of_decide_eq_true h1_1
      refine st_no hf rfl rfl (lk_b rfl h1_1) rfl rfl rfl ?_
      clear hf a; intro a hf
      refine st_no hf rfl rfl (lk_b rfl h1_1) rfl rfl rfl ?_
      clear hf a; intro a hf
      refine st_y hf rfl rfl rfl (y_pick_t rfl (ev_b rfl h1_1) rfl) ?_
      clear hf a; intro a hf
      refine st_y hf rfl rfl rfl (y_assign rfl rfl) ?_
      clear hf a; intro a hf
      refine st_end ?_
      refine x_then_n ?_
      obtain rfl := Option.some.inj hq0_1
      exact ⟨hf.sub ⟨rfl, trivial⟩, hm.pick [] (by decide) rfl⟩
    ·
      replace hq0_1 := (ite_f h1_1).symm.trans hq0_1
      have h1_3 := of_decide_eq_false h1_1
      refine st_yg hf rfl rfl (lk_b rfl h1_1) rfl rfl (y_move rfl rfl) ?_
      clear hf a; intro a hf
      refine st_yg hf rfl rfl (lk_b rfl h1_1) rfl rfl (y_eql rfl rfl rfl) ?_
      clear hf a; intro a hf
      refine st_y hf rfl rfl rfl (y_pick_f rfl (ev_b rfl h1_1) rfl) ?_
      clear hf a; intro a hf
      refine st_y hf rfl rfl rfl (y_assign rfl rfl) ?_
      clear hf a; intro a hf
      refine st_end ?_
      refine x_then_n ?_
      obtain rfl := Option.some.inj hq0_1
      exact ⟨hf.sub ⟨rfl, trivial⟩, hm.pick [] (by decide) rfl⟩
  ·
    clear hf hm
    rintro a w ⟨hf, hm⟩
    refine x_then_n ?_
    refine wp_ret ?_
    obtain rfl := Option.some.inj hq
    refine ret_tmp hf Tryd.results42 rfl ?_
    exact ⟨rfl, hm.below⟩

theorem impl_shapeOf_ok (w0 : World) (op : Int) (r : Int) (hq : impl_shapeOf op = some r) :
    Con Tryd.prog 65 [(.int .i64 (op))] w0 (fun v w' => v = (.int .i64 (r)) ∧ Below w0.heap.size w0 w') := by
  unfold impl_shapeOf at hq
  refine con_body (l := [(0, (.int .i64 (op)))]) Tryd.func65 rfl Tryd.ntmps65 (Args.get ⟨rfl, trivial⟩) rfl ?_
  intro a hf
  have hm := Mem.start w0
  refine wp_seq ?_
  refine wp_region_lit ?_
  refine st_y hf rfl rfl rfl (y_assign rfl rfl) ?_
  clear hf a; intro a hf
  refine st_end ?_
  refine x_then_n ?_
  refine wp_seq ?_
  refine wp_seq ?_
  refine wp_region_lit ?_
  refine st_y hf rfl rfl rfl (y_move rfl rfl) ?_
  clear hf a; intro a hf
  refine st_end ?_
  refine x_then_n ?_
  refine wp_block ?_
  refine wp_seq ?_
  refine wp_seq ?_
  refine wp_region_lit ?_
  refine st_y hf rfl rfl rfl (y_eql rfl rfl rfl) ?_
  clear hf a; intro a hf
  refine st_y hf rfl rfl rfl (y_assign rfl rfl) ?_
  clear hf a; intro a hf
  refine st_end ?_
  refine x_then_n ?_
  obtain ⟨s0_1, hq0_1, hq⟩ := bnd hq
  refine code_cut (K := fun a w => Fr 24 [(3, (.int .i64 (op))), (4, (.bool (s0_1)))] a ∧ Mem w0 (hp w0) w []) ?_ ?_
  ·
    rcases bcases (decide (op = 1)) with h1_1 | h1_1
    ·
      replace hq0_1 := (ite_t h1_1).symm.trans hq0_1
      have h1_2 := of_decide_eq_true h1_1
      refine cond_t hf rfl h1_1 ?_
      refine wp_skip ?_
      refine x_then_n ?_
      obtain rfl := Option.some.inj hq0_1
      exact ⟨hf.sub ⟨rfl, rfl, trivial⟩, hm.pick [] (by decide) rfl⟩
    ·
      replace hq0_1 := (ite_f h1_1).symm.trans hq0_1
      have h1_3 := of_decide_eq_false h1_1
      refine cond_f hf rfl h1_1 ?_
      refine wp_seq ?_
      refine wp_region_lit ?_
      refine st_y hf rfl rfl rfl (y_eql rfl rfl rfl) ?_
      clear hf a; intro a hf
      refine st_y hf rfl rfl rfl (y_assign rfl rfl) ?_
      clear hf a; intro a hf
      refine st_end ?_
      refine x_then_n ?_
      obtain ⟨s1_1, hq1_1, hq0_1⟩ := bnd hq0_1
      refine code_cut (K := fun a w => Fr 24 [(3, (.int .i64 (op))), (4, (.bool (s1_1)))] a ∧ Mem w0 (hp w0) w []) ?_ ?_
      ·
        rcases bcases (decide (op = 15)) with h2_1 | h2_1
        ·
          replace hq1_1 := (ite_t h2_1).symm.trans hq1_1
          have h2_2 := of_decide_eq_true h2_1
          refine cond_t hf rfl h2_1 ?_
          refine wp_skip ?_
          refine x_then_n ?_
          obtain rfl := Option.some.inj hq1_1
          exact ⟨hf.sub ⟨rfl, rfl, trivial⟩, hm.pick [] (by decide) rfl⟩
        ·
          replace hq1_1 := (ite_f h2_1).symm.trans hq1_1
          have h2_3 := of_decide_eq_false h2_1
          refine cond_f hf rfl h2_1 ?_
          refine wp_seq ?_
          refine wp_region_lit ?_
          refine st_y hf rfl rfl rfl (y_eql rfl rfl rfl) ?_
          clear hf a; intro a hf
          refine st_y hf rfl rfl rfl (y_assign rfl rfl) ?_
          clear hf a; intro a hf
          refine st_end ?_
          refine x_then_n ?_
          obtain ⟨s2_1, hq2_1, hq1_1⟩ := bnd hq1_1
          refine code_cut (K := fun a w => Fr 24 [(3, (.int .i64 (op))), (4, (.bool (s2_1)))] a ∧ Mem w0 (hp w0) w []) ?_ ?_
          ·
            rcases bcases (decide (op = 16)) with h3_1 | h3_1
            ·
              replace hq2_1 := (ite_t h3_1).symm.trans hq2_1
              have h3_2 := of_decide_eq_true h3_1
              refine cond_t hf rfl h3_1 ?_
              refine wp_skip ?_
              refine x_then_n ?_
              obtain rfl := Option.some.inj hq2_1
              exact ⟨hf.sub ⟨rfl, rfl, trivial⟩, hm.pick [] (by decide) rfl⟩
            ·
              replace hq2_1 := (ite_f h3_1).symm.trans hq2_1
              have h3_3 := of_decide_eq_false h3_1
              refine cond_f hf rfl h3_1 ?_
              refine wp_seq ?_
              refine wp_region_lit ?_
              refine st_y hf rfl rfl rfl (y_eql rfl rfl rfl) ?_
              clear hf a; intro a hf
              refine st_y hf rfl rfl rfl (y_assign rfl rfl) ?_
              clear hf a; intro a hf
              refine st_end ?_
              refine x_then_n ?_
              obtain ⟨s3_1, hq3_1, hq2_1⟩ := bnd hq2_1
              refine code_cut (K := fun a w => Fr 24 [(3, (.int .i64 (op))), (4, (.bool (s3_1)))] a ∧ Mem w0 (hp w0) w []) ?_ ?_
              ·
                rcases bcases (decide (op = 17)) with h4_1 | h4_1
                ·
                  replace hq3_1 := (ite_t h4_1).symm.trans hq3_1
                  have h4_2 := of_decide_eq_true h4_1
                  refine cond_t hf rfl h4_1 ?_
                  refine wp_skip ?_
                  refine x_then_n ?_
                  obtain rfl := Option.some.inj hq3_1
                  exact ⟨hf.sub ⟨rfl, rfl, trivial⟩, hm.pick [] (by decide) rfl⟩
                ·
                  replace hq3_1 := (ite_f h4_1).symm.trans hq3_1
                  have h4_3 := of_decide_eq_false h4_1
                  refine cond_f hf rfl h4_1 ?_
                  refine wp_region_lit ?_
                  refine st_y hf rfl rfl rfl (y_eql rfl rfl rfl) ?_
                  clear hf a; intro a hf
                  refine st_y hf rfl rfl rfl (y_assign rfl rfl) ?_
                  clear hf a; intro a hf
                  refine st_end ?_
                  refine x_then_n ?_
                  obtain rfl := Option.some.inj hq3_1
                  exact ⟨hf.sub ⟨rfl, rfl, trivial⟩, hm.pick [] (by decide) rfl⟩
              ·
                clear hf hm
                rintro a w ⟨hf, hm⟩
                refine x_then_n ?_
                obtain rfl := Option.some.inj hq2_1
                exact ⟨hf.sub ⟨rfl, rfl, trivial⟩, hm.pick [] (by decide) rfl⟩
          ·
            clear hf hm
            rintro a w ⟨hf, hm⟩
            refine x_then_n ?_
            obtain rfl := Option.some.inj hq1_1
            exact ⟨hf.sub ⟨rfl, rfl, trivial⟩, hm.pick [] (by decide) rfl⟩
      ·
        clear hf hm
        rintro a w ⟨hf, hm⟩
        refine x_then_n ?_
        obtain rfl := Option.some.inj hq0_1
        exact ⟨hf.sub ⟨rfl, rfl, trivial⟩, hm.pick [] (by decide) rfl⟩
  ·
    clear hf hm
    rintro a w ⟨hf, hm⟩
    refine x_then_n ?_
    rcases bcases (s0_1) with h0_1 | h0_1
    ·
      replace hq := (ite_t h0_1).symm.trans hq
      refine cond_t hf rfl h0_1 ?_
      refine wp_seq ?_
      refine wp_region_lit ?_
      refine st_y hf rfl rfl rfl (y_assign rfl rfl) ?_
      clear hf a; intro a hf
      refine st_end ?_
      refine x_then_n ?_
      refine wp_ret ?_
      refine x_blk_ret ?_
      refine x_then_ret ?_
      obtain rfl := Option.some.inj hq
      refine ret_tmp hf Tryd.results65 rfl ?_
      exact ⟨rfl, hm.below⟩
    ·
      replace hq := (ite_f h0_1).symm.trans hq
      refine cond_f hf rfl h0_1 ?_
      refine wp_seq ?_
      refine wp_seq ?_
      refine wp_region_lit ?_
      refine st_y hf rfl rfl rfl (y_eql rfl rfl rfl) ?_
      clear hf a; intro a hf
      refine st_y hf rfl rfl rfl (y_assign rfl rfl) ?_
      clear hf a; intro a hf
      refine st_end ?_
      refine x_then_n ?_
      obtain ⟨s0_2, hq0_2, hq⟩ := bnd hq
      refine code_cut (K := fun a w => Fr 24 [(3, (.int .i64 (op))), (10, (.bool (s0_2)))] a ∧ Mem w0 (hp w0) w []) ?_ ?_
      ·
        rcases bcases (decide (op = 2)) with h1_4 | h1_4
        ·
          replace hq0_2 := (ite_t h1_4).symm.trans hq0_2
          have h1_5 := of_decide_eq_true h1_4
          refine cond_t hf rfl h1_4 ?_
          refine wp_skip ?_
          refine x_then_n ?_
          obtain rfl := Option.some.inj hq0_2
          exact ⟨hf.sub ⟨rfl, rfl, trivial⟩, hm.pick [] (by decide) rfl⟩
        ·
          replace hq0_2 := (ite_f h1_4).symm.trans hq0_2
          have h1_6 := of_decide_eq_false h1_4
          refine cond_f hf rfl h1_4 ?_
          refine wp_seq ?_
          refine wp_region_lit ?_
          refine st_y hf rfl rfl rfl (y_eql rfl rfl rfl) ?_
          clear hf a; intro a hf
          refine st_y hf rfl rfl rfl (y_assign rfl rfl) ?_
          clear hf a; intro a hf
          refine st_end ?_
          refine x_then_n ?_
          obtain ⟨s1_2, hq1_2, hq0_2⟩ := bnd hq0_2
          refine code_cut (K := fun a w => Fr 24 [(3, (.int .i64 (op))), (10, (.bool (s1_2)))] a ∧ Mem w0 (hp w0) w []) ?_ ?_
          ·
            rcases bcases (decide (op = 10)) with h2_4 | h2_4
            ·
              replace hq1_2 := (ite_t h2_4).symm.trans hq1_2
              have h2_5 := of_decide_eq_true h2_4
              refine cond_t hf rfl h2_4 ?_
              refine wp_skip ?_
              refine x_then_n ?_
              obtain rfl := Option.some.inj hq1_2
              exact ⟨hf.sub ⟨rfl, rfl, trivial⟩, hm.pick [] (by decide) rfl⟩
            ·
              replace hq1_2 := (ite_f h2_4).symm.trans hq1_2
              have h2_6 := of_decide_eq_false h2_4
              refine cond_f hf rfl h2_4 ?_
              refine wp_seq ?_
              refine wp_region_lit ?_
              refine st_y hf rfl rfl rfl (y_eql rfl rfl rfl) ?_
              clear hf a; intro a hf
              refine st_y hf rfl rfl rfl (y_assign rfl rfl) ?_
              clear hf a; intro a hf
              refine st_end ?_
              refine x_then_n ?_
              obtain ⟨s2_2, hq2_2, hq1_2⟩ := bnd hq1_2
              refine code_cut (K := fun a w => Fr 24 [(3, (.int .i64 (op))), (10, (.bool (s2_2)))] a ∧ Mem w0 (hp w0) w []) ?_ ?_
              ·
                rcases bcases (decide (op = 11)) with h3_4 | h3_4
                ·
                  replace hq2_2 := (ite_t h3_4).symm.trans hq2_2
                  have h3_5 := of_decide_eq_true h3_4
                  refine cond_t hf rfl h3_4 ?_
                  refine wp_skip ?_
                  refine x_then_n ?_
                  obtain rfl := Option.some.inj hq2_2
                  exact ⟨hf.sub ⟨rfl, rfl, trivial⟩, hm.pick [] (by decide) rfl⟩
                ·
                  replace hq2_2 := (ite_f h3_4).symm.trans hq2_2
                  have h3_6 := of_decide_eq_false h3_4
                  refine cond_f hf rfl h3_4 ?_
                  refine wp_region_lit ?_
                  refine st_y hf rfl rfl rfl (y_eql rfl rfl rfl) ?_
                  clear hf a; intro a hf
                  refine st_y hf rfl rfl rfl (y_assign rfl rfl) ?_
                  clear hf a; intro a hf
                  refine st_end ?_
                  refine x_then_n ?_
                  obtain rfl := Option.some.inj hq2_2
                  exact ⟨hf.sub ⟨rfl, rfl, trivial⟩, hm.pick [] (by decide) rfl⟩
              ·
                clear hf hm
                rintro a w ⟨hf, hm⟩
                refine x_then_n ?_
                obtain rfl := Option.some.inj hq1_2
                exact ⟨hf.sub ⟨rfl, rfl, trivial⟩, hm.pick [] (by decide) rfl⟩
          ·
            clear hf hm
            rintro a w ⟨hf, hm⟩
            refine x_then_n ?_
            obtain rfl := Option.some.inj hq0_2
            exact ⟨hf.sub ⟨rfl, rfl, trivial⟩, hm.pick [] (by decide) rfl⟩
      ·
        clear hf hm
        rintro a w ⟨hf, hm⟩
        refine x_then_n ?_
        rcases bcases (s0_2) with h0_2 | h0_2
        ·
          replace hq := (ite_t h0_2).symm.trans hq
          refine cond_t hf rfl h0_2 ?_
          refine wp_seq ?_
          refine wp_region_lit ?_
          refine st_y hf rfl rfl rfl (y_assign rfl rfl) ?_
          clear hf a; intro a hf
          refine st_end ?_
          refine x_then_n ?_
          refine wp_ret ?_
          refine x_blk_ret ?_
          refine x_then_ret ?_
          obtain rfl := Option.some.inj hq
          refine ret_tmp hf Tryd.results65 rfl ?_
          exact ⟨rfl, hm.below⟩
        ·
          replace hq := (ite_f h0_2).symm.trans hq
          refine cond_f hf rfl h0_2 ?_
          refine wp_seq ?_
          refine wp_seq ?_
          refine wp_region_lit ?_
          refine st_y hf rfl rfl rfl (y_eql rfl rfl rfl) ?_
          clear hf a; intro a hf
          refine st_y hf rfl rfl rfl (y_assign rfl rfl) ?_
          clear hf a; intro a hf
          refine st_end ?_
          refine x_then_n ?_
          obtain ⟨s0_3, hq0_3, hq⟩ := bnd hq
          refine code_cut (K := fun a w => Fr 24 [(3, (.int .i64 (op))), (15, (.bool (s0_3)))] a ∧ Mem w0 (hp w0) w []) ?_ ?_
          ·
            rcases bcases (decide (op = 13)) with h1_7 | h1_7
            ·
              replace hq0_3 := (ite_t h1_7).symm.trans hq0_3
              have h1_8 := of_decide_eq_true h1_7
              refine cond_t hf rfl h1_7 ?_
              refine wp_skip ?_
              refine x_then_n ?_
              obtain rfl := Option.some.inj hq0_3
              exact ⟨hf.sub ⟨rfl, rfl, trivial⟩, hm.pick [] (by decide) rfl⟩
            ·
              replace hq0_3 := (ite_f h1_7).symm.trans hq0_3
              have h1_9 := of_decide_eq_false h1_7
              refine cond_f hf rfl h1_7 ?_
              refine wp_seq ?_
              refine wp_region_lit ?_
              refine st_y hf rfl rfl rfl (y_eql rfl rfl rfl) ?_
              clear hf a; intro a hf
              refine st_y hf rfl rfl rfl (y_assign rfl rfl) ?_
              clear hf a; intro a hf
              refine st_end ?_
              refine x_then_n ?_
              obtain ⟨s1_3, hq1_3, hq0_3⟩ := bnd hq0_3
              refine code_cut (K := fun a w => Fr 24 [(3, (.int .i64 (op))), (15, (.bool (s1_3)))] a ∧ Mem w0 (hp w0) w []) ?_ ?_
              ·
                rcases bcases (decide (op = 19)) with h2_7 | h2_7
                ·
                  replace hq1_3 := (ite_t h2_7).symm.trans hq1_3
                  have h2_8 := of_decide_eq_true h2_7
                  refine cond_t hf rfl h2_7 ?_
                  refine wp_skip ?_
                  refine x_then_n ?_
                  obtain rfl := Option.some.inj hq1_3
                  exact ⟨hf.sub ⟨rfl, rfl, trivial⟩, hm.pick [] (by decide) rfl⟩
                ·
                  replace hq1_3 := (ite_f h2_7).symm.trans hq1_3
                  have h2_9 := of_decide_eq_false h2_7
                  refine cond_f hf rfl h2_7 ?_
                  refine wp_region_lit ?_
                  refine st_y hf rfl rfl rfl (y_eql rfl rfl rfl) ?_
                  clear hf a; intro a hf
                  refine st_y hf rfl rfl rfl (y_assign rfl rfl) ?_
                  clear hf a; intro a hf
                  refine st_end ?_
                  refine x_then_n ?_
                  obtain rfl := Option.some.inj hq1_3
                  exact ⟨hf.sub ⟨rfl, rfl, trivial⟩, hm.pick [] (by decide) rfl⟩
              ·
                clear hf hm
                rintro a w ⟨hf, hm⟩
                refine x_then_n ?_
                obtain rfl := Option.some.inj hq0_3
                exact ⟨hf.sub ⟨rfl, rfl, trivial⟩, hm.pick [] (by decide) rfl⟩
          ·
            clear hf hm
            rintro a w ⟨hf, hm⟩
            refine x_then_n ?_
            rcases bcases (s0_3) with h0_3 | h0_3
            ·
              replace hq := (ite_t h0_3).symm.trans hq
              refine cond_t hf rfl h0_3 ?_
              refine wp_seq ?_
              refine wp_region_lit ?_
              refine st_y hf rfl rfl rfl (y_assign rfl rfl) ?_
              clear hf a; intro a hf
              refine st_end ?_
              refine x_then_n ?_
              refine wp_ret ?_
              refine x_blk_ret ?_
              refine x_then_ret ?_
              obtain rfl := Option.some.inj hq
              refine ret_tmp hf Tryd.results65 rfl ?_
              exact ⟨rfl, hm.below⟩
            ·
              replace hq := (ite_f h0_3).symm.trans hq
              refine cond_f hf rfl h0_3 ?_
              refine wp_seq ?_
              refine wp_region_lit ?_
              refine st_y hf rfl rfl rfl (y_eql rfl rfl rfl) ?_
              clear hf a; intro a hf
              refine st_y hf rfl rfl rfl (y_assign rfl rfl) ?_
              clear hf a; intro a hf
              refine st_end ?_
              refine x_then_n ?_
              rcases bcases (decide (op = 14)) with h0_4 | h0_4
              ·
                replace hq := (ite_t h0_4).symm.trans hq
                have h0_5 := of_decide_eq_true h0_4
                refine cond_t hf rfl h0_4 ?_
                refine wp_seq ?_
                refine wp_region_lit ?_
                refine st_y hf rfl rfl rfl (y_assign rfl rfl) ?_
                clear hf a; intro a hf
                refine st_end ?_
                refine x_then_n ?_
                refine wp_ret ?_
                refine x_blk_ret ?_
                refine x_then_ret ?_
                obtain rfl := Option.some.inj hq
                refine ret_tmp hf Tryd.results65 rfl ?_
                exact ⟨rfl, hm.below⟩
              ·
                replace hq := (ite_f h0_4).symm.trans hq
                have h0_6 := of_decide_eq_false h0_4
                refine cond_f hf rfl h0_4 ?_
                refine wp_seq ?_
                refine wp_seq ?_
                refine wp_region_lit ?_
                refine st_y hf rfl rfl rfl (y_eql rfl rfl rfl) ?_
                clear hf a; intro a hf
                refine st_y hf rfl rfl rfl (y_assign rfl rfl) ?_
                clear hf a; intro a hf
                refine st_end ?_
                refine x_then_n ?_
                obtain ⟨s0_4, hq0_4, hq⟩ := bnd hq
                refine code_cut (K := fun a w => Fr 24 [(21, (.bool (s0_4)))] a ∧ Mem w0 (hp w0) w []) ?_ ?_
                ·
                  rcases bcases (decide (op = 20)) with h1_10 | h1_10
                  ·
                    replace hq0_4 := (ite_t h1_10).symm.trans hq0_4
                    have h1_11 := of_decide_eq_true h1_10
                    refine cond_t hf rfl h1_10 ?_
                    refine wp_skip ?_
                    refine x_then_n ?_
                    obtain rfl := Option.some.inj hq0_4
                    exact ⟨hf.sub ⟨rfl, trivial⟩, hm.pick [] (by decide) rfl⟩
                  ·
                    replace hq0_4 := (ite_f h1_10).symm.trans hq0_4
                    have h1_12 := of_decide_eq_false h1_10
                    refine cond_f hf rfl h1_10 ?_
                    refine wp_region_lit ?_
                    refine st_y hf rfl rfl rfl (y_eql rfl rfl rfl) ?_
                    clear hf a; intro a hf
                    refine st_y hf rfl rfl rfl (y_assign rfl rfl) ?_
                    clear hf a; intro a hf
                    refine st_end ?_
                    refine x_then_n ?_
                    obtain rfl := Option.some.inj hq0_4
                    exact ⟨hf.sub ⟨rfl, trivial⟩, hm.pick [] (by decide) rfl⟩
                ·
                  clear hf hm
                  rintro a w ⟨hf, hm⟩
                  refine x_then_n ?_
                  rcases bcases (s0_4) with h0_7 | h0_7
                  ·
                    replace hq := (ite_t h0_7).symm.trans hq
                    refine cond_t hf rfl h0_7 ?_
                    refine wp_seq ?_
                    refine wp_region_lit ?_
                    refine st_y hf rfl rfl rfl (y_assign rfl rfl) ?_
                    clear hf a; intro a hf
                    refine st_end ?_
                    refine x_then_n ?_
                    refine wp_ret ?_
                    refine x_blk_ret ?_
                    refine x_then_ret ?_
                    obtain rfl := Option.some.inj hq
                    refine ret_tmp hf Tryd.results65 rfl ?_
                    exact ⟨rfl, hm.below⟩
                  ·
                    replace hq := (ite_f h0_7).symm.trans hq
                    refine cond_f hf rfl h0_7 ?_
                    refine wp_skip ?_
                    refine x_blk_n ?_
                    refine x_then_n ?_
                    refine wp_seq ?_
                    refine wp_region_lit ?_
                    refine st_y hf rfl rfl rfl (y_assign rfl rfl) ?_
                    clear hf a; intro a hf
                    refine st_end ?_
                    refine x_then_n ?_
                    refine wp_ret ?_
                    obtain rfl := Option.some.inj hq
                    refine ret_tmp hf Tryd.results65 rfl ?_
                    exact ⟨rfl, hm.below⟩

theorem impl_mapped_byte_int_ok (w0 : World) (list : List UInt8) (v1 : Value) (h1 : GT.rep (hp w0) [v1] list) (f : UInt8 → Option Int) (fv2 : Value) (hfn2 : ∀ (w : World) (y0 : UInt8) (r : Int), Below w0.heap.size w0 w → f y0 = some r → FnOk Tryd.prog fv2 [(.int .u8 ((y0).toNat : Int))] w (fun v w' => v = (.int .i64 (r)) ∧ Below w.heap.size w w')) (r : (List Int)) (hq : impl_mapped_byte_int list f = some r) :
    Con Tryd.prog 75 [v1, fv2] w0 (fun v w' => ∃ (x1 : Value), v = x1 ∧ Mem w0 (hp w0) w' [ow [x1] r]) := by
  unfold impl_mapped_byte_int at hq
  refine con_body (l := [(0, v1), (1, fv2)]) Tryd.func75 rfl Tryd.ntmps75 (Args.get ⟨rfl, rfl, trivial⟩) rfl ?_
  intro a hf
  have hm := Mem.start w0
  refine wp_seq ?_
  refine wp_region_lit ?_
  refine st_y hf rfl rfl rfl (y_assign rfl rfl) ?_
  clear hf a; intro a hf
  refine st_end ?_
  refine x_then_n ?_
  refine wp_seq ?_
  refine wp_region_lit ?_
  refine st_y hf rfl rfl rfl (y_assign rfl rfl) ?_
  clear hf a; intro a hf
  refine st_end ?_
  refine x_then_n ?_
  refine wp_seq ?_
  refine wp_seq ?_
  refine wp_region_lit ?_
  refine st_y hf rfl rfl rfl (y_move rfl rfl) ?_
  clear hf a; intro a hf
  obtain ⟨p0_1, c0_1, he, hl0_1⟩ := ro_slice h1
  subst he
  refine st_y hf rfl rfl rfl (y_len_slice st_24.und rfl rfl) ?_
  clear hf a; intro a hf
  refine st_y hf rfl rfl rfl (y_move rfl rfl) ?_
  clear hf a; intro a hf
  refine st_end ?_
  refine x_then_n ?_
  refine wp_block ?_
  obtain ⟨r0_1, hl0_2, hq⟩ := bnd hq
  refine wp_forN _ (fun i1_1 xs1_1 a w => ∃ (v1_1 : Value), Fr 22 [(1, fv2), (5, v1_1), (8, (.slice p0_1 list.length c0_1)), (9, (.int .i64 ((list.length : Int)))), (10, (.int .i64 (i1_1)))] a ∧ Mem w0 (hp w0) w [ow [v1_1] xs1_1]) (0) ((list.length : Int)) hl0_2 ?_ ?_ ?_
  ·
    have hm := hm.nilow (α := Int)
    exact ⟨(.slice none 0 0), hf.sub ⟨rfl, rfl, rfl, rfl, rfl, trivial⟩, hm.pick [0] (by decide) rfl⟩
  ·
    clear hf hm
    rintro i1_1 xs1_1 a w ⟨v1_1, hf, hm⟩ hi1_1 hi1_2 q0_1 hb0_1 ho0_1
    refine wp_seq ?_
    refine wp_region_lit ?_
    refine st_y hf rfl rfl rfl (y_lss rfl rfl rfl) ?_
    clear hf a; intro a hf
    refine st_end ?_
    refine x_then_n ?_
    refine wp_seq ?_
    refine cond_t hf rfl (decide_eq_true (by omega)) ?_
    refine wp_skip ?_
    refine x_then_n ?_
    refine wp_seq ?_
    refine wp_block ?_
    refine wp_seq ?_
    refine wp_region_lit ?_
    obtain ⟨x1_1, hx1_1, hb0_1⟩ := bnd hb0_1
    obtain ⟨h1_1, hx1_2⟩ := getI_some.1 hx1_1
    obtain ⟨b1_1, o1_1, c1_1, he⟩ := idx_form h1 hx1_2
    simp only [Value.slice.injEq, Option.some.injEq] at he; obtain ⟨rfl, _, rfl⟩ := he
    refine st_y hf rfl rfl rfl (y_indexAddr st_24 rfl rfl rfl h1_1 (idx_lt hx1_2)) ?_
    clear hf a; intro a hf
    refine st_y hf rfl rfl rfl (y_load1 Tryd.isAgg5 rfl rfl ((flat_cells (cs := [(.int .u8 ((x1_1).toNat : Int))]) (hm.now h1) hx1_2 rfl).cell (j := 0) rfl)) ?_
    clear hf a; intro a hf
    refine st_y hf rfl rfl rfl (y_assign rfl rfl) ?_
    clear hf a; intro a hf
    refine st_end ?_
    refine x_then_n ?_
    refine wp_region_lit ?_
    refine st_y hf rfl rfl rfl (y_move rfl rfl) ?_
    clear hf a; intro a hf
    refine st_y hf rfl rfl rfl (y_move rfl rfl) ?_
    clear hf a; intro a hf
    refine st_y hf rfl rfl rfl (y_move rfl rfl) ?_
    clear hf a; intro a hf
    obtain ⟨r1_1, hx1_3, hb0_1⟩ := bnd hb0_1
    refine st_ef hf rfl rfl rfl (e_callv hf rfl rfl rfl (hfn2 _ x1_1 _ hm.below hx1_3)) ?_
    clear hf a; rintro v1_2 w1_1 a ho1_1 hf
    obtain ⟨rfl, hB⟩ := ho1_1
    replace hm := hm.below' hB; clear hB
    refine st_ef hf rfl rfl rfl (e_build (vs := #[(0, (.int .i64 (r1_1)))]) (cs := [(.int .i64 (r1_1))]) et_46 hf hm rfl rfl (by kernel_rfl) rfl rfl) ?_
    clear hf a; rintro _ w1_2 a ⟨b1_2, rfl, hm⟩ hf
    replace hm := hm.lit (xs := ([r1_1] : List Int)) 0 rfl rfl rfl rfl
    obtain ⟨ys1_1, hx1_4, hb0_1⟩ := bnd hb0_1
    obtain ⟨h1_2, h1_2e⟩ := appM_some.1 hx1_4
    refine st_ef hf rfl rfl rfl (e_append 1 et_46 hf hm rfl (hm.ow_rep 0 rfl) rfl rfl rfl h1_2) ?_
    clear hf a; rintro v1_3 w1_3 a hm hf
    rw [h1_2e] at hm
    refine st_y hf rfl rfl rfl (y_assign rfl rfl) ?_
    clear hf a; intro a hf
    refine st_end ?_
    refine x_blk_n ?_
    refine x_then_n ?_
    refine wp_region_lit ?_
    refine st_y hf rfl rfl rfl (y_add64 rfl rfl rfl (by omega) (by omega)) ?_
    clear hf a; intro a hf
    refine st_y hf rfl rfl rfl (y_move rfl rfl) ?_
    clear hf a; intro a hf
    refine st_end ?_
    refine x_then_n ?_
    obtain rfl := Option.some.inj hb0_1
    exact ⟨_, rfl, v1_3, hf.sub ⟨rfl, rfl, rfl, rfl, rfl, trivial⟩, hm.pick [1] (by decide) rfl⟩
  ·
    clear hf hm
    rintro i0_1 xs0_1 a w ⟨v0_1, hf, hm⟩ hi0_1 hi0_2 rfl
    replace hq := sum_l hq
    refine wp_seq ?_
    refine wp_region_lit ?_
    refine st_y hf rfl rfl rfl (y_lss rfl rfl rfl) ?_
    clear hf a; intro a hf
    refine st_end ?_
    refine x_then_n ?_
    refine wp_seq ?_
    refine cond_f hf rfl (decide_eq_false (by omega)) ?_
    refine wp_exit ?_
    refine x_then_exit ?_
    refine x_then_exit ?_
    refine x_blk_hit ?_
    refine x_then_n ?_
    refine wp_seq ?_
    refine wp_region_lit ?_
    refine st_y hf rfl rfl rfl (y_move rfl rfl) ?_
    clear hf a; intro a hf
    refine st_y hf rfl rfl rfl (y_assign rfl rfl) ?_
    clear hf a; intro a hf
    refine st_end ?_
    refine x_then_n ?_
    refine wp_ret ?_
    obtain rfl := Option.some.inj hq
    refine ret_tmp hf Tryd.results75 rfl ?_
    exact ⟨v0_1, rfl, hm.pick [0] (by decide) rfl⟩

theorem impl_decoded_1_ok (w0 : World) (c_ : UInt8) (r : Int) (hq : impl_decoded_1 c_ = some r) :
    Con Tryd.prog 76 [(.int .u8 ((c_).toNat : Int))] w0 (fun v w' => v = (.int .i64 (r)) ∧ Below w0.heap.size w0 w') := by
  unfold impl_decoded_1 at hq
  refine con_body (l := [(0, (.int .u8 ((c_).toNat : Int)))]) Tryd.func76 rfl Tryd.ntmps76 (Args.get ⟨rfl, trivial⟩) rfl ?_
  intro a hf
  have hm := Mem.start w0
  refine wp_seq ?_
  refine wp_region_lit ?_
  refine st_y hf rfl rfl rfl (y_assign rfl rfl) ?_
  clear hf a; intro a hf
  refine st_end ?_
  refine x_then_n ?_
  refine wp_seq ?_
  refine wp_region_lit ?_
  refine st_y hf rfl rfl rfl (y_move rfl rfl) ?_
  clear hf a; intro a hf
  refine st_y hf rfl rfl rfl (y_conv64 (b := c_) Tryd.underlying5 Tryd.underlying3 rfl rfl) ?_
  clear hf a; intro a hf
  have hu0_1 := UInt8.toNat_lt (c_)
  refine st_y hf rfl rfl rfl (y_assign rfl rfl) ?_
  clear hf a; intro a hf
  refine st_end ?_
  refine x_then_n ?_
  refine wp_ret ?_
  obtain rfl := Option.some.inj hq
  refine ret_tmp hf Tryd.results76 rfl ?_
  exact ⟨rfl, hm.below⟩

theorem impl_decoded_ok (w0 : World) (code : List UInt8) (v1 : Value) (h1 : GT.rep (hp w0) [v1] code) (at_ : Int) (r : Mins × Int) (hq : impl_decoded code at_ = some r) :
    Con Tryd.prog 61 [v1, (.int .i64 (at_))] w0 (fun v w' => v = (.tuple #[(.agg #[(.int .i64 (r.1.op)), (.int .i64 (r.1.a_)), (.int .i64 (r.1.b)), (.int .i64 (r.1.c)), (.int .i64 (r.1.n_))]), (.int .i64 (r.2))]) ∧ Below w0.heap.size w0 w') := by
  unfold impl_decoded at hq
  refine con_body (l := [(0, v1), (1, (.int .i64 (at_)))]) Tryd.func61 rfl Tryd.ntmps61 (Args.get ⟨rfl, rfl, trivial⟩) rfl ?_
  intro a hf
  have hm := Mem.start w0
  refine wp_seq ?_
  refine wp_region_lit ?_
  refine st_ef hf rfl rfl rfl (e_alloc hm Tryd.zeroValue27 rfl rfl) ?_
  clear hf a; rintro _ w0_1 a ⟨b0_1, rfl, hm⟩ hf
  refine st_y hf rfl rfl rfl (y_assign rfl rfl) ?_
  clear hf a; intro a hf
  refine st_end ?_
  refine x_then_n ?_
  refine wp_seq ?_
  refine wp_region_lit ?_
  refine st_y hf rfl rfl rfl (y_move rfl rfl) ?_
  clear hf a; intro a hf
  refine st_y hf rfl rfl rfl (y_move rfl rfl) ?_
  clear hf a; intro a hf
  obtain ⟨x0_1, hx0_1, hq⟩ := bnd hq
  obtain ⟨h0_1, h0_1e⟩ := subM_some.1 hx0_1
  obtain ⟨v0_1, hy0_1, h0_2⟩ : ∃ nv, nv = subV (GT.sz (UInt8)) v1 (at_ : Int).toNat ((code.length : Int) : Int).toNat ∧ GT.rep (hp w0) [nv] x0_1 := ⟨_, rfl, by rw [← h0_1e]; exact rep_subV h1 (by omega) (by omega)⟩
  refine st_y hf rfl rfl rfl (yl_eq hy0_1 (y_slcL (α := UInt8) st_24 h1 rfl rfl rfl h0_1 _)) ?_
  clear hf a; intro a hf
  refine st_y hf rfl rfl rfl (y_assign rfl rfl) ?_
  clear hf a; intro a hf
  refine st_end ?_
  refine x_then_n ?_
  refine wp_seq ?_
  refine wp_region_lit ?_
  refine st_y hf rfl rfl rfl (y_move rfl rfl) ?_
  clear hf a; intro a hf
  obtain ⟨x0_2, hx0_2, hq⟩ := bnd hq
  obtain ⟨h0_3, hx0_3⟩ := getI_some.1 hx0_2
  obtain ⟨b0_2, o0_1, c0_1, he⟩ := idx_form h0_2 hx0_3
  subst he
  refine st_y hf rfl rfl rfl (y_indexAddr st_24 rfl rfl rfl h0_3 (idx_lt hx0_3)) ?_
  clear hf a; intro a hf
  refine st_y hf rfl rfl rfl (y_load1 Tryd.isAgg5 rfl rfl ((flat_cells (cs := [(.int .u8 ((x0_2).toNat : Int))]) (hm.now h0_2) hx0_3 rfl).cell (j := 0) rfl)) ?_
  clear hf a; intro a hf
  refine st_y hf rfl rfl rfl (y_conv64 (b := x0_2) Tryd.underlying5 Tryd.underlying3 rfl rfl) ?_
  clear hf a; intro a hf
  have hu0_1 := UInt8.toNat_lt (x0_2)
  refine st_y hf rfl rfl rfl (y_assign rfl rfl) ?_
  clear hf a; intro a hf
  refine st_end ?_
  refine x_then_n ?_
  refine wp_seq ?_
  refine wp_region_lit ?_
  refine st_y hf rfl rfl rfl (y_move rfl rfl) ?_
  clear hf a; intro a hf
  refine st_y hf rfl rfl rfl (y_geq rfl rfl rfl) ?_
  clear hf a; intro a hf
  refine st_y hf rfl rfl rfl (y_assign rfl rfl) ?_
  clear hf a; intro a hf
  refine st_end ?_
  refine x_then_n ?_
  refine wp_seq ?_
  refine wp_seq ?_
  refine wp_region_lit ?_
  refine st_y hf rfl rfl rfl (y_move rfl rfl) ?_
  clear hf a; intro a hf
  refine st_end ?_
  refine x_then_n ?_
  obtain ⟨s0_1, hq0_1, hq⟩ := bnd hq
  refine code_cut (K := fun a w => 0 ≤ s0_1 ∧ s0_1 ≤ 127 ∧ Fr 145 [(1, (.int .i64 (at_))), (4, (.pointer (some ⟨b0_1, 0, none⟩))), (6, (.slice (some ⟨b0_2, o0_1, none⟩) x0_1.length c0_1)), (7, (.int .i64 (s0_1))), (8, (.bool (decide (128 ≤ (((x0_2).toNat : Int))))))] a ∧ Mem w0 (hp w0) w [blk b0_1 [(.int .i64 (0)), (.int .i64 (0)), (.int .i64 (0)), (.int .i64 (0)), (.int .i64 (0))] 27]) ?_ ?_
  ·
    rcases bcases (decide (128 ≤ (((x0_2).toNat : Int)))) with h1_1 | h1_1
    ·
      replace hq0_1 := (ite_t h1_1).symm.trans hq0_1
      have h1_2 := of_decide_eq_true h1_1
      refine cond_t hf rfl h1_1 ?_
      refine wp_region_lit ?_
      refine st_y hf rfl rfl rfl (y_move rfl rfl) ?_
      clear hf a; intro a hf
      refine st_y hf rfl rfl rfl (y_sub64 rfl rfl rfl (by omega) (by omega)) ?_
      clear hf a; intro a hf
      refine st_y hf rfl rfl rfl (y_assign rfl rfl) ?_
      clear hf a; intro a hf
      refine st_end ?_
      refine x_then_n ?_
      obtain rfl := Option.some.inj hq0_1
      exact ⟨(by first | omega | (dsimp only; omega)), (by first | omega | (dsimp only; omega)), hf.sub ⟨rfl, rfl, rfl, rfl, rfl, trivial⟩, hm.pick [0] (by decide) rfl⟩
    ·
      replace hq0_1 := (ite_f h1_1).symm.trans hq0_1
      have h1_3 := of_decide_eq_false h1_1
      refine cond_f hf rfl h1_1 ?_
      refine wp_skip ?_
      refine x_then_n ?_
      obtain rfl := Option.some.inj hq0_1
      exact ⟨(by first | omega | (dsimp only; omega)), (by first | omega | (dsimp only; omega)), hf.sub ⟨rfl, rfl, rfl, rfl, rfl, trivial⟩, hm.pick [0] (by decide) rfl⟩
  ·
    clear hf hm
    rintro a w ⟨hn0_1, hn0_2, hf, hm⟩
    refine x_then_n ?_
    refine wp_seq ?_
    refine wp_seq ?_
    obtain ⟨s0_2, hq0_2, hq⟩ := bnd hq
    refine code_cut (K := fun a w => Fr 145 [(1, (.int .i64 (at_))), (4, (.pointer (some ⟨b0_1, 0, none⟩))), (6, (.slice (some ⟨b0_2, o0_1, none⟩) x0_1.length c0_1)), (7, (.int .i64 (s0_1))), (8, (.bool (decide (128 ≤ (((x0_2).toNat : Int)))))), (34, (.bool (s0_2)))] a ∧ Mem w0 (hp w0) w [blk b0_1 [(.int .i64 (0)), (.int .i64 (0)), (.int .i64 (0)), (.int .i64 (0)), (.int .i64 (0))] 27]) ?_ ?_
    ·
      refine wp_region_lit ?_
      refine st_y hf rfl rfl rfl (y_move rfl rfl) ?_
      clear hf a; intro a hf
      obtain ⟨r1_1, hx1_1, hq0_2⟩ := bnd hq0_2
      refine st_ef hf rfl rfl rfl (e_call hf rfl Tryd.call43 rfl (impl_within_ok _ s0_1 1 22 _ hx1_1)) ?_
      clear hf a; rintro v1_1 w1_1 a ho1_1 hf
      obtain ⟨rfl, hB⟩ := ho1_1
      replace hm := hm.below' hB; clear hB
      refine st_y hf rfl rfl rfl (y_not rfl rfl) ?_
      clear hf a; intro a hf
      refine st_y hf rfl rfl rfl (y_move rfl rfl) ?_
      clear hf a; intro a hf
      rcases bcases (!(r1_1)) with h1_4 | h1_4
      ·
        replace hq0_2 := (ite_t h1_4).symm.trans hq0_2
        have h1_5 := bnot_t' h1_4
        refine st_no hf rfl rfl (lk_b rfl h1_4) rfl rfl rfl ?_
        clear hf a; intro a hf
        refine st_no hf rfl rfl (lk_b rfl h1_4) rfl rfl rfl ?_
        clear hf a; intro a hf
        refine st_nou hf rfl rfl rfl rfl rfl ?_
        clear hf a; intro a hf
        refine st_nou hf rfl rfl rfl rfl rfl ?_
        clear hf a; intro a hf
        refine st_nou hf rfl rfl rfl rfl rfl ?_
        clear hf a; intro a hf
        refine st_no hf rfl rfl (lk_b rfl h1_4) rfl rfl rfl ?_
        clear hf a; intro a hf
        refine st_y hf rfl rfl rfl (y_pick_t rfl (ev_b rfl h1_4) rfl) ?_
        clear hf a; intro a hf
        refine st_end ?_
        refine x_then_n ?_
        obtain rfl := Option.some.inj hq0_2
        exact ⟨hf.sub ⟨rfl, rfl, rfl, rfl, rfl, rfl, trivial⟩, hm.pick [0] (by decide) rfl⟩
      ·
        replace hq0_2 := (ite_f h1_4).symm.trans hq0_2
        have h1_6 := bnot_f' h1_4
        refine st_yg hf rfl rfl (lk_b rfl h1_4) rfl rfl (y_move rfl rfl) ?_
        clear hf a; intro a hf
        refine st_yg hf rfl rfl (lk_b rfl h1_4) rfl rfl (y_move rfl rfl) ?_
        clear hf a; intro a hf
        rcases bcases (decide (128 ≤ (((x0_2).toNat : Int)))) with h1_7 | h1_7
        ·
          replace hq0_2 := (ite_t h1_7).symm.trans hq0_2
          have h1_8 := of_decide_eq_true h1_7
          refine st_yg hf rfl rfl (lk_b rfl h1_7) rfl rfl (y_move rfl rfl) ?_
          clear hf a; intro a hf
          obtain ⟨r1_2, hx1_2, hq0_2⟩ := bnd hq0_2
          refine st_efg hf rfl rfl (lk_b rfl h1_7) rfl rfl (e_call hf rfl Tryd.call42 rfl (impl_jumpOp_ok _ s0_1 _ hx1_2)) ?_
          clear hf a; rintro v1_2 w1_2 a ho1_2 hf
          obtain ⟨rfl, hB⟩ := ho1_2
          replace hm := hm.below' hB; clear hB
          refine st_yg hf rfl rfl (lk_b rfl h1_7) rfl rfl (y_not rfl rfl) ?_
          clear hf a; intro a hf
          refine st_yg hf rfl rfl (lk_b rfl h1_4) rfl rfl (y_pick_t rfl (ev_b rfl h1_7) rfl) ?_
          clear hf a; intro a hf
          refine st_y hf rfl rfl rfl (y_pick_f rfl (ev_b rfl h1_4) rfl) ?_
          clear hf a; intro a hf
          refine st_end ?_
          refine x_then_n ?_
          obtain rfl := Option.some.inj hq0_2
          exact ⟨hf.sub ⟨rfl, rfl, rfl, rfl, rfl, rfl, trivial⟩, hm.pick [0] (by decide) rfl⟩
        ·
          replace hq0_2 := (ite_f h1_7).symm.trans hq0_2
          have h1_9 := of_decide_eq_false h1_7
          refine st_no hf rfl rfl (lk_b rfl h1_7) rfl rfl rfl ?_
          clear hf a; intro a hf
          refine st_no hf rfl rfl (lk_b rfl h1_7) rfl rfl rfl ?_
          clear hf a; intro a hf
          refine st_no hf rfl rfl (lk_b rfl h1_7) rfl rfl rfl ?_
          clear hf a; intro a hf
          refine st_yg hf rfl rfl (lk_b rfl h1_4) rfl rfl (y_pick_f rfl (ev_b rfl h1_7) rfl) ?_
          clear hf a; intro a hf
          refine st_y hf rfl rfl rfl (y_pick_f rfl (ev_b rfl h1_4) rfl) ?_
          clear hf a; intro a hf
          refine st_end ?_
          refine x_then_n ?_
          obtain rfl := Option.some.inj hq0_2
          exact ⟨hf.sub ⟨rfl, rfl, rfl, rfl, rfl, rfl, trivial⟩, hm.pick [0] (by decide) rfl⟩
    ·
      clear hf hm
      rintro a w ⟨hf, hm⟩
      refine x_then_n ?_
      rcases bcases (s0_2) with h0_4 | h0_4
      ·
        replace hq := (ite_t h0_4).symm.trans hq
        refine cond_t hf rfl h0_4 ?_
        refine wp_seq ?_
        refine wp_region_lit ?_
        refine st_y hf rfl rfl rfl (y_build (vs := []) (cs := #[(.int .i64 (0)), (.int .i64 (0)), (.int .i64 (0)), (.int .i64 (0)), (.int .i64 (0))]) rfl rfl (by kernel_rfl)) ?_
        clear hf a; intro a hf
        refine st_ef0 hf rfl rfl (e_storeN 0 hf hm rfl Tryd.sizeOf27 rfl rfl rfl (one_cons rfl (one_cons rfl (one_cons rfl (one_cons rfl (one_cons rfl one_nil))))) rfl rfl) ?_
        clear hf a; rintro _ w0_2 a hm hf
        refine st_y hf rfl rfl rfl (y_assign rfl rfl) ?_
        clear hf a; intro a hf
        refine st_end ?_
        refine x_then_n ?_
        refine wp_ret ?_
        refine x_then_ret ?_
        obtain rfl := Option.some.inj hq
        refine ret_cell_tmp 0 hf Tryd.results61 hm rfl rfl Tryd.isAgg27 Tryd.sizeOf27 rfl ?_
        exact ⟨rfl, hm.below⟩
      ·
        replace hq := (ite_f h0_4).symm.trans hq
        refine cond_f hf rfl h0_4 ?_
        refine wp_skip ?_
        refine x_then_n ?_
        refine wp_seq ?_
        refine wp_region_lit ?_
        refine st_y hf rfl rfl rfl (y_move rfl rfl) ?_
        clear hf a; intro a hf
        refine st_y hf rfl rfl rfl (y_build (vs := [(0, (.int .i64 (s0_1)))]) (cs := #[(.int .i64 (s0_1)), (.int .i64 (0)), (.int .i64 (0)), (.int .i64 (0)), (.int .i64 (0))]) rfl rfl (by kernel_rfl)) ?_
        clear hf a; intro a hf
        refine st_ef hf rfl rfl rfl (e_alloc hm Tryd.zeroValue27 rfl rfl) ?_
        clear hf a; rintro _ w0_3 a ⟨b0_3, rfl, hm⟩ hf
        refine st_ef0 hf rfl rfl (e_storeN 0 hf hm rfl Tryd.sizeOf27 rfl rfl rfl (one_cons rfl (one_cons rfl (one_cons rfl (one_cons rfl (one_cons rfl one_nil))))) rfl rfl) ?_
        clear hf a; rintro _ w0_4 a hm hf
        refine st_end ?_
        refine x_then_n ?_
        refine wp_seq ?_
        refine wp_region_lit ?_
        refine st_ef hf rfl rfl rfl (e_makeMap (κ := Int) (β := Int) (Value.int .i64) (Value.int .i64) hm rfl) ?_
        clear hf a; rintro _ w0_5 a ⟨b0_4, rfl, hm⟩ hf
        refine st_ef0 hf rfl rfl (e_mapUpdate (key := 0) (v := 3) (b := true) 0 (key_int Tryd.underlying93) Tryd.underlying105 hf hm rfl rfl rfl rfl rfl) ?_
        clear hf a; rintro _ w0_6 a hm hf
        refine st_ef0 hf rfl rfl (e_mapUpdate (key := 1) (v := 2) (b := true) 0 (key_int Tryd.underlying93) Tryd.underlying105 hf hm rfl rfl rfl rfl rfl) ?_
        clear hf a; rintro _ w0_7 a hm hf
        refine st_ef0 hf rfl rfl (e_mapUpdate (key := 2) (v := 3) (b := true) 0 (key_int Tryd.underlying93) Tryd.underlying105 hf hm rfl rfl rfl rfl rfl) ?_
        clear hf a; rintro _ w0_8 a hm hf
        refine st_ef0 hf rfl rfl (e_mapUpdate (key := 3) (v := 2) (b := true) 0 (key_int Tryd.underlying93) Tryd.underlying105 hf hm rfl rfl rfl rfl rfl) ?_
        clear hf a; rintro _ w0_9 a hm hf
        refine st_ef0 hf rfl rfl (e_mapUpdate (key := 4) (v := 2) (b := true) 0 (key_int Tryd.underlying93) Tryd.underlying105 hf hm rfl rfl rfl rfl rfl) ?_
        clear hf a; rintro _ w0_10 a hm hf
        refine st_ef0 hf rfl rfl (e_mapUpdate (key := 5) (v := 2) (b := true) 0 (key_int Tryd.underlying93) Tryd.underlying105 hf hm rfl rfl rfl rfl rfl) ?_
        clear hf a; rintro _ w0_11 a hm hf
        refine st_y hf rfl rfl rfl (y_move rfl rfl) ?_
        clear hf a; intro a hf
        refine st_y hf rfl rfl rfl (y_move rfl rfl) ?_
        clear hf a; intro a hf
        obtain ⟨r0_1, hx0_4, hq⟩ := bnd hq
        refine st_ef hf rfl rfl rfl (e_call hf rfl Tryd.call65 rfl (impl_shapeOf_ok _ s0_1 _ hx0_4)) ?_
        clear hf a; rintro v0_2 w0_12 a ho0_1 hf
        obtain ⟨rfl, hB⟩ := ho0_1
        replace hm := hm.below' hB; clear hB
        refine st_y hf rfl rfl rfl (y_lookup (key := r0_1) 0 (key_int Tryd.underlying93) Tryd.underlying105 Tryd.zeroValue3 hm rfl rfl rfl rfl) ?_
        clear hf a; intro a hf
        rw [show (lookM ((insM ((insM ((insM ((insM ((insM ((insM ([] : List (Int × Int)) 0 3) : List (Int × Int)) 1 2) : List (Int × Int)) 2 3) : List (Int × Int)) 3 2) : List (Int × Int)) 4 2) : List (Int × Int)) 5 2) : List (Int × Int)) r0_1).elim (.int .i64 (0)) (Value.int .i64) = (.int .i64 (((lookM ((insM ((insM ((insM ((insM ((insM ((insM ([] : List (Int × Int)) 0 3) : List (Int × Int)) 1 2) : List (Int × Int)) 2 3) : List (Int × Int)) 3 2) : List (Int × Int)) 4 2) : List (Int × Int)) 5 2) : List (Int × Int)) r0_1).getD 0))) from elim_getD rfl] at hf
        refine st_y hf rfl rfl rfl (y_assign rfl rfl) ?_
        clear hf a; intro a hf
        refine st_end ?_
        refine x_then_n ?_
        refine wp_seq ?_
        refine wp_seq ?_
        refine wp_region_lit ?_
        refine st_y hf rfl rfl rfl (y_move rfl rfl) ?_
        clear hf a; intro a hf
        refine st_y hf rfl rfl rfl (y_eql rfl rfl rfl) ?_
        clear hf a; intro a hf
        refine st_end ?_
        refine x_then_n ?_
        obtain ⟨s0_3, hq0_3, hq⟩ := bnd hq
        refine code_cut (K := fun a w => Fr 145 [(1, (.int .i64 (at_))), (4, (.pointer (some ⟨b0_1, 0, none⟩))), (6, (.slice (some ⟨b0_2, o0_1, none⟩) x0_1.length c0_1)), (7, (.int .i64 (s0_1))), (8, (.bool (decide (128 ≤ (((x0_2).toNat : Int)))))), (9, (.pointer (some ⟨b0_3, 0, none⟩))), (10, (.int .i64 (s0_3)))] a ∧ Mem w0 (hp w0) w [blk b0_1 [(.int .i64 (0)), (.int .i64 (0)), (.int .i64 (0)), (.int .i64 (0)), (.int .i64 (0))] 27, blk b0_3 [(.int .i64 (s0_1)), (.int .i64 (0)), (.int .i64 (0)), (.int .i64 (0)), (.int .i64 (0))] 27]) ?_ ?_
        ·
          rcases bcases (decide (s0_1 = 21)) with h1_10 | h1_10
          ·
            replace hq0_3 := (ite_t h1_10).symm.trans hq0_3
            have h1_11 := of_decide_eq_true h1_10
            refine cond_t hf rfl h1_10 ?_
            refine wp_region_lit ?_
            refine st_y hf rfl rfl rfl (y_move rfl rfl) ?_
            clear hf a; intro a hf
            refine st_y hf rfl rfl rfl (y_addw rfl rfl rfl) ?_
            clear hf a; intro a hf
            refine st_y hf rfl rfl rfl (y_assign rfl rfl) ?_
            clear hf a; intro a hf
            refine st_end ?_
            refine x_then_n ?_
            obtain rfl := Option.some.inj hq0_3
            exact ⟨hf.sub ⟨rfl, rfl, rfl, rfl, rfl, rfl, rfl, trivial⟩, hm.pick [2, 1] (by decide) rfl⟩
          ·
            replace hq0_3 := (ite_f h1_10).symm.trans hq0_3
            have h1_12 := of_decide_eq_false h1_10
            refine cond_f hf rfl h1_10 ?_
            refine wp_skip ?_
            refine x_then_n ?_
            obtain rfl := Option.some.inj hq0_3
            exact ⟨hf.sub ⟨rfl, rfl, rfl, rfl, rfl, rfl, rfl, trivial⟩, hm.pick [2, 1] (by decide) rfl⟩
        ·
          clear hf hm
          rintro a w ⟨hf, hm⟩
          refine x_then_n ?_
          refine wp_seq ?_
          refine wp_seq ?_
          refine wp_region_lit ?_
          refine st_y hf rfl rfl rfl (y_move rfl rfl) ?_
          clear hf a; intro a hf
          refine st_end ?_
          refine x_then_n ?_
          obtain ⟨s0_4, hq0_4, hq⟩ := bnd hq
          refine code_cut (K := fun a w => Fr 145 [(1, (.int .i64 (at_))), (4, (.pointer (some ⟨b0_1, 0, none⟩))), (6, (.slice (some ⟨b0_2, o0_1, none⟩) x0_1.length c0_1)), (7, (.int .i64 (s0_1))), (8, (.bool (decide (128 ≤ (((x0_2).toNat : Int)))))), (9, (.pointer (some ⟨b0_3, 0, none⟩))), (10, (.int .i64 (s0_4)))] a ∧ Mem w0 (hp w0) w [blk b0_1 [(.int .i64 (0)), (.int .i64 (0)), (.int .i64 (0)), (.int .i64 (0)), (.int .i64 (0))] 27, blk b0_3 [(.int .i64 (s0_1)), (.int .i64 (0)), (.int .i64 (0)), (.int .i64 (0)), (.int .i64 (0))] 27]) ?_ ?_
          ·
            rcases bcases (decide (128 ≤ (((x0_2).toNat : Int)))) with h1_13 | h1_13
            ·
              replace hq0_4 := (ite_t h1_13).symm.trans hq0_4
              have h1_14 := of_decide_eq_true h1_13
              refine cond_t hf rfl h1_13 ?_
              refine wp_region_lit ?_
              refine st_y hf rfl rfl rfl (y_move rfl rfl) ?_
              clear hf a; intro a hf
              refine st_y hf rfl rfl rfl (y_addw rfl rfl rfl) ?_
              clear hf a; intro a hf
              refine st_y hf rfl rfl rfl (y_assign rfl rfl) ?_
              clear hf a; intro a hf
              refine st_end ?_
              refine x_then_n ?_
              obtain rfl := Option.some.inj hq0_4
              exact ⟨hf.sub ⟨rfl, rfl, rfl, rfl, rfl, rfl, rfl, trivial⟩, hm.pick [0, 1] (by decide) rfl⟩
            ·
              replace hq0_4 := (ite_f h1_13).symm.trans hq0_4
              have h1_15 := of_decide_eq_false h1_13
              refine cond_f hf rfl h1_13 ?_
              refine wp_skip ?_
              refine x_then_n ?_
              obtain rfl := Option.some.inj hq0_4
              exact ⟨hf.sub ⟨rfl, rfl, rfl, rfl, rfl, rfl, rfl, trivial⟩, hm.pick [0, 1] (by decide) rfl⟩
          ·
            clear hf hm
            rintro a w ⟨hf, hm⟩
            refine x_then_n ?_
            refine wp_seq ?_
            refine wp_seq ?_
            refine wp_region_lit ?_
            refine st_y hf rfl rfl rfl (y_move rfl rfl) ?_
            clear hf a; intro a hf
            have hl0_1 := rep_len h0_2
            refine st_y hf rfl rfl rfl (y_len_slice st_24.und rfl rfl) ?_
            clear hf a; intro a hf
            refine st_y hf rfl rfl rfl (y_move rfl rfl) ?_
            clear hf a; intro a hf
            refine st_y hf rfl rfl rfl (y_lss rfl rfl rfl) ?_
            clear hf a; intro a hf
            refine st_end ?_
            refine x_then_n ?_
            rcases bcases (decide (((x0_1.length : Int)) < s0_4)) with h0_5 | h0_5
            ·
              replace hq := (ite_t h0_5).symm.trans hq
              have h0_6 := of_decide_eq_true h0_5
              refine cond_t hf rfl h0_5 ?_
              refine wp_seq ?_
              refine wp_region_lit ?_
              refine st_y hf rfl rfl rfl (y_build (vs := []) (cs := #[(.int .i64 (0)), (.int .i64 (0)), (.int .i64 (0)), (.int .i64 (0)), (.int .i64 (0))]) rfl rfl (by kernel_rfl)) ?_
              clear hf a; intro a hf
              refine st_ef0 hf rfl rfl (e_storeN 0 hf hm rfl Tryd.sizeOf27 rfl rfl rfl (one_cons rfl (one_cons rfl (one_cons rfl (one_cons rfl (one_cons rfl one_nil))))) rfl rfl) ?_
              clear hf a; rintro _ w0_13 a hm hf
              refine st_y hf rfl rfl rfl (y_assign rfl rfl) ?_
              clear hf a; intro a hf
              refine st_end ?_
              refine x_then_n ?_
              refine wp_ret ?_
              refine x_then_ret ?_
              obtain rfl := Option.some.inj hq
              refine ret_cell_tmp 0 hf Tryd.results61 hm rfl rfl Tryd.isAgg27 Tryd.sizeOf27 rfl ?_
              exact ⟨rfl, hm.below⟩
            ·
              replace hq := (ite_f h0_5).symm.trans hq
              have h0_7 := of_decide_eq_false h0_5
              refine cond_f hf rfl h0_5 ?_
              refine wp_skip ?_
              refine x_then_n ?_
              refine wp_seq ?_
              refine wp_region_lit ?_
              refine st_y hf rfl rfl rfl (y_move rfl rfl) ?_
              clear hf a; intro a hf
              refine st_y hf rfl rfl rfl (y_move rfl rfl) ?_
              clear hf a; intro a hf
              obtain ⟨x0_3, hx0_5, hq⟩ := bnd hq
              obtain ⟨h0_8, h0_8e⟩ := subM_some.1 hx0_5
              obtain ⟨v0_3, hy0_2, h0_9⟩ : ∃ nv, nv = subV (GT.sz (UInt8)) (.slice (some ⟨b0_2, o0_1, none⟩) x0_1.length c0_1) (0 : Int).toNat (s0_4 : Int).toNat ∧ GT.rep (hp w0) [nv] x0_3 := ⟨_, rfl, by rw [← h0_8e]; exact rep_subV h0_2 (by omega) (by omega)⟩
              refine st_y hf rfl rfl rfl (yl_eq hy0_2 (y_slcH (α := UInt8) st_24 h0_2 rfl rfl rfl h0_8 _)) ?_
              clear hf a; intro a hf
              obtain ⟨r0_2, hx0_6, hq⟩ := bnd hq
              refine st_ef hf rfl rfl rfl (e_call hf rfl Tryd.call75 rfl (impl_mapped_byte_int_ok _ x0_3 v0_3 (hm.now h0_9) (fun y0 => impl_decoded_1 y0) (.func (.func 76) #[] #[]) (fun w y0 r hB hq => ⟨76, [], rfl, Tryd.call76, impl_decoded_1_ok w y0  r hq⟩) _ hx0_6)) ?_
              clear hf a; rintro v0_4 w0_14 a ho0_2 hf
              obtain ⟨_, rfl, hB⟩ := ho0_2
              replace hm := hm.give hB; clear hB
              refine st_y hf rfl rfl rfl (y_assign rfl rfl) ?_
              clear hf a; intro a hf
              refine st_end ?_
              refine x_then_n ?_
              refine wp_seq ?_
              refine wp_seq ?_
              refine wp_region_lit ?_
              refine st_y hf rfl rfl rfl (y_move rfl rfl) ?_
              clear hf a; intro a hf
              obtain ⟨r0_3, hx0_7, hq⟩ := bnd hq
              refine st_ef hf rfl rfl rfl (e_call hf rfl Tryd.call65 rfl (impl_shapeOf_ok _ s0_1 _ hx0_7)) ?_
              clear hf a; rintro v0_6 w0_15 a ho0_3 hf
              obtain ⟨rfl, hB⟩ := ho0_3
              replace hm := hm.below' hB; clear hB
              refine st_end ?_
              refine x_then_n ?_
              obtain ⟨s0_5, hq0_5, hq⟩ := bnd hq
              refine code_cut (K := fun a w => Fr 145 [(4, (.pointer (some ⟨b0_1, 0, none⟩))), (9, (.pointer (some ⟨b0_3, 0, none⟩))), (10, (.int .i64 (s0_4)))] a ∧ Mem w0 (hp w0) w [blk b0_1 [(.int .i64 (0)), (.int .i64 (0)), (.int .i64 (0)), (.int .i64 (0)), (.int .i64 (0))] 27, blk b0_3 [(.int .i64 (s0_1)), (.int .i64 (s0_5.1)), (.int .i64 (s0_5.2.1)), (.int .i64 (s0_5.2.2.1)), (.int .i64 (s0_5.2.2.2))] 27]) ?_ ?_
              ·
                refine wp_block ?_
                refine wp_seq ?_
                refine wp_region_lit ?_
                refine st_y hf rfl rfl rfl (y_eql rfl rfl rfl) ?_
                clear hf a; intro a hf
                refine st_y hf rfl rfl rfl (y_assign rfl rfl) ?_
                clear hf a; intro a hf
                refine st_end ?_
                refine x_then_n ?_
                obtain ⟨s1_1, hq1_1, hq0_5⟩ := bnd hq0_5
                refine code_cut (K := fun a w => Fr 145 [(4, (.pointer (some ⟨b0_1, 0, none⟩))), (9, (.pointer (some ⟨b0_3, 0, none⟩))), (10, (.int .i64 (s0_4)))] a ∧ Mem w0 (hp w0) w [blk b0_1 [(.int .i64 (0)), (.int .i64 (0)), (.int .i64 (0)), (.int .i64 (0)), (.int .i64 (0))] 27, blk b0_3 [(.int .i64 (s0_1)), (.int .i64 (s1_1.1)), (.int .i64 (s1_1.2.1)), (.int .i64 (s1_1.2.2.1)), (.int .i64 (s1_1.2.2.2))] 27]) ?_ ?_
                ·
                  rcases bcases (decide (r0_3 = 0)) with h2_1 | h2_1
                  ·
                    replace hq1_1 := (ite_t h2_1).symm.trans hq1_1
                    have h2_2 := of_decide_eq_true h2_1
                    refine cond_t hf rfl h2_1 ?_
                    refine wp_tree (.p 0 (.p 1 (.p 3 (.p 4 (.q 2 (.p 6 (.q 5 (.e 7 (.p 8 (.e 9 .fin .nil)) .nil)))))))) [2, 5, 7] [0, 1, 3, 4, 6, 8] (fun w => Mem w0 (hp w0) w [ow [v0_4] r0_2, blk b0_1 [(.int .i64 (0)), (.int .i64 (0)), (.int .i64 (0)), (.int .i64 (0)), (.int .i64 (0))] 27]) (by kernel_rfl) (by kernel_rfl) (fun _ _ _ h => h.2) ?_
                    replace hm := hm.drew
                    have hS : Mem w0 (hp w0) _ [ow [v0_4] r0_2, blk b0_1 [(.int .i64 (0)), (.int .i64 (0)), (.int .i64 (0)), (.int .i64 (0)), (.int .i64 (0))] 27] := hm.pick [0, 1] (by decide) rfl
                    refine td_p hf rfl rfl rfl rfl (fun w => y_move rfl rfl) ?_
                    clear hf a; intro a hf
                    obtain ⟨x2_1, hx2_1, hq1_1⟩ := bnd hq1_1
                    obtain ⟨h2_3, hx2_2⟩ := getI_some.1 hx2_1
                    obtain ⟨b2_1, o2_1, c2_1, he⟩ := idx_form (hm.ow_rep 0 rfl) hx2_2
                    subst he
                    refine td_p hf rfl rfl rfl rfl (fun w => y_indexAddr st_46 rfl rfl rfl h2_3 (idx_lt hx2_2)) ?_
                    clear hf a; intro a hf
                    refine td_p hf rfl rfl rfl rfl (fun w => y_move rfl rfl) ?_
                    clear hf a; intro a hf
                    obtain ⟨x2_2, hx2_3, hq1_1⟩ := bnd hq1_1
                    obtain ⟨h2_4, hx2_4⟩ := getI_some.1 hx2_3
                    refine td_p hf rfl rfl rfl rfl (fun w => y_indexAddr st_46 rfl rfl rfl h2_4 (idx_lt hx2_4)) ?_
                    clear hf a; intro a hf
                    refine td_y hf rfl rfl rfl rfl hS (fun w hm => y_load1 Tryd.isAgg3 rfl rfl ((flat_cells (cs := [(.int .i64 (x2_1))]) (hm.ow_rep 0 rfl) hx2_2 rfl).cell (j := 0) rfl)) ?_
                    clear hf a; intro a hf
                    refine td_p hf rfl rfl rfl rfl (fun w => y_fieldAddr fo_27_1 rfl rfl) ?_
                    clear hf a; intro a hf
                    refine td_y hf rfl rfl rfl rfl hS (fun w hm => y_load1 Tryd.isAgg3 rfl rfl ((flat_cells (cs := [(.int .i64 (x2_2))]) (hm.ow_rep 0 rfl) hx2_4 rfl).cell (j := 0) rfl)) ?_
                    clear hf a; intro a hf
                    refine te_one ?_
                    refine td_ef0 hf rfl rfl rfl (e_store1 2 hf hm rfl Tryd.sizeOf3 rfl rfl rfl rfl rfl) ?_
                    clear hf a; rintro _ w2_1 a hm hf
                    clear hS
                    have hS : Mem w0 (hp w0) _ [ow [(.slice (some ⟨b2_1, o2_1, none⟩) r0_2.length c2_1)] r0_2, blk b0_1 [(.int .i64 (0)), (.int .i64 (0)), (.int .i64 (0)), (.int .i64 (0)), (.int .i64 (0))] 27] := hm.pick [0, 1] (by decide) rfl
                    refine ⟨fun _ => hS, ?_⟩
                    refine td_p hf rfl rfl rfl rfl (fun w => y_fieldAddr fo_27_4 rfl rfl) ?_
                    clear hf a; intro a hf
                    refine te_one ?_
                    refine td_ef0 hf rfl rfl rfl (e_store1 2 hf hm rfl Tryd.sizeOf3 rfl rfl rfl rfl rfl) ?_
                    clear hf a; rintro _ w2_2 a hm hf
                    refine ⟨fun h => absurd h (by decide), ?_⟩
                    clear hS; refine td_end ?_
                    refine x_then_n ?_
                    obtain rfl := Option.some.inj hq1_1
                    exact ⟨hf.sub ⟨rfl, rfl, rfl, trivial⟩, hm.pick [1, 2] (by decide) rfl⟩
                  ·
                    replace hq1_1 := (ite_f h2_1).symm.trans hq1_1
                    have h2_5 := of_decide_eq_false h2_1
                    refine cond_f hf rfl h2_1 ?_
                    refine wp_seq ?_
                    refine wp_region_lit ?_
                    refine st_y hf rfl rfl rfl (y_eql rfl rfl rfl) ?_
                    clear hf a; intro a hf
                    refine st_y hf rfl rfl rfl (y_assign rfl rfl) ?_
                    clear hf a; intro a hf
                    refine st_end ?_
                    refine x_then_n ?_
                    obtain ⟨s2_1, hq2_1, hq1_1⟩ := bnd hq1_1
                    refine code_cut (K := fun a w => Fr 145 [(4, (.pointer (some ⟨b0_1, 0, none⟩))), (9, (.pointer (some ⟨b0_3, 0, none⟩))), (10, (.int .i64 (s0_4)))] a ∧ Mem w0 (hp w0) w [blk b0_1 [(.int .i64 (0)), (.int .i64 (0)), (.int .i64 (0)), (.int .i64 (0)), (.int .i64 (0))] 27, blk b0_3 [(.int .i64 (s0_1)), (.int .i64 (s2_1.1)), (.int .i64 (s2_1.2.1)), (.int .i64 (s2_1.2.2.1)), (.int .i64 (s2_1.2.2.2))] 27]) ?_ ?_
                    ·
                      rcases bcases (decide (r0_3 = 1)) with h3_1 | h3_1
                      ·
                        replace hq2_1 := (ite_t h3_1).symm.trans hq2_1
                        have h3_2 := of_decide_eq_true h3_1
                        refine cond_t hf rfl h3_1 ?_
                        refine wp_tree (.p 0 (.p 1 (.p 4 (.p 5 (.q 2 (.p 3 (.p 8 (.q 6 (.p 7 (.e 9 (.p 10 (.e 11 .fin .nil)) .nil)))))))))) [2, 6, 9] [0, 1, 3, 4, 5, 7, 8, 10] (fun w => Mem w0 (hp w0) w [ow [v0_4] r0_2, blk b0_1 [(.int .i64 (0)), (.int .i64 (0)), (.int .i64 (0)), (.int .i64 (0)), (.int .i64 (0))] 27]) (by kernel_rfl) (by kernel_rfl) (fun _ _ _ h => h.2) ?_
                        replace hm := hm.drew
                        have hS : Mem w0 (hp w0) _ [ow [v0_4] r0_2, blk b0_1 [(.int .i64 (0)), (.int .i64 (0)), (.int .i64 (0)), (.int .i64 (0)), (.int .i64 (0))] 27] := hm.pick [0, 1] (by decide) rfl
                        refine td_p hf rfl rfl rfl rfl (fun w => y_move rfl rfl) ?_
                        clear hf a; intro a hf
                        obtain ⟨x3_1, hx3_1, hq2_1⟩ := bnd hq2_1
                        obtain ⟨h3_3, hx3_2⟩ := getI_some.1 hx3_1
                        obtain ⟨b3_1, o3_1, c3_1, he⟩ := idx_form (hm.ow_rep 0 rfl) hx3_2
                        subst he
                        refine td_p hf rfl rfl rfl rfl (fun w => y_indexAddr st_46 rfl rfl rfl h3_3 (idx_lt hx3_2)) ?_
                        clear hf a; intro a hf
                        refine td_p hf rfl rfl rfl rfl (fun w => y_move rfl rfl) ?_
                        clear hf a; intro a hf
                        refine td_p hf rfl rfl rfl rfl (fun w => y_indexAddr st_46 rfl rfl rfl h3_3 (idx_lt hx3_2)) ?_
                        clear hf a; intro a hf
                        refine td_y hf rfl rfl rfl rfl hS (fun w hm => y_load1 Tryd.isAgg3 rfl rfl ((flat_cells (cs := [(.int .i64 (x3_1))]) (hm.ow_rep 0 rfl) hx3_2 rfl).cell (j := 0) rfl)) ?_
                        clear hf a; intro a hf
                        refine td_p hf rfl rfl rfl rfl (fun w => y_rem rfl rfl rfl (by decide)) ?_
                        clear hf a; intro a hf
                        refine td_p hf rfl rfl rfl rfl (fun w => y_fieldAddr fo_27_1 rfl rfl) ?_
                        clear hf a; intro a hf
                        refine td_y hf rfl rfl rfl rfl hS (fun w hm => y_load1 Tryd.isAgg3 rfl rfl ((flat_cells (cs := [(.int .i64 (x3_1))]) (hm.ow_rep 0 rfl) hx3_2 rfl).cell (j := 0) rfl)) ?_
                        clear hf a; intro a hf
                        refine td_p hf rfl rfl rfl rfl (fun w => y_quo rfl rfl rfl (by decide)) ?_
                        clear hf a; intro a hf
                        refine te_one ?_
                        refine td_ef0 hf rfl rfl rfl (e_store1 2 hf hm rfl Tryd.sizeOf3 rfl rfl rfl rfl rfl) ?_
                        clear hf a; rintro _ w3_1 a hm hf
                        clear hS
                        have hS : Mem w0 (hp w0) _ [ow [(.slice (some ⟨b3_1, o3_1, none⟩) r0_2.length c3_1)] r0_2, blk b0_1 [(.int .i64 (0)), (.int .i64 (0)), (.int .i64 (0)), (.int .i64 (0)), (.int .i64 (0))] 27] := hm.pick [0, 1] (by decide) rfl
                        refine ⟨fun _ => hS, ?_⟩
                        refine td_p hf rfl rfl rfl rfl (fun w => y_fieldAddr fo_27_2 rfl rfl) ?_
                        clear hf a; intro a hf
                        refine te_one ?_
                        refine td_ef0 hf rfl rfl rfl (e_store1 2 hf hm rfl Tryd.sizeOf3 rfl rfl rfl rfl rfl) ?_
                        clear hf a; rintro _ w3_2 a hm hf
                        refine ⟨fun h => absurd h (by decide), ?_⟩
                        clear hS; refine td_end ?_
                        refine x_then_n ?_
                        obtain rfl := Option.some.inj hq2_1
                        exact ⟨hf.sub ⟨rfl, rfl, rfl, trivial⟩, hm.pick [1, 2] (by decide) rfl⟩
                      ·
                        replace hq2_1 := (ite_f h3_1).symm.trans hq2_1
                        have h3_4 := of_decide_eq_false h3_1
                        refine cond_f hf rfl h3_1 ?_
                        refine wp_seq ?_
                        refine wp_region_lit ?_
                        refine st_y hf rfl rfl rfl (y_eql rfl rfl rfl) ?_
                        clear hf a; intro a hf
                        refine st_y hf rfl rfl rfl (y_assign rfl rfl) ?_
                        clear hf a; intro a hf
                        refine st_end ?_
                        refine x_then_n ?_
                        obtain ⟨s3_1, hq3_1, hq2_1⟩ := bnd hq2_1
                        refine code_cut (K := fun a w => Fr 145 [(4, (.pointer (some ⟨b0_1, 0, none⟩))), (9, (.pointer (some ⟨b0_3, 0, none⟩))), (10, (.int .i64 (s0_4)))] a ∧ Mem w0 (hp w0) w [blk b0_1 [(.int .i64 (0)), (.int .i64 (0)), (.int .i64 (0)), (.int .i64 (0)), (.int .i64 (0))] 27, blk b0_3 [(.int .i64 (s0_1)), (.int .i64 (s3_1.1)), (.int .i64 (s3_1.2.1)), (.int .i64 (s3_1.2.2.1)), (.int .i64 (s3_1.2.2.2))] 27]) ?_ ?_
                        ·
                          rcases bcases (decide (r0_3 = 2)) with h4_1 | h4_1
                          ·
                            replace hq3_1 := (ite_t h4_1).symm.trans hq3_1
                            have h4_2 := of_decide_eq_true h4_1
                            refine cond_t hf rfl h4_1 ?_
                            refine wp_tree (.p 0 (.p 1 (.p 4 (.p 5 (.p 8 (.p 9 (.q 2 (.p 3 (.p 11 (.q 6 (.p 7 (.q 10 (.e 12 (.p 13 (.e 14 (.p 15 (.e 16 .fin .nil)) .nil)) .nil))))))))))))) [2, 6, 10, 12, 14] [0, 1, 3, 4, 5, 7, 8, 9, 11, 13, 15] (fun w => Mem w0 (hp w0) w [ow [v0_4] r0_2, blk b0_1 [(.int .i64 (0)), (.int .i64 (0)), (.int .i64 (0)), (.int .i64 (0)), (.int .i64 (0))] 27]) (by kernel_rfl) (by kernel_rfl) (fun _ _ _ h => h.2) ?_
                            replace hm := hm.drew
                            have hS : Mem w0 (hp w0) _ [ow [v0_4] r0_2, blk b0_1 [(.int .i64 (0)), (.int .i64 (0)), (.int .i64 (0)), (.int .i64 (0)), (.int .i64 (0))] 27] := hm.pick [0, 1] (by decide) rfl
                            refine td_p hf rfl rfl rfl rfl (fun w => y_move rfl rfl) ?_
                            clear hf a; intro a hf
                            obtain ⟨x4_1, hx4_1, hq3_1⟩ := bnd hq3_1
                            obtain ⟨h4_3, hx4_2⟩ := getI_some.1 hx4_1
                            obtain ⟨b4_1, o4_1, c4_1, he⟩ := idx_form (hm.ow_rep 0 rfl) hx4_2
                            subst he
                            refine td_p hf rfl rfl rfl rfl (fun w => y_indexAddr st_46 rfl rfl rfl h4_3 (idx_lt hx4_2)) ?_
                            clear hf a; intro a hf
                            refine td_p hf rfl rfl rfl rfl (fun w => y_move rfl rfl) ?_
                            clear hf a; intro a hf
                            refine td_p hf rfl rfl rfl rfl (fun w => y_indexAddr st_46 rfl rfl rfl h4_3 (idx_lt hx4_2)) ?_
                            clear hf a; intro a hf
                            refine td_p hf rfl rfl rfl rfl (fun w => y_move rfl rfl) ?_
                            clear hf a; intro a hf
                            obtain ⟨x4_2, hx4_3, hq3_1⟩ := bnd hq3_1
                            obtain ⟨h4_4, hx4_4⟩ := getI_some.1 hx4_3
                            refine td_p hf rfl rfl rfl rfl (fun w => y_indexAddr st_46 rfl rfl rfl h4_4 (idx_lt hx4_4)) ?_
                            clear hf a; intro a hf
                            refine td_y hf rfl rfl rfl rfl hS (fun w hm => y_load1 Tryd.isAgg3 rfl rfl ((flat_cells (cs := [(.int .i64 (x4_1))]) (hm.ow_rep 0 rfl) hx4_2 rfl).cell (j := 0) rfl)) ?_
                            clear hf a; intro a hf
                            refine td_p hf rfl rfl rfl rfl (fun w => y_rem rfl rfl rfl (by decide)) ?_
                            clear hf a; intro a hf
                            refine td_p hf rfl rfl rfl rfl (fun w => y_fieldAddr fo_27_1 rfl rfl) ?_
                            clear hf a; intro a hf
                            refine td_y hf rfl rfl rfl rfl hS (fun w hm => y_load1 Tryd.isAgg3 rfl rfl ((flat_cells (cs := [(.int .i64 (x4_1))]) (hm.ow_rep 0 rfl) hx4_2 rfl).cell (j := 0) rfl)) ?_
                            clear hf a; intro a hf
                            refine td_p hf rfl rfl rfl rfl (fun w => y_quo rfl rfl rfl (by decide)) ?_
                            clear hf a; intro a hf
                            refine td_y hf rfl rfl rfl rfl hS (fun w hm => y_load1 Tryd.isAgg3 rfl rfl ((flat_cells (cs := [(.int .i64 (x4_2))]) (hm.ow_rep 0 rfl) hx4_4 rfl).cell (j := 0) rfl)) ?_
                            clear hf a; intro a hf
                            refine te_one ?_
                            refine td_ef0 hf rfl rfl rfl (e_store1 2 hf hm rfl Tryd.sizeOf3 rfl rfl rfl rfl rfl) ?_
                            clear hf a; rintro _ w4_1 a hm hf
                            clear hS
                            have hS : Mem w0 (hp w0) _ [ow [(.slice (some ⟨b4_1, o4_1, none⟩) r0_2.length c4_1)] r0_2, blk b0_1 [(.int .i64 (0)), (.int .i64 (0)), (.int .i64 (0)), (.int .i64 (0)), (.int .i64 (0))] 27] := hm.pick [0, 1] (by decide) rfl
                            refine ⟨fun _ => hS, ?_⟩
                            refine td_p hf rfl rfl rfl rfl (fun w => y_fieldAddr fo_27_2 rfl rfl) ?_
                            clear hf a; intro a hf
                            refine te_one ?_
                            refine td_ef0 hf rfl rfl rfl (e_store1 2 hf hm rfl Tryd.sizeOf3 rfl rfl rfl rfl rfl) ?_
                            clear hf a; rintro _ w4_2 a hm hf
                            clear hS
                            have hS : Mem w0 (hp w0) _ [ow [(.slice (some ⟨b4_1, o4_1, none⟩) r0_2.length c4_1)] r0_2, blk b0_1 [(.int .i64 (0)), (.int .i64 (0)), (.int .i64 (0)), (.int .i64 (0)), (.int .i64 (0))] 27] := hm.pick [0, 1] (by decide) rfl
                            refine ⟨fun _ => hS, ?_⟩
                            refine td_p hf rfl rfl rfl rfl (fun w => y_fieldAddr fo_27_3 rfl rfl) ?_
                            clear hf a; intro a hf
                            refine te_one ?_
                            refine td_ef0 hf rfl rfl rfl (e_store1 2 hf hm rfl Tryd.sizeOf3 rfl rfl rfl rfl rfl) ?_
                            clear hf a; rintro _ w4_3 a hm hf
                            refine ⟨fun h => absurd h (by decide), ?_⟩
                            clear hS; refine td_end ?_
                            refine x_then_n ?_
                            obtain rfl := Option.some.inj hq3_1
                            exact ⟨hf.sub ⟨rfl, rfl, rfl, trivial⟩, hm.pick [1, 2] (by decide) rfl⟩
                          ·
                            replace hq3_1 := (ite_f h4_1).symm.trans hq3_1
                            have h4_5 := of_decide_eq_false h4_1
                            refine cond_f hf rfl h4_1 ?_
                            refine wp_seq ?_
                            refine wp_region_lit ?_
                            refine st_y hf rfl rfl rfl (y_eql rfl rfl rfl) ?_
                            clear hf a; intro a hf
                            refine st_y hf rfl rfl rfl (y_assign rfl rfl) ?_
                            clear hf a; intro a hf
                            refine st_end ?_
                            refine x_then_n ?_
                            obtain ⟨s4_1, hq4_1, hq3_1⟩ := bnd hq3_1
                            refine code_cut (K := fun a w => Fr 145 [(4, (.pointer (some ⟨b0_1, 0, none⟩))), (9, (.pointer (some ⟨b0_3, 0, none⟩))), (10, (.int .i64 (s0_4)))] a ∧ Mem w0 (hp w0) w [blk b0_1 [(.int .i64 (0)), (.int .i64 (0)), (.int .i64 (0)), (.int .i64 (0)), (.int .i64 (0))] 27, blk b0_3 [(.int .i64 (s0_1)), (.int .i64 (s4_1.1)), (.int .i64 (0)), (.int .i64 (0)), (.int .i64 (s4_1.2))] 27]) ?_ ?_
                            ·
                              rcases bcases (decide (r0_3 = 3)) with h5_1 | h5_1
                              ·
                                replace hq4_1 := (ite_t h5_1).symm.trans hq4_1
                                have h5_2 := of_decide_eq_true h5_1
                                refine cond_t hf rfl h5_1 ?_
                                refine wp_region_lit ?_
                                refine st_y hf rfl rfl rfl (y_move rfl rfl) ?_
                                clear hf a; intro a hf
                                obtain ⟨x5_1, hx5_1, hq4_1⟩ := bnd hq4_1
                                obtain ⟨h5_3, hx5_2⟩ := getI_some.1 hx5_1
                                obtain ⟨b5_1, o5_1, c5_1, he⟩ := idx_form (hm.ow_rep 0 rfl) hx5_2
                                subst he
                                refine st_y hf rfl rfl rfl (y_indexAddr st_46 rfl rfl rfl h5_3 (idx_lt hx5_2)) ?_
                                clear hf a; intro a hf
                                refine st_y hf rfl rfl rfl (y_load1 Tryd.isAgg3 rfl rfl ((flat_cells (cs := [(.int .i64 (x5_1))]) (hm.ow_rep 0 rfl) hx5_2 rfl).cell (j := 0) rfl)) ?_
                                clear hf a; intro a hf
                                refine st_y hf rfl rfl rfl (y_fieldAddr fo_27_1 rfl rfl) ?_
                                clear hf a; intro a hf
                                refine st_ef0 hf rfl rfl (e_store1 2 hf hm rfl Tryd.sizeOf3 rfl rfl rfl rfl rfl) ?_
                                clear hf a; rintro _ w5_1 a hm hf
                                refine st_end ?_
                                refine x_then_n ?_
                                obtain rfl := Option.some.inj hq4_1
                                exact ⟨hf.sub ⟨rfl, rfl, rfl, trivial⟩, hm.pick [1, 2] (by decide) rfl⟩
                              ·
                                replace hq4_1 := (ite_f h5_1).symm.trans hq4_1
                                have h5_4 := of_decide_eq_false h5_1
                                refine cond_f hf rfl h5_1 ?_
                                refine wp_seq ?_
                                refine wp_region_lit ?_
                                refine st_y hf rfl rfl rfl (y_eql rfl rfl rfl) ?_
                                clear hf a; intro a hf
                                refine st_y hf rfl rfl rfl (y_assign rfl rfl) ?_
                                clear hf a; intro a hf
                                refine st_end ?_
                                refine x_then_n ?_
                                obtain ⟨s5_1, hq5_1, hq4_1⟩ := bnd hq4_1
                                refine code_cut (K := fun a w => Fr 145 [(4, (.pointer (some ⟨b0_1, 0, none⟩))), (9, (.pointer (some ⟨b0_3, 0, none⟩))), (10, (.int .i64 (s0_4)))] a ∧ Mem w0 (hp w0) w [blk b0_1 [(.int .i64 (0)), (.int .i64 (0)), (.int .i64 (0)), (.int .i64 (0)), (.int .i64 (0))] 27, blk b0_3 [(.int .i64 (s0_1)), (.int .i64 (s5_1.1)), (.int .i64 (0)), (.int .i64 (0)), (.int .i64 (s5_1.2))] 27]) ?_ ?_
                                ·
                                  rcases bcases (decide (r0_3 = 4)) with h6_1 | h6_1
                                  ·
                                    replace hq5_1 := (ite_t h6_1).symm.trans hq5_1
                                    have h6_2 := of_decide_eq_true h6_1
                                    refine cond_t hf rfl h6_1 ?_
                                    refine wp_region_lit ?_
                                    refine st_y hf rfl rfl rfl (y_move rfl rfl) ?_
                                    clear hf a; intro a hf
                                    obtain ⟨x6_1, hx6_1, hq5_1⟩ := bnd hq5_1
                                    obtain ⟨h6_3, hx6_2⟩ := getI_some.1 hx6_1
                                    obtain ⟨b6_1, o6_1, c6_1, he⟩ := idx_form (hm.ow_rep 0 rfl) hx6_2
                                    subst he
                                    refine st_y hf rfl rfl rfl (y_indexAddr st_46 rfl rfl rfl h6_3 (idx_lt hx6_2)) ?_
                                    clear hf a; intro a hf
                                    refine st_y hf rfl rfl rfl (y_load1 Tryd.isAgg3 rfl rfl ((flat_cells (cs := [(.int .i64 (x6_1))]) (hm.ow_rep 0 rfl) hx6_2 rfl).cell (j := 0) rfl)) ?_
                                    clear hf a; intro a hf
                                    refine st_y hf rfl rfl rfl (y_fieldAddr fo_27_4 rfl rfl) ?_
                                    clear hf a; intro a hf
                                    refine st_ef0 hf rfl rfl (e_store1 2 hf hm rfl Tryd.sizeOf3 rfl rfl rfl rfl rfl) ?_
                                    clear hf a; rintro _ w6_1 a hm hf
                                    refine st_end ?_
                                    refine x_then_n ?_
                                    obtain rfl := Option.some.inj hq5_1
                                    exact ⟨hf.sub ⟨rfl, rfl, rfl, trivial⟩, hm.pick [1, 2] (by decide) rfl⟩
                                  ·
                                    replace hq5_1 := (ite_f h6_1).symm.trans hq5_1
                                    have h6_4 := of_decide_eq_false h6_1
                                    refine cond_f hf rfl h6_1 ?_
                                    refine wp_seq ?_
                                    refine wp_seq ?_
                                    refine wp_region_lit ?_
                                    refine st_y hf rfl rfl rfl (y_move rfl rfl) ?_
                                    clear hf a; intro a hf
                                    refine st_y hf rfl rfl rfl (y_eql rfl rfl rfl) ?_
                                    clear hf a; intro a hf
                                    refine st_end ?_
                                    refine x_then_n ?_
                                    obtain ⟨s6_1, hq6_1, hq5_1⟩ := bnd hq5_1
                                    refine code_cut (K := fun a w => Fr 145 [(1, (.int .i64 (at_))), (4, (.pointer (some ⟨b0_1, 0, none⟩))), (6, (.slice (some ⟨b0_2, o0_1, none⟩) x0_1.length c0_1)), (8, (.bool (decide (128 ≤ (((x0_2).toNat : Int)))))), (9, (.pointer (some ⟨b0_3, 0, none⟩))), (10, (.int .i64 (s0_4))), (11, v0_4)] a ∧ Mem w0 (hp w0) w [blk b0_1 [(.int .i64 (0)), (.int .i64 (0)), (.int .i64 (0)), (.int .i64 (0)), (.int .i64 (0))] 27, blk b0_3 [(.int .i64 (s0_1)), (.int .i64 (s6_1)), (.int .i64 (0)), (.int .i64 (0)), (.int .i64 (0))] 27, ow [v0_4] r0_2]) ?_ ?_
                                    ·
                                      rcases bcases (decide (s0_1 = 21)) with h7_1 | h7_1
                                      ·
                                        replace hq6_1 := (ite_t h7_1).symm.trans hq6_1
                                        have h7_2 := of_decide_eq_true h7_1
                                        refine cond_t hf rfl h7_1 ?_
                                        refine wp_region_lit ?_
                                        refine st_y hf rfl rfl rfl (y_move rfl rfl) ?_
                                        clear hf a; intro a hf
                                        obtain ⟨x7_1, hx7_1, hq6_1⟩ := bnd hq6_1
                                        obtain ⟨h7_3, hx7_2⟩ := getI_some.1 hx7_1
                                        obtain ⟨b7_1, o7_1, c7_1, he⟩ := idx_form (hm.ow_rep 0 rfl) hx7_2
                                        subst he
                                        refine st_y hf rfl rfl rfl (y_indexAddr st_46 rfl rfl rfl h7_3 (idx_lt hx7_2)) ?_
                                        clear hf a; intro a hf
                                        refine st_y hf rfl rfl rfl (y_load1 Tryd.isAgg3 rfl rfl ((flat_cells (cs := [(.int .i64 (x7_1))]) (hm.ow_rep 0 rfl) hx7_2 rfl).cell (j := 0) rfl)) ?_
                                        clear hf a; intro a hf
                                        refine st_y hf rfl rfl rfl (y_fieldAddr fo_27_1 rfl rfl) ?_
                                        clear hf a; intro a hf
                                        refine st_ef0 hf rfl rfl (e_store1 2 hf hm rfl Tryd.sizeOf3 rfl rfl rfl rfl rfl) ?_
                                        clear hf a; rintro _ w7_1 a hm hf
                                        refine st_end ?_
                                        refine x_then_n ?_
                                        obtain rfl := Option.some.inj hq6_1
                                        exact ⟨hf.sub ⟨rfl, rfl, rfl, rfl, rfl, rfl, rfl, trivial⟩, hm.pick [1, 2, 0] (by decide) rfl⟩
                                      ·
                                        replace hq6_1 := (ite_f h7_1).symm.trans hq6_1
                                        have h7_4 := of_decide_eq_false h7_1
                                        refine cond_f hf rfl h7_1 ?_
                                        refine wp_skip ?_
                                        refine x_then_n ?_
                                        obtain rfl := Option.some.inj hq6_1
                                        exact ⟨hf.sub ⟨rfl, rfl, rfl, rfl, rfl, rfl, rfl, trivial⟩, hm.pick [1, 2, 0] (by decide) rfl⟩
                                    ·
                                      clear hf hm
                                      rintro a w ⟨hf, hm⟩
                                      refine x_then_n ?_
                                      refine wp_seq ?_
                                      refine wp_region_lit ?_
                                      refine st_y hf rfl rfl rfl (y_move rfl rfl) ?_
                                      clear hf a; intro a hf
                                      refine st_end ?_
                                      refine x_then_n ?_
                                      obtain ⟨s6_2, hq6_2, hq5_1⟩ := bnd hq5_1
                                      refine code_cut (K := fun a w => Fr 145 [(4, (.pointer (some ⟨b0_1, 0, none⟩))), (9, (.pointer (some ⟨b0_3, 0, none⟩))), (10, (.int .i64 (s0_4)))] a ∧ Mem w0 (hp w0) w [blk b0_1 [(.int .i64 (0)), (.int .i64 (0)), (.int .i64 (0)), (.int .i64 (0)), (.int .i64 (0))] 27, blk b0_3 [(.int .i64 (s0_1)), (.int .i64 (s6_1)), (.int .i64 (0)), (.int .i64 (0)), (.int .i64 (s6_2))] 27]) ?_ ?_
                                      ·
                                        rcases bcases (decide (128 ≤ (((x0_2).toNat : Int)))) with h7_5 | h7_5
                                        ·
                                          replace hq6_2 := (ite_t h7_5).symm.trans hq6_2
                                          have h7_6 := of_decide_eq_true h7_5
                                          refine cond_t hf rfl h7_5 ?_
                                          refine wp_tree (.p 0 (.p 1 (.p 2 (.p 3 (.p 5 (.p 6 (.p 7 (.p 8 (.q 4 (.e 9 (.p 10 (.p 11 (.p 12 (.e 13 .fin .nil)))) .nil)))))))))) [9] [0, 1, 2, 3, 5, 6, 7, 8, 10, 11, 12] (fun w => Mem w0 (hp w0) w [blk b0_1 [(.int .i64 (0)), (.int .i64 (0)), (.int .i64 (0)), (.int .i64 (0)), (.int .i64 (0))] 27, blk b0_3 [(.int .i64 (s0_1)), (.int .i64 (s6_1)), (.int .i64 (0)), (.int .i64 (0)), (.int .i64 (0))] 27, ow [v0_4] r0_2]) (by kernel_rfl) (by kernel_rfl) (fun _ _ _ h => h.2) ?_
                                          replace hm := hm.drew
                                          have hS : Mem w0 (hp w0) _ [blk b0_1 [(.int .i64 (0)), (.int .i64 (0)), (.int .i64 (0)), (.int .i64 (0)), (.int .i64 (0))] 27, blk b0_3 [(.int .i64 (s0_1)), (.int .i64 (s6_1)), (.int .i64 (0)), (.int .i64 (0)), (.int .i64 (0))] 27, ow [v0_4] r0_2] := hm.pick [0, 1, 2] (by decide) rfl
                                          refine td_p hf rfl rfl rfl rfl (fun w => y_move rfl rfl) ?_
                                          clear hf a; intro a hf
                                          refine td_p hf rfl rfl rfl rfl (fun w => y_move rfl rfl) ?_
                                          clear hf a; intro a hf
                                          refine td_p hf rfl rfl rfl rfl (fun w => y_subw rfl rfl rfl) ?_
                                          clear hf a; intro a hf
                                          obtain ⟨x7_2, hx7_3, hq6_2⟩ := bnd hq6_2
                                          obtain ⟨h7_7, hx7_4⟩ := getI_some.1 hx7_3
                                          obtain ⟨b7_2, o7_2, c7_2, he⟩ := idx_form (hm.ow_rep 2 rfl) hx7_4
                                          subst he
                                          refine td_p hf rfl rfl rfl rfl (fun w => y_indexAddr st_46 rfl rfl rfl h7_7 (idx_lt hx7_4)) ?_
                                          clear hf a; intro a hf
                                          refine td_p hf rfl rfl rfl rfl (fun w => y_move rfl rfl) ?_
                                          clear hf a; intro a hf
                                          refine td_p hf rfl rfl rfl rfl (fun w => y_move rfl rfl) ?_
                                          clear hf a; intro a hf
                                          refine td_p hf rfl rfl rfl rfl (fun w => y_subw rfl rfl rfl) ?_
                                          clear hf a; intro a hf
                                          obtain ⟨x7_3, hx7_5, hq6_2⟩ := bnd hq6_2
                                          obtain ⟨h7_8, hx7_6⟩ := getI_some.1 hx7_5
                                          refine td_p hf rfl rfl rfl rfl (fun w => y_indexAddr st_46 rfl rfl rfl h7_8 (idx_lt hx7_6)) ?_
                                          clear hf a; intro a hf
                                          refine td_y hf rfl rfl rfl rfl hS (fun w hm => y_load1 Tryd.isAgg3 rfl rfl ((flat_cells (cs := [(.int .i64 (x7_2))]) (hm.ow_rep 2 rfl) hx7_4 rfl).cell (j := 0) rfl)) ?_
                                          clear hf a; intro a hf
                                          refine te_one ?_
                                          refine td_ef hf rfl rfl rfl rfl (ef_y hf (y_load1 Tryd.isAgg3 rfl rfl ((flat_cells (cs := [(.int .i64 (x7_3))]) (hm.ow_rep 2 rfl) hx7_6 rfl).cell (j := 0) rfl))) ?_
                                          clear hf a; rintro _ _ a ⟨rfl, rfl⟩ hf
                                          refine ⟨fun _ => hS, ?_⟩
                                          refine td_p hf rfl rfl rfl rfl (fun w => y_mulw rfl rfl rfl) ?_
                                          clear hf a; intro a hf
                                          refine td_p hf rfl rfl rfl rfl (fun w => y_addw rfl rfl rfl) ?_
                                          clear hf a; intro a hf
                                          refine td_p hf rfl rfl rfl rfl (fun w => y_fieldAddr fo_27_4 rfl rfl) ?_
                                          clear hf a; intro a hf
                                          refine te_one ?_
                                          refine td_ef0 hf rfl rfl rfl (e_store1 1 hf hm rfl Tryd.sizeOf3 rfl rfl rfl rfl rfl) ?_
                                          clear hf a; rintro _ w7_2 a hm hf
                                          refine ⟨fun h => absurd h (by decide), ?_⟩
                                          clear hS; refine td_end ?_
                                          refine x_then_n ?_
                                          obtain rfl := Option.some.inj hq6_2
                                          exact ⟨hf.sub ⟨rfl, rfl, rfl, trivial⟩, hm.pick [0, 1] (by decide) rfl⟩
                                        ·
                                          replace hq6_2 := (ite_f h7_5).symm.trans hq6_2
                                          have h7_9 := of_decide_eq_false h7_5
                                          refine cond_f hf rfl h7_5 ?_
                                          refine wp_region_lit ?_
                                          refine st_y hf rfl rfl rfl (y_move rfl rfl) ?_
                                          clear hf a; intro a hf
                                          refine st_y hf rfl rfl rfl (y_move rfl rfl) ?_
                                          clear hf a; intro a hf
                                          refine st_y hf rfl rfl rfl (y_addw rfl rfl rfl) ?_
                                          clear hf a; intro a hf
                                          refine st_y hf rfl rfl rfl (y_move rfl rfl) ?_
                                          clear hf a; intro a hf
                                          refine st_y hf rfl rfl rfl (y_move rfl rfl) ?_
                                          clear hf a; intro a hf
                                          refine st_y hf rfl rfl rfl (y_subw rfl rfl rfl) ?_
                                          clear hf a; intro a hf
                                          obtain ⟨x7_4, hx7_7, hq6_2⟩ := bnd hq6_2
                                          obtain ⟨h7_10, hx7_8⟩ := getI_some.1 hx7_7
                                          refine st_y hf rfl rfl rfl (y_indexAddr st_24 rfl rfl rfl h7_10 (idx_lt hx7_8)) ?_
                                          clear hf a; intro a hf
                                          refine st_y hf rfl rfl rfl (y_load1 Tryd.isAgg5 rfl rfl ((flat_cells (cs := [(.int .u8 ((x7_4).toNat : Int))]) (hm.now h0_2) hx7_8 rfl).cell (j := 0) rfl)) ?_
                                          clear hf a; intro a hf
                                          refine st_y hf rfl rfl rfl (y_conv Tryd.underlying5 Tryd.underlying108 rfl rfl) ?_
                                          clear hf a; intro a hf
                                          refine st_y hf rfl rfl rfl (y_conv Tryd.underlying108 Tryd.underlying3 rfl rfl) ?_
                                          clear hf a; intro a hf
                                          refine st_y hf rfl rfl rfl (y_addw rfl rfl rfl) ?_
                                          clear hf a; intro a hf
                                          refine st_y hf rfl rfl rfl (y_fieldAddr fo_27_4 rfl rfl) ?_
                                          clear hf a; intro a hf
                                          refine st_ef0 hf rfl rfl (e_store1 1 hf hm rfl Tryd.sizeOf3 rfl rfl rfl rfl rfl) ?_
                                          clear hf a; rintro _ w7_3 a hm hf
                                          refine st_end ?_
                                          refine x_then_n ?_
                                          obtain rfl := Option.some.inj hq6_2
                                          exact ⟨hf.sub ⟨rfl, rfl, rfl, trivial⟩, hm.pick [0, 1] (by decide) rfl⟩
                                      ·
                                        clear hf hm
                                        rintro a w ⟨hf, hm⟩
                                        refine x_then_n ?_
                                        obtain rfl := Option.some.inj hq5_1
                                        exact ⟨hf.sub ⟨rfl, rfl, rfl, trivial⟩, hm.pick [0, 1] (by decide) rfl⟩
                                ·
                                  clear hf hm
                                  rintro a w ⟨hf, hm⟩
                                  refine x_then_n ?_
                                  obtain rfl := Option.some.inj hq4_1
                                  exact ⟨hf.sub ⟨rfl, rfl, rfl, trivial⟩, hm.pick [0, 1] (by decide) rfl⟩
                            ·
                              clear hf hm
                              rintro a w ⟨hf, hm⟩
                              refine x_then_n ?_
                              obtain rfl := Option.some.inj hq3_1
                              exact ⟨hf.sub ⟨rfl, rfl, rfl, trivial⟩, hm.pick [0, 1] (by decide) rfl⟩
                        ·
                          clear hf hm
                          rintro a w ⟨hf, hm⟩
                          refine x_then_n ?_
                          obtain rfl := Option.some.inj hq2_1
                          exact ⟨hf.sub ⟨rfl, rfl, rfl, trivial⟩, hm.pick [0, 1] (by decide) rfl⟩
                    ·
                      clear hf hm
                      rintro a w ⟨hf, hm⟩
                      refine x_then_n ?_
                      obtain rfl := Option.some.inj hq1_1
                      exact ⟨hf.sub ⟨rfl, rfl, rfl, trivial⟩, hm.pick [0, 1] (by decide) rfl⟩
                ·
                  clear hf hm
                  rintro a w ⟨hf, hm⟩
                  refine x_blk_n ?_
                  refine x_then_n ?_
                  obtain rfl := Option.some.inj hq0_5
                  exact ⟨hf.sub ⟨rfl, rfl, rfl, trivial⟩, hm.pick [0, 1] (by decide) rfl⟩
              ·
                clear hf hm
                rintro a w ⟨hf, hm⟩
                refine x_then_n ?_
                refine wp_seq ?_
                refine wp_region_lit ?_
                refine st_y hf rfl rfl rfl (y_loadN (cs := [(.int .i64 (s0_1)), (.int .i64 (s0_5.1)), (.int .i64 (s0_5.2.1)), (.int .i64 (s0_5.2.2.1)), (.int .i64 (s0_5.2.2.2))]) Tryd.isAgg27 Tryd.sizeOf27 rfl rfl (hm.blk_at 1 rfl)) ?_
                clear hf a; intro a hf
                refine st_y hf rfl rfl rfl (y_move rfl rfl) ?_
                clear hf a; intro a hf
                refine st_ef0 hf rfl rfl (e_storeN 0 hf hm rfl Tryd.sizeOf27 rfl rfl rfl (one_cons rfl (one_cons rfl (one_cons rfl (one_cons rfl (one_cons rfl one_nil))))) rfl rfl) ?_
                clear hf a; rintro _ w0_16 a hm hf
                refine st_y hf rfl rfl rfl (y_assign rfl rfl) ?_
                clear hf a; intro a hf
                refine st_end ?_
                refine x_then_n ?_
                refine wp_ret ?_
                obtain rfl := Option.some.inj hq
                refine ret_cell_tmp 0 hf Tryd.results61 hm rfl rfl Tryd.isAgg27 Tryd.sizeOf27 rfl ?_
                exact ⟨rfl, hm.below⟩

theorem math_bits_Mul32_ok (w0 : World) (x_ : Int) (y_ : Int) (r : Int × Int) (hq : math_bits_Mul32 x_ y_ = some r) :
    Con Tryd.prog 85 [(.int .u32 (x_)), (.int .u32 (y_))] w0 (fun v w' => v = (.tuple #[(.int .u32 (r.1)), (.int .u32 (r.2))]) ∧ Below w0.heap.size w0 w') := by
  unfold math_bits_Mul32 at hq
  refine con_body (l := [(0, (.int .u32 (x_))), (1, (.int .u32 (y_)))]) Tryd.func85 rfl Tryd.ntmps85 (Args.get ⟨rfl, rfl, trivial⟩) rfl ?_
  intro a hf
  have hm := Mem.start w0
  refine wp_seq ?_
  refine wp_region_lit ?_
  refine st_y hf rfl rfl rfl (y_assign rfl rfl) ?_
  clear hf a; intro a hf
  refine st_y hf rfl rfl rfl (y_assign rfl rfl) ?_
  clear hf a; intro a hf
  refine st_end ?_
  refine x_then_n ?_
  refine wp_seq ?_
  refine wp_region_lit ?_
  refine st_y hf rfl rfl rfl (y_move rfl rfl) ?_
  clear hf a; intro a hf
  refine st_y hf rfl rfl rfl (y_conv Tryd.underlying120 Tryd.underlying123 rfl rfl) ?_
  clear hf a; intro a hf
  refine st_y hf rfl rfl rfl (y_move rfl rfl) ?_
  clear hf a; intro a hf
  refine st_y hf rfl rfl rfl (y_conv Tryd.underlying120 Tryd.underlying123 rfl rfl) ?_
  clear hf a; intro a hf
  refine st_y hf rfl rfl rfl (y_mul rfl rfl rfl) ?_
  clear hf a; intro a hf
  refine st_y hf rfl rfl rfl (y_assign rfl rfl) ?_
  clear hf a; intro a hf
  refine st_end ?_
  refine x_then_n ?_
  refine wp_seq ?_
  refine wp_region_lit ?_
  refine st_y hf rfl rfl rfl (y_move rfl rfl) ?_
  clear hf a; intro a hf
  refine st_y hf rfl rfl rfl (y_shrk rfl rfl rfl (by omega)) ?_
  clear hf a; intro a hf
  refine st_y hf rfl rfl rfl (y_conv Tryd.underlying123 Tryd.underlying120 rfl rfl) ?_
  clear hf a; intro a hf
  refine st_y hf rfl rfl rfl (y_move rfl rfl) ?_
  clear hf a; intro a hf
  refine st_y hf rfl rfl rfl (y_conv Tryd.underlying123 Tryd.underlying120 rfl rfl) ?_
  clear hf a; intro a hf
  refine st_y hf rfl rfl rfl (y_assign rfl rfl) ?_
  clear hf a; intro a hf
  refine st_y hf rfl rfl rfl (y_assign rfl rfl) ?_
  clear hf a; intro a hf
  refine st_end ?_
  refine x_then_n ?_
  refine wp_ret ?_
  obtain rfl := Option.some.inj hq
  refine ret_tmp2 hf Tryd.results85 rfl rfl ?_
  exact ⟨rfl, hm.below⟩

theorem math_bits_Mul64_ok (w0 : World) (x_ : Int) (y_ : Int) (r : Int × Int) (hq : math_bits_Mul64 x_ y_ = some r) :
    Con Tryd.prog 86 [(.int .u64 (x_)), (.int .u64 (y_))] w0 (fun v w' => v = (.tuple #[(.int .u64 (r.1)), (.int .u64 (r.2))]) ∧ Below w0.heap.size w0 w') := by
  unfold math_bits_Mul64 at hq
  refine con_body (l := [(0, (.int .u64 (x_))), (1, (.int .u64 (y_)))]) Tryd.func86 rfl Tryd.ntmps86 (Args.get ⟨rfl, rfl, trivial⟩) rfl ?_
  intro a hf
  have hm := Mem.start w0
  refine wp_seq ?_
  refine wp_region_lit ?_
  refine st_y hf rfl rfl rfl (y_assign rfl rfl) ?_
  clear hf a; intro a hf
  refine st_y hf rfl rfl rfl (y_assign rfl rfl) ?_
  clear hf a; intro a hf
  refine st_end ?_
  refine x_then_n ?_
  refine wp_seq ?_
  refine wp_region_lit ?_
  refine st_y hf rfl rfl rfl (y_move rfl rfl) ?_
  clear hf a; intro a hf
  refine st_y hf rfl rfl rfl (y_andk rfl rfl rfl) ?_
  clear hf a; intro a hf
  refine st_y hf rfl rfl rfl (y_assign rfl rfl) ?_
  clear hf a; intro a hf
  refine st_end ?_
  refine x_then_n ?_
  refine wp_seq ?_
  refine wp_region_lit ?_
  refine st_y hf rfl rfl rfl (y_move rfl rfl) ?_
  clear hf a; intro a hf
  refine st_y hf rfl rfl rfl (y_shrk rfl rfl rfl (by omega)) ?_
  clear hf a; intro a hf
  refine st_y hf rfl rfl rfl (y_assign rfl rfl) ?_
  clear hf a; intro a hf
  refine st_end ?_
  refine x_then_n ?_
  refine wp_seq ?_
  refine wp_region_lit ?_
  refine st_y hf rfl rfl rfl (y_move rfl rfl) ?_
  clear hf a; intro a hf
  refine st_y hf rfl rfl rfl (y_andk rfl rfl rfl) ?_
  clear hf a; intro a hf
  refine st_y hf rfl rfl rfl (y_assign rfl rfl) ?_
  clear hf a; intro a hf
  refine st_end ?_
  refine x_then_n ?_
  refine wp_seq ?_
  refine wp_region_lit ?_
  refine st_y hf rfl rfl rfl (y_move rfl rfl) ?_
  clear hf a; intro a hf
  refine st_y hf rfl rfl rfl (y_shrk rfl rfl rfl (by omega)) ?_
  clear hf a; intro a hf
  refine st_y hf rfl rfl rfl (y_assign rfl rfl) ?_
  clear hf a; intro a hf
  refine st_end ?_
  refine x_then_n ?_
  refine wp_seq ?_
  refine wp_region_lit ?_
  refine st_y hf rfl rfl rfl (y_move rfl rfl) ?_
  clear hf a; intro a hf
  refine st_y hf rfl rfl rfl (y_move rfl rfl) ?_
  clear hf a; intro a hf
  refine st_y hf rfl rfl rfl (y_mul rfl rfl rfl) ?_
  clear hf a; intro a hf
  refine st_y hf rfl rfl rfl (y_assign rfl rfl) ?_
  clear hf a; intro a hf
  refine st_end ?_
  refine x_then_n ?_
  refine wp_seq ?_
  refine wp_region_lit ?_
  refine st_y hf rfl rfl rfl (y_move rfl rfl) ?_
  clear hf a; intro a hf
  refine st_y hf rfl rfl rfl (y_move rfl rfl) ?_
  clear hf a; intro a hf
  refine st_y hf rfl rfl rfl (y_mul rfl rfl rfl) ?_
  clear hf a; intro a hf
  refine st_y hf rfl rfl rfl (y_move rfl rfl) ?_
  clear hf a; intro a hf
  refine st_y hf rfl rfl rfl (y_shrk rfl rfl rfl (by omega)) ?_
  clear hf a; intro a hf
  refine st_y hf rfl rfl rfl (y_add rfl rfl rfl) ?_
  clear hf a; intro a hf
  refine st_y hf rfl rfl rfl (y_assign rfl rfl) ?_
  clear hf a; intro a hf
  refine st_end ?_
  refine x_then_n ?_
  refine wp_seq ?_
  refine wp_region_lit ?_
  refine st_y hf rfl rfl rfl (y_move rfl rfl) ?_
  clear hf a; intro a hf
  refine st_y hf rfl rfl rfl (y_andk rfl rfl rfl) ?_
  clear hf a; intro a hf
  refine st_y hf rfl rfl rfl (y_assign rfl rfl) ?_
  clear hf a; intro a hf
  refine st_end ?_
  refine x_then_n ?_
  refine wp_seq ?_
  refine wp_region_lit ?_
  refine st_y hf rfl rfl rfl (y_move rfl rfl) ?_
  clear hf a; intro a hf
  refine st_y hf rfl rfl rfl (y_shrk rfl rfl rfl (by omega)) ?_
  clear hf a; intro a hf
  refine st_y hf rfl rfl rfl (y_assign rfl rfl) ?_
  clear hf a; intro a hf
  refine st_end ?_
  refine x_then_n ?_
  refine wp_seq ?_
  refine wp_region_lit ?_
  refine st_y hf rfl rfl rfl (y_move rfl rfl) ?_
  clear hf a; intro a hf
  refine st_y hf rfl rfl rfl (y_move rfl rfl) ?_
  clear hf a; intro a hf
  refine st_y hf rfl rfl rfl (y_move rfl rfl) ?_
  clear hf a; intro a hf
  refine st_y hf rfl rfl rfl (y_mul rfl rfl rfl) ?_
  clear hf a; intro a hf
  refine st_y hf rfl rfl rfl (y_add rfl rfl rfl) ?_
  clear hf a; intro a hf
  refine st_y hf rfl rfl rfl (y_assign rfl rfl) ?_
  clear hf a; intro a hf
  refine st_end ?_
  refine x_then_n ?_
  refine wp_seq ?_
  refine wp_region_lit ?_
  refine st_y hf rfl rfl rfl (y_move rfl rfl) ?_
  clear hf a; intro a hf
  refine st_y hf rfl rfl rfl (y_move rfl rfl) ?_
  clear hf a; intro a hf
  refine st_y hf rfl rfl rfl (y_mul rfl rfl rfl) ?_
  clear hf a; intro a hf
  refine st_y hf rfl rfl rfl (y_move rfl rfl) ?_
  clear hf a; intro a hf
  refine st_y hf rfl rfl rfl (y_add rfl rfl rfl) ?_
  clear hf a; intro a hf
  refine st_y hf rfl rfl rfl (y_move rfl rfl) ?_
  clear hf a; intro a hf
  refine st_y hf rfl rfl rfl (y_shrk rfl rfl rfl (by omega)) ?_
  clear hf a; intro a hf
  refine st_y hf rfl rfl rfl (y_add rfl rfl rfl) ?_
  clear hf a; intro a hf
  refine st_y hf rfl rfl rfl (y_assign rfl rfl) ?_
  clear hf a; intro a hf
  refine st_end ?_
  refine x_then_n ?_
  refine wp_seq ?_
  refine wp_region_lit ?_
  refine st_y hf rfl rfl rfl (y_move rfl rfl) ?_
  clear hf a; intro a hf
  refine st_y hf rfl rfl rfl (y_move rfl rfl) ?_
  clear hf a; intro a hf
  refine st_y hf rfl rfl rfl (y_mul rfl rfl rfl) ?_
  clear hf a; intro a hf
  refine st_y hf rfl rfl rfl (y_assign rfl rfl) ?_
  clear hf a; intro a hf
  refine st_end ?_
  refine x_then_n ?_
  refine wp_ret ?_
  obtain rfl := Option.some.inj hq
  refine ret_tmp2 hf Tryd.results86 rfl rfl ?_
  exact ⟨rfl, hm.below⟩

theorem math_bits_Mul_ok (w0 : World) (x_ : Int) (y_ : Int) (r : Int × Int) (hq : math_bits_Mul x_ y_ = some r) :
    Con Tryd.prog 79 [(.int .u64 (x_)), (.int .u64 (y_))] w0 (fun v w' => v = (.tuple #[(.int .u64 (r.1)), (.int .u64 (r.2))]) ∧ Below w0.heap.size w0 w') := by
  unfold math_bits_Mul at hq
  refine con_body (l := [(0, (.int .u64 (x_))), (1, (.int .u64 (y_)))]) Tryd.func79 rfl Tryd.ntmps79 (Args.get ⟨rfl, rfl, trivial⟩) rfl ?_
  intro a hf
  have hm := Mem.start w0
  refine wp_seq ?_
  refine wp_region_lit ?_
  refine st_y hf rfl rfl rfl (y_assign rfl rfl) ?_
  clear hf a; intro a hf
  refine st_y hf rfl rfl rfl (y_assign rfl rfl) ?_
  clear hf a; intro a hf
  refine st_end ?_
  refine x_then_n ?_
  refine wp_seq ?_
  refine cond_f hf rfl rfl ?_
  refine wp_skip ?_
  refine x_then_n ?_
  refine wp_seq ?_
  refine wp_region_lit ?_
  refine st_y hf rfl rfl rfl (y_move rfl rfl) ?_
  clear hf a; intro a hf
  refine st_y hf rfl rfl rfl (y_move rfl rfl) ?_
  clear hf a; intro a hf
  obtain ⟨r0_1, hx0_1, hq⟩ := bnd hq
  refine st_ef hf rfl rfl rfl (e_call hf rfl Tryd.call86 rfl (math_bits_Mul64_ok _ x_ y_ _ hx0_1)) ?_
  clear hf a; rintro v0_1 w0_1 a ho0_1 hf
  obtain ⟨rfl, hB⟩ := ho0_1
  replace hm := hm.below' hB; clear hB
  refine st_y hf rfl rfl rfl (y_move rfl rfl) ?_
  clear hf a; intro a hf
  refine st_y hf rfl rfl rfl (y_extract rfl rfl rfl) ?_
  clear hf a; intro a hf
  refine st_y hf rfl rfl rfl (y_extract rfl rfl rfl) ?_
  clear hf a; intro a hf
  refine st_y hf rfl rfl rfl (y_assign rfl rfl) ?_
  clear hf a; intro a hf
  refine st_y hf rfl rfl rfl (y_assign rfl rfl) ?_
  clear hf a; intro a hf
  refine st_end ?_
  refine x_then_n ?_
  refine wp_seq ?_
  refine wp_region_lit ?_
  refine st_y hf rfl rfl rfl (y_move rfl rfl) ?_
  clear hf a; intro a hf
  refine st_y hf rfl rfl rfl (y_move rfl rfl) ?_
  clear hf a; intro a hf
  refine st_y hf rfl rfl rfl (y_assign rfl rfl) ?_
  clear hf a; intro a hf
  refine st_y hf rfl rfl rfl (y_assign rfl rfl) ?_
  clear hf a; intro a hf
  refine st_end ?_
  refine x_then_n ?_
  refine wp_ret ?_
  obtain rfl := Option.some.inj hq
  refine ret_tmp2 hf Tryd.results79 rfl rfl ?_
  exact ⟨rfl, hm.below⟩

theorem slices_Repeat_S_impl_Mfn_impl_Mfn_ok (w0 : World) (hz : Heap) (hle0 : Heap.le hz (hp w0)) (x_ : List Mfn) (v1 : Value) (h1 : GT.rep hz [v1] x_) (count : Int) (r : (List Mfn)) (hq : slices_Repeat_S_impl_Mfn_impl_Mfn x_ count = some r) :
    Con Tryd.prog 69 [v1, (.int .i64 (count))] w0 (fun v w' => ∃ (x1 : Value) (hz2 : Heap), v = x1 ∧ Heap.le hz hz2 ∧ Mem w0 hz2 w' [junk w0 hz, ow (α := List (Sh hz2 Mfn)) [x1] r]) := by
  unfold slices_Repeat_S_impl_Mfn_impl_Mfn at hq
  refine con_body (l := [(0, v1), (1, (.int .i64 (count)))]) Tryd.func69 rfl Tryd.ntmps69 (Args.get ⟨rfl, rfl, trivial⟩) rfl ?_
  intro a hf
  have hm := Mem.startA hle0
  refine wp_seq ?_
  refine wp_region_lit ?_
  refine st_y hf rfl rfl rfl (y_assign rfl rfl) ?_
  clear hf a; intro a hf
  refine st_end ?_
  refine x_then_n ?_
  refine wp_seq ?_
  refine wp_seq ?_
  refine wp_region_lit ?_
  refine st_y hf rfl rfl rfl (y_move rfl rfl) ?_
  clear hf a; intro a hf
  refine st_y hf rfl rfl rfl (y_lss rfl rfl rfl) ?_
  clear hf a; intro a hf
  refine st_end ?_
  refine x_then_n ?_
  rcases bcases (decide (count < 0)) with h0_1 | h0_1
  ·
    replace hq := (ite_t h0_1).symm.trans hq
    have h0_2 := of_decide_eq_true h0_1
    cases hq
  ·
    replace hq := (ite_f h0_1).symm.trans hq
    have h0_3 := of_decide_eq_false h0_1
    refine cond_f hf rfl h0_1 ?_
    refine wp_skip ?_
    refine x_then_n ?_
    refine wp_seq ?_
    refine wp_region_lit ?_
    refine st_y hf rfl rfl rfl (y_move rfl rfl) ?_
    clear hf a; intro a hf
    obtain ⟨p0_1, c0_1, he, hl0_1⟩ := ro_slice h1
    subst he
    refine st_y hf rfl rfl rfl (y_len_slice st_97.und rfl rfl) ?_
    clear hf a; intro a hf
    refine st_y hf rfl rfl rfl (y_conv Tryd.underlying3 Tryd.underlying114 rfl rfl) ?_
    clear hf a; intro a hf
    refine st_y hf rfl rfl rfl (y_move rfl rfl) ?_
    clear hf a; intro a hf
    refine st_y hf rfl rfl rfl (y_conv Tryd.underlying3 Tryd.underlying114 rfl rfl) ?_
    clear hf a; intro a hf
    obtain ⟨r0_1, hx0_1, hq⟩ := bnd hq
    refine st_ef hf rfl rfl rfl (e_call hf rfl Tryd.call79 rfl (math_bits_Mul_ok _ (IntKind.u64.wrap (x_.length : Int)) (IntKind.u64.wrap count) _ hx0_1)) ?_
    clear hf a; rintro v0_1 w0_1 a ho0_1 hf
    obtain ⟨rfl, hB⟩ := ho0_1
    replace hm := hm.below' hB; clear hB
    refine st_y hf rfl rfl rfl (y_move rfl rfl) ?_
    clear hf a; intro a hf
    refine st_y hf rfl rfl rfl (y_extract rfl rfl rfl) ?_
    clear hf a; intro a hf
    refine st_y hf rfl rfl rfl (y_extract rfl rfl rfl) ?_
    clear hf a; intro a hf
    refine st_y hf rfl rfl rfl (y_assign rfl rfl) ?_
    clear hf a; intro a hf
    refine st_y hf rfl rfl rfl (y_assign rfl rfl) ?_
    clear hf a; intro a hf
    refine st_end ?_
    refine x_then_n ?_
    refine wp_seq ?_
    refine wp_seq ?_
    obtain ⟨s0_1, hq0_1, hq⟩ := bnd hq
    refine code_cut (K := fun a w => Fr 48 [(0, (.slice p0_1 x_.length c0_1)), (6, (.int .u64 (r0_1.2))), (26, (.bool (s0_1)))] a ∧ Mem w0 hz w [junk w0 hz]) ?_ ?_
    ·
      refine wp_region_lit ?_
      refine st_y hf rfl rfl rfl (y_move rfl rfl) ?_
      clear hf a; intro a hf
      refine st_y hf rfl rfl rfl (y_gtr rfl rfl rfl) ?_
      clear hf a; intro a hf
      refine st_y hf rfl rfl rfl (y_move rfl rfl) ?_
      clear hf a; intro a hf
      rcases bcases (decide (0 < r0_1.1)) with h1_1 | h1_1
      ·
        replace hq0_1 := (ite_t h1_1).symm.trans hq0_1
        have h1_2 := of_decide_eq_true h1_1
        refine st_no hf rfl rfl (lk_b rfl h1_1) rfl rfl rfl ?_
        clear hf a; intro a hf
        refine st_no hf rfl rfl (lk_b rfl h1_1) rfl rfl rfl ?_
        clear hf a; intro a hf
        refine st_y hf rfl rfl rfl (y_pick_t rfl (ev_b rfl h1_1) rfl) ?_
        clear hf a; intro a hf
        refine st_end ?_
        refine x_then_n ?_
        obtain rfl := Option.some.inj hq0_1
        exact ⟨hf.sub ⟨rfl, rfl, rfl, trivial⟩, hm.pick [0] (by decide) rfl⟩
      ·
        replace hq0_1 := (ite_f h1_1).symm.trans hq0_1
        have h1_3 := of_decide_eq_false h1_1
        refine st_yg hf rfl rfl (lk_b rfl h1_1) rfl rfl (y_move rfl rfl) ?_
        clear hf a; intro a hf
        refine st_yg hf rfl rfl (lk_b rfl h1_1) rfl rfl (y_gtr rfl rfl rfl) ?_
        clear hf a; intro a hf
        refine st_y hf rfl rfl rfl (y_pick_f rfl (ev_b rfl h1_1) rfl) ?_
        clear hf a; intro a hf
        refine st_end ?_
        refine x_then_n ?_
        obtain rfl := Option.some.inj hq0_1
        exact ⟨hf.sub ⟨rfl, rfl, rfl, trivial⟩, hm.pick [0] (by decide) rfl⟩
    ·
      clear hf hm
      rintro a w ⟨hf, hm⟩
      refine x_then_n ?_
      rcases bcases (s0_1) with h0_4 | h0_4
      ·
        replace hq := (ite_t h0_4).symm.trans hq
        cases hq
      ·
        replace hq := (ite_f h0_4).symm.trans hq
        refine cond_f hf rfl h0_4 ?_
        refine wp_skip ?_
        refine x_then_n ?_
        refine wp_seq ?_
        refine wp_region_lit ?_
        refine st_y hf rfl rfl rfl (y_move rfl rfl) ?_
        clear hf a; intro a hf
        refine st_y hf rfl rfl rfl (y_conv Tryd.underlying114 Tryd.underlying3 rfl rfl) ?_
        clear hf a; intro a hf
        obtain ⟨ys0_1, hx0_2, hq⟩ := bnd hq
        obtain ⟨⟨h0_51, h0_52⟩, h0_5e⟩ := makeM_some.1 hx0_2
        refine st_ef hf rfl rfl rfl (e_make (x0 := ((⟨0, 0, []⟩ : Mfn) : Mfn)) et_97 (fun _ => ⟨[(.int .i64 (0))], [(.int .i64 (0)), (.slice none 0 0)], rfl, fun _ => False, fun _ => False, fun _ h => h.elim, fun _ h => h.elim, fun _ h => h.elim, (Flat.own_iff.2 rfl), ⟨[(.int .i64 (0))], [(.slice none 0 0)], rfl, fun _ => False, fun _ => False, fun _ h => h.elim, fun _ h => h.elim, fun _ h => h.elim, (Flat.own_iff.2 rfl), (own_list.2 (.inl ⟨rfl, rfl⟩))⟩⟩) hf hm rfl rfl rfl h0_51 (Int.le_refl _) h0_52) ?_
        clear hf a; rintro v0_2 w0_2 a hm hf
        rw [h0_5e] at hm
        have h0_5l : (ys0_1.length : Int) = IntKind.i64.wrap r0_1.2 := by rw [← h0_5e]; simp only [List.length_replicate]; omega
        refine st_y hf rfl rfl rfl (y_assign rfl rfl) ?_
        clear hf a; intro a hf
        refine st_end ?_
        refine x_then_n ?_
        refine wp_seq ?_
        refine wp_region_lit ?_
        refine st_y hf rfl rfl rfl (y_move rfl rfl) ?_
        clear hf a; intro a hf
        refine st_y hf rfl rfl rfl (y_move rfl rfl) ?_
        clear hf a; intro a hf
        obtain ⟨hz0_1, hle0_1, hm⟩ := hm.shallow (α := Mfn) 0 rfl
        refine st_ef hf rfl rfl rfl (e_copySh (α := Mfn) (xs := ys0_1) (ys := x_) (lo := 0) (hi := ys0_1.length) 0 st_97 (show 0 < 3 from by decide) hf hm rfl (ro_sh hm.lez (GT.mono hle0_1 h1)) rfl (by rw [hm.subV_wholeSh (α := Mfn) 0 rfl]; rfl) rfl (Nat.zero_le _) (Nat.le_refl _)) ?_
        clear hf a; rintro _ w0_3 a ⟨rfl, hm⟩ hf
        refine st_y hf rfl rfl rfl (y_assign rfl rfl) ?_
        clear hf a; intro a hf
        refine st_end ?_
        refine x_then_n ?_
        refine wp_seq ?_
        obtain ⟨p0_2, c0_2, he, hl0_2⟩ := ro_slice (sh_read (Heap.le_trans (Heap.le_refl _) hm.lez) (hm.ow_rep 0 rfl))
        subst he
        obtain ⟨s0_2, hq0_2, hq⟩ := bnd hq
        refine code_cut (K := fun a w => Fr 48 [(7, (.slice p0_2 (copyL ys0_1 x_ 0 ys0_1.length).length c0_2))] a ∧ Mem w0 hz0_1 w [ow (α := List (Sh hz0_1 Mfn)) [(.slice p0_2 (copyL ys0_1 x_ 0 ys0_1.length).length c0_2)] s0_2, junk w0 hz]) ?_ ?_
        ·
          refine wp_block ?_
          obtain ⟨r1_1, hl1_1, hq0_2⟩ := bnd hq0_2
          refine wp_loopM _ (fun xs2_1 a w => Fr 48 [(7, (.slice p0_2 (copyL ys0_1 x_ 0 ys0_1.length).length c0_2)), (8, (.int .i64 (xs2_1.2)))] a ∧ Mem w0 hz0_1 w [ow (α := List (Sh hz0_1 Mfn)) [(.slice p0_2 (copyL ys0_1 x_ 0 ys0_1.length).length c0_2)] xs2_1.1, junk w0 hz]) hl1_1 ?_ ?_
          ·
            exact ⟨hf.sub ⟨rfl, rfl, trivial⟩, hm.pick [0, 1] (by decide) rfl⟩
          ·
            clear hf hm
            rintro xs2_1 a w q1_1 ⟨hf, hm⟩ hb1_1 ho1_1
            refine wp_seq ?_
            refine wp_seq ?_
            refine wp_region_lit ?_
            refine st_y hf rfl rfl rfl (y_move rfl rfl) ?_
            clear hf a; intro a hf
            refine st_y hf rfl rfl rfl (y_move rfl rfl) ?_
            clear hf a; intro a hf
            have hl2_1 := rep_len (sh_read (Heap.le_trans (Heap.le_refl _) hm.lez) (hm.ow_rep 0 rfl))
            refine st_y hf rfl rfl rfl (y_len_slice st_97.und rfl rfl) ?_
            clear hf a; intro a hf
            refine st_y hf rfl rfl rfl (y_lss rfl rfl rfl) ?_
            clear hf a; intro a hf
            refine st_end ?_
            refine x_then_n ?_
            rcases bcases (decide (xs2_1.2 < (((copyL ys0_1 x_ 0 ys0_1.length).length : Int)))) with h2_1 | h2_1
            ·
              replace hb1_1 := (ite_t h2_1).symm.trans hb1_1
              have h2_2 := of_decide_eq_true h2_1
              refine cond_t hf rfl h2_1 ?_
              refine wp_skip ?_
              refine x_then_n ?_
              refine wp_block ?_
              refine wp_tree (.p 0 (.p 1 (.p 2 (.p 3 (.p 4 (.p 5 (.p 6 (.e 7 (.p 8 (.p 9 .fin)) .nil)))))))) [] [0, 1, 2, 3, 4, 5, 6, 8, 9] (fun w => Mem w0 hz0_1 w [ow (α := List (Sh hz0_1 Mfn)) [(.slice p0_2 (copyL ys0_1 x_ 0 ys0_1.length).length c0_2)] xs2_1.1, junk w0 hz]) (by kernel_rfl) (by kernel_rfl) (fun _ _ _ h => h.2) ?_
              replace hm := hm.drew
              have hS : Mem w0 hz0_1 _ [ow (α := List (Sh hz0_1 Mfn)) [(.slice p0_2 (copyL ys0_1 x_ 0 ys0_1.length).length c0_2)] xs2_1.1, junk w0 hz] := hm.pick [0, 1] (by decide) rfl
              refine td_p hf rfl rfl rfl rfl (fun w => y_move rfl rfl) ?_
              clear hf a; intro a hf
              refine td_p hf rfl rfl rfl rfl (fun w => y_move rfl rfl) ?_
              clear hf a; intro a hf
              refine td_p hf rfl rfl rfl rfl (fun w => y_move rfl rfl) ?_
              clear hf a; intro a hf
              obtain ⟨x2_1, hx2_1, hb1_1⟩ := bnd hb1_1
              obtain ⟨h2_3, h2_3e⟩ := subM_some.1 hx2_1
              have hr2_1 := (sh_read (Heap.le_trans (Heap.le_refl _) hm.lez) (hm.ow_rep 0 rfl))
              obtain ⟨v2_1, hy2_1⟩ : ∃ nv, nv = subV (GT.sz (Mfn)) (.slice p0_2 (copyL ys0_1 x_ 0 ys0_1.length).length c0_2) (xs2_1.2 : Int).toNat ((xs2_1.1.length : Int) : Int).toNat := ⟨_, rfl⟩
              refine td_p hf rfl rfl rfl rfl (fun w => yl_eq hy2_1 (y_slcL (α := Mfn) st_97 hr2_1 rfl rfl rfl h2_3 _)) ?_
              clear hf a; intro a hf
              refine td_p hf rfl rfl rfl rfl (fun w => y_move rfl rfl) ?_
              clear hf a; intro a hf
              refine td_p hf rfl rfl rfl rfl (fun w => y_move rfl rfl) ?_
              clear hf a; intro a hf
              obtain ⟨x2_2, hx2_2, hb1_1⟩ := bnd hb1_1
              obtain ⟨h2_5, h2_5e⟩ := subM_some.1 hx2_2
              have hr2_2 := (sh_read (Heap.le_trans (Heap.le_refl _) hm.lez) (hm.ow_rep 0 rfl))
              obtain ⟨v2_2, hy2_2⟩ : ∃ nv, nv = subV (GT.sz (Mfn)) (.slice p0_2 (copyL ys0_1 x_ 0 ys0_1.length).length c0_2) (0 : Int).toNat (xs2_1.2 : Int).toNat := ⟨_, rfl⟩
              refine td_p hf rfl rfl rfl rfl (fun w => yl_eq hy2_2 (y_slcH (α := Mfn) st_97 hr2_2 rfl rfl rfl h2_5 _)) ?_
              clear hf a; intro a hf
              refine te_one ?_
              have hb0 := h2_3
              refine td_ef hf rfl rfl rfl rfl (e_copySh (α := Mfn) (xs := xs2_1.1) (ys := x2_2) (lo := (xs2_1.2).toNat) (hi := ((xs2_1.1.length : Int)).toNat) 0 st_97 (show 0 < 3 from by decide) hf hm rfl (sh_view (α := Mfn) hy2_2 h2_5e h2_5 (hm.ow_rep 0 rfl)) rfl (by rw [hy2_1]; rfl) rfl (by omega) (by omega)) ?_
              clear hf a; rintro _ w2_1 a ⟨rfl, hm⟩ hf
              refine ⟨fun h => absurd h (by decide), ?_⟩
              refine td_p hf rfl rfl rfl rfl (fun w => y_addw rfl rfl rfl) ?_
              clear hf a; intro a hf
              refine td_p hf rfl rfl rfl rfl (fun w => y_assign rfl rfl) ?_
              clear hf a; intro a hf
              clear hS; refine td_end ?_
              refine x_blk_n ?_
              refine x_then_n ?_
              obtain rfl := Option.some.inj hb1_1
              exact ⟨_, rfl, hf.sub ⟨rfl, rfl, trivial⟩, hm.pick [0, 1] (by decide) rfl⟩
            ·
              replace hb1_1 := (ite_f h2_1).symm.trans hb1_1
              have h2_7 := of_decide_eq_false h2_1
              refine cond_f hf rfl h2_1 ?_
              refine wp_exit ?_
              refine x_then_exit ?_
              refine x_then_exit ?_
              refine x_blk_hit ?_
              refine x_then_n ?_
              obtain rfl := Option.some.inj hb1_1
              obtain rfl := ho1_1 _ rfl
              obtain rfl := Option.some.inj hq0_2
              exact ⟨hf.sub ⟨rfl, trivial⟩, hm.pick [0, 1] (by decide) rfl⟩
        ·
          clear hf hm
          rintro a w ⟨hf, hm⟩
          refine x_then_n ?_
          refine wp_seq ?_
          refine wp_region_lit ?_
          refine st_y hf rfl rfl rfl (y_move rfl rfl) ?_
          clear hf a; intro a hf
          refine st_y hf rfl rfl rfl (y_assign rfl rfl) ?_
          clear hf a; intro a hf
          refine st_end ?_
          refine x_then_n ?_
          refine wp_ret ?_
          obtain rfl := Option.some.inj hq
          refine ret_tmp hf Tryd.results69 rfl ?_
          exact ⟨(.slice p0_2 (copyL ys0_1 x_ 0 ys0_1.length).length c0_2), hz0_1, rfl, hle0_1, hm.pick [1, 0] (by decide) rfl⟩

theorem impl_formOf_ok (w0 : World) (x_ : Mins) (hG0 : GT.rep (hp w0) [.slice (some ⟨0, 0, none⟩) 23 23] glob_impl_forms) (r : form × Bool) (hq : impl_formOf x_ = some r) :
    Con Tryd.prog 41 [(.agg #[(.int .i64 (x_.op)), (.int .i64 (x_.a_)), (.int .i64 (x_.b)), (.int .i64 (x_.c)), (.int .i64 (x_.n_))])] w0 (fun v w' => v = (.tuple #[(.agg #[(.string ⟨(r.1.name).b.toArray⟩), (.int .i64 (r.1.fields))]), (.bool (r.2))]) ∧ Below w0.heap.size w0 w') := by
  unfold impl_formOf at hq
  refine con_body (l := [(0, (.agg #[(.int .i64 (x_.op)), (.int .i64 (x_.a_)), (.int .i64 (x_.b)), (.int .i64 (x_.c)), (.int .i64 (x_.n_))]))]) Tryd.func41 rfl Tryd.ntmps41 (Args.get ⟨rfl, trivial⟩) rfl ?_
  intro a hf
  have hm := Mem.start w0
  refine wp_seq ?_
  refine wp_region_lit ?_
  refine st_ef hf rfl rfl rfl (e_box hf hm rfl rfl rfl) ?_
  clear hf a; rintro _ w0_1 a ⟨b0_1, rfl, hm⟩ hf
  refine st_ef hf rfl rfl rfl (e_alloc hm Tryd.zeroValue62 rfl rfl) ?_
  clear hf a; rintro _ w0_2 a ⟨b0_2, rfl, hm⟩ hf
  refine st_y hf rfl rfl rfl (y_assign rfl rfl) ?_
  clear hf a; intro a hf
  refine st_end ?_
  refine x_then_n ?_
  refine wp_seq ?_
  refine wp_seq ?_
  refine wp_region_lit ?_
  refine st_y hf rfl rfl rfl (y_fieldAddr fo_27_0 rfl rfl) ?_
  clear hf a; intro a hf
  refine st_y hf rfl rfl rfl (y_load1 Tryd.isAgg3 rfl rfl (hm.blk_cell 1 rfl rfl)) ?_
  clear hf a; intro a hf
  obtain ⟨r0_1, hx0_1, hq⟩ := bnd hq
  refine st_ef hf rfl rfl rfl (e_call hf rfl Tryd.call43 rfl (impl_within_ok _ x_.op 1 22 _ hx0_1)) ?_
  clear hf a; rintro v0_1 w0_3 a ho0_1 hf
  obtain ⟨rfl, hB⟩ := ho0_1
  replace hm := hm.below' hB; clear hB
  refine st_y hf rfl rfl rfl (y_not rfl rfl) ?_
  clear hf a; intro a hf
  refine st_end ?_
  refine x_then_n ?_
  rcases bcases (!(r0_1)) with h0_1 | h0_1
  ·
    replace hq := (ite_t h0_1).symm.trans hq
    have h0_2 := bnot_t' h0_1
    refine cond_t hf rfl h0_1 ?_
    refine wp_seq ?_
    refine wp_region_lit ?_
    refine st_y hf rfl rfl rfl (y_build (vs := []) (cs := #[(.string ⟨((mkS [])).b.toArray⟩), (.int .i64 (0))]) rfl rfl (by kernel_rfl)) ?_
    clear hf a; intro a hf
    refine st_ef0 hf rfl rfl (e_storeN 0 hf hm rfl Tryd.sizeOf62 rfl rfl rfl (one_cons rfl (one_cons rfl one_nil)) rfl rfl) ?_
    clear hf a; rintro _ w0_4 a hm hf
    refine st_y hf rfl rfl rfl (y_assign rfl rfl) ?_
    clear hf a; intro a hf
    refine st_end ?_
    refine x_then_n ?_
    refine wp_ret ?_
    refine x_then_ret ?_
    obtain rfl := Option.some.inj hq
    refine ret_cell_tmp 0 hf Tryd.results41 hm rfl rfl Tryd.isAgg62 Tryd.sizeOf62 rfl ?_
    exact ⟨rfl, hm.below⟩
  ·
    replace hq := (ite_f h0_1).symm.trans hq
    have h0_3 := bnot_f' h0_1
    refine cond_f hf rfl h0_1 ?_
    refine wp_skip ?_
    refine x_then_n ?_
    refine wp_seq ?_
    refine wp_region_lit ?_
    refine st_y hf rfl rfl rfl (y_fieldAddr fo_27_0 rfl rfl) ?_
    clear hf a; intro a hf
    refine st_y hf rfl rfl rfl (y_load1 Tryd.isAgg3 rfl rfl (hm.blk_cell 1 rfl rfl)) ?_
    clear hf a; intro a hf
    obtain ⟨x0_1, hx0_2, hq⟩ := bnd hq
    obtain ⟨h0_4, hx0_3⟩ := getI_some.1 hx0_2
    refine st_y hf rfl rfl rfl (y_indexArr Tryd.underlying91 Tryd.sizeOf62 rfl rfl rfl h0_4 (idx_lt2 hx0_3 rfl)) ?_
    clear hf a; intro a hf
    refine st_y hf rfl rfl rfl (y_loadN (cs := [(.string ⟨(x0_1.name).b.toArray⟩), (.int .i64 (x0_1.fields))]) Tryd.isAgg62 Tryd.sizeOf62 rfl rfl (flat_cells (cs := [(.string ⟨(x0_1.name).b.toArray⟩), (.int .i64 (x0_1.fields))]) (hm.now hG0) hx0_3 rfl)) ?_
    clear hf a; intro a hf
    refine st_ef hf rfl rfl rfl (e_alloc hm Tryd.zeroValue62 rfl rfl) ?_
    clear hf a; rintro _ w0_5 a ⟨b0_3, rfl, hm⟩ hf
    refine st_ef0 hf rfl rfl (e_storeN 0 hf hm rfl Tryd.sizeOf62 rfl rfl rfl (one_cons rfl (one_cons rfl one_nil)) rfl rfl) ?_
    clear hf a; rintro _ w0_6 a hm hf
    refine st_end ?_
    refine x_then_n ?_
    refine wp_seq ?_
    refine wp_seq ?_
    refine wp_region_lit ?_
    refine st_y hf rfl rfl rfl (y_fieldAddr fo_27_1 rfl rfl) ?_
    clear hf a; intro a hf
    refine st_y hf rfl rfl rfl (y_load1 Tryd.isAgg3 rfl rfl (hm.blk_cell 2 rfl rfl)) ?_
    clear hf a; intro a hf
    refine st_y hf rfl rfl rfl (y_fieldAddr fo_27_2 rfl rfl) ?_
    clear hf a; intro a hf
    refine st_y hf rfl rfl rfl (y_load1 Tryd.isAgg3 rfl rfl (hm.blk_cell 2 rfl rfl)) ?_
    clear hf a; intro a hf
    refine st_y hf rfl rfl rfl (y_fieldAddr fo_27_3 rfl rfl) ?_
    clear hf a; intro a hf
    refine st_y hf rfl rfl rfl (y_load1 Tryd.isAgg3 rfl rfl (hm.blk_cell 2 rfl rfl)) ?_
    clear hf a; intro a hf
    refine st_y hf rfl rfl rfl (y_fieldAddr fo_27_4 rfl rfl) ?_
    clear hf a; intro a hf
    refine st_y hf rfl rfl rfl (y_load1 Tryd.isAgg3 rfl rfl (hm.blk_cell 2 rfl rfl)) ?_
    clear hf a; intro a hf
    refine st_y hf rfl rfl rfl (y_build (vs := [(0, (.int .i64 (x_.a_))), (1, (.int .i64 (x_.b))), (2, (.int .i64 (x_.c))), (3, (.int .i64 (x_.n_)))]) (cs := #[(.int .i64 (x_.a_)), (.int .i64 (x_.b)), (.int .i64 (x_.c)), (.int .i64 (x_.n_))]) rfl rfl (by kernel_rfl)) ?_
    clear hf a; intro a hf
    refine st_y hf rfl rfl rfl (y_move rfl rfl) ?_
    clear hf a; intro a hf
    refine st_end ?_
    refine x_then_n ?_
    refine wp_block ?_
    obtain ⟨r0_2, hl0_1, hq⟩ := bnd hq
    refine wp_forN _ (fun i1_1 xs1_1 a w => Fr 42 [(2, (.pointer (some ⟨b0_2, 0, none⟩))), (4, (.pointer (some ⟨b0_3, 0, none⟩))), (24, (.agg #[(.int .i64 (x_.a_)), (.int .i64 (x_.b)), (.int .i64 (x_.c)), (.int .i64 (x_.n_))])), (25, (.int .i64 (i1_1)))] a ∧ Mem w0 (hp w0) w [blk b0_2 [(.string ⟨((mkS [])).b.toArray⟩), (.int .i64 (0))] 62, blk b0_3 [(.string ⟨(x0_1.name).b.toArray⟩), (.int .i64 (x0_1.fields))] 62]) (0) (4) hl0_1 ?_ ?_ ?_
    ·
      exact ⟨hf.sub ⟨rfl, rfl, rfl, rfl, trivial⟩, hm.pick [1, 0] (by decide) rfl⟩
    ·
      clear hf hm
      rintro i1_1 xs1_1 a w ⟨hf, hm⟩ hi1_1 hi1_2 q0_1 hb0_1 ho0_2
      refine wp_seq ?_
      refine wp_region_lit ?_
      refine st_y hf rfl rfl rfl (y_lss rfl rfl rfl) ?_
      clear hf a; intro a hf
      refine st_end ?_
      refine x_then_n ?_
      refine wp_seq ?_
      refine cond_t hf rfl (decide_eq_true (by omega)) ?_
      refine wp_skip ?_
      refine x_then_n ?_
      refine wp_seq ?_
      refine wp_block ?_
      refine wp_seq ?_
      refine wp_region_lit ?_
      refine st_y hf rfl rfl rfl (y_move rfl rfl) ?_
      clear hf a; intro a hf
      obtain ⟨x1_1, hx1_1, hb0_1⟩ := bnd hb0_1
      obtain ⟨h1_1, hx1_2⟩ := getI_some.1 hx1_1
      refine st_y hf rfl rfl rfl (y_idx_arr Tryd.underlying92 Tryd.sizeOf3 Tryd.isAgg3 rfl rfl rfl h1_1 (by have := idx_lt hx1_2; simp only [List.length_cons, List.length_nil] at this; omega) (idx_map (f := fun x => (.int .i64 (x))) hx1_2 rfl)) ?_
      clear hf a; intro a hf
      refine st_y hf rfl rfl rfl (y_assign rfl rfl) ?_
      clear hf a; intro a hf
      refine st_y hf rfl rfl rfl (y_assign rfl rfl) ?_
      clear hf a; intro a hf
      refine st_end ?_
      refine x_then_n ?_
      refine wp_seq ?_
      obtain ⟨s1_1, hq1_1, hb0_1⟩ := bnd hb0_1
      refine code_cut (K := fun a w => Fr 42 [(2, (.pointer (some ⟨b0_2, 0, none⟩))), (4, (.pointer (some ⟨b0_3, 0, none⟩))), (24, (.agg #[(.int .i64 (x_.a_)), (.int .i64 (x_.b)), (.int .i64 (x_.c)), (.int .i64 (x_.n_))])), (25, (.int .i64 (i1_1))), (38, (.bool (s1_1)))] a ∧ Mem w0 (hp w0) w [blk b0_2 [(.string ⟨((mkS [])).b.toArray⟩), (.int .i64 (0))] 62, blk b0_3 [(.string ⟨(x0_1.name).b.toArray⟩), (.int .i64 (x0_1.fields))] 62]) ?_ ?_
      ·
        refine wp_tree (.p 0 (.p 2 (.p 3 (.e 1 (.p 4 (.p 5 (.p 6 (.p 7 (.p 8 (.p 9 .fin)))))) .nil)))) [] [0, 2, 3, 4, 5, 6, 7, 8, 9] (fun w => Mem w0 (hp w0) w [blk b0_2 [(.string ⟨((mkS [])).b.toArray⟩), (.int .i64 (0))] 62, blk b0_3 [(.string ⟨(x0_1.name).b.toArray⟩), (.int .i64 (x0_1.fields))] 62]) (by kernel_rfl) (by kernel_rfl) (fun _ _ _ h => h.2) ?_
        replace hm := hm.drew
        have hS : Mem w0 (hp w0) _ [blk b0_2 [(.string ⟨((mkS [])).b.toArray⟩), (.int .i64 (0))] 62, blk b0_3 [(.string ⟨(x0_1.name).b.toArray⟩), (.int .i64 (x0_1.fields))] 62] := hm.pick [0, 1] (by decide) rfl
        refine td_p hf rfl rfl rfl rfl (fun w => y_fieldAddr fo_62_1 rfl rfl) ?_
        clear hf a; intro a hf
        refine td_p hf rfl rfl rfl rfl (fun w => y_move rfl rfl) ?_
        clear hf a; intro a hf
        refine td_p hf rfl rfl rfl rfl (fun w => y_shl rfl rfl rfl (by omega)) ?_
        clear hf a; intro a hf
        refine te_one ?_
        refine td_ef hf rfl rfl rfl rfl (ef_y hf (y_load1 Tryd.isAgg3 rfl rfl (hm.blk_cell 1 rfl rfl))) ?_
        clear hf a; rintro _ _ a ⟨rfl, rfl⟩ hf
        refine ⟨fun h => absurd h (by decide), ?_⟩
        refine td_p hf rfl rfl rfl rfl (fun w => y_and rfl rfl rfl) ?_
        clear hf a; intro a hf
        refine td_p hf rfl rfl rfl rfl (fun w => y_eql rfl rfl rfl) ?_
        clear hf a; intro a hf
        refine td_p hf rfl rfl rfl rfl (fun w => y_move rfl rfl) ?_
        clear hf a; intro a hf
        rcases bcases (decide ((andI x0_1.fields (shlI 1 i1_1)) = 0)) with h2_1 | h2_1
        ·
          replace hq1_1 := (ite_t h2_1).symm.trans hq1_1
          have h2_2 := of_decide_eq_true h2_1
          refine td_pg hf rfl rfl rfl (lk_b rfl h2_1) rfl rfl (fun w => y_move rfl rfl) ?_
          clear hf a; intro a hf
          refine td_pg hf rfl rfl rfl (lk_b rfl h2_1) rfl rfl (fun w => y_neq rfl rfl rfl) ?_
          clear hf a; intro a hf
          refine td_p hf rfl rfl rfl rfl (fun w => y_pick_t rfl (ev_b rfl h2_1) rfl) ?_
          clear hf a; intro a hf
          clear hS; refine td_end ?_
          refine x_then_n ?_
          obtain rfl := Option.some.inj hq1_1
          exact ⟨hf.sub ⟨rfl, rfl, rfl, rfl, rfl, trivial⟩, hm.pick [0, 1] (by decide) rfl⟩
        ·
          replace hq1_1 := (ite_f h2_1).symm.trans hq1_1
          have h2_3 := of_decide_eq_false h2_1
          refine td_pno hf rfl rfl rfl (lk_b rfl h2_1) rfl rfl rfl ?_
          clear hf a; intro a hf
          refine td_pno hf rfl rfl rfl (lk_b rfl h2_1) rfl rfl rfl ?_
          clear hf a; intro a hf
          refine td_p hf rfl rfl rfl rfl (fun w => y_pick_f rfl (ev_b rfl h2_1) rfl) ?_
          clear hf a; intro a hf
          clear hS; refine td_end ?_
          refine x_then_n ?_
          obtain rfl := Option.some.inj hq1_1
          exact ⟨hf.sub ⟨rfl, rfl, rfl, rfl, rfl, trivial⟩, hm.pick [0, 1] (by decide) rfl⟩
      ·
        clear hf hm
        rintro a w ⟨hf, hm⟩
        refine x_then_n ?_
        rcases bcases (s1_1) with h1_2 | h1_2
        ·
          replace hb0_1 := (ite_t h1_2).symm.trans hb0_1
          refine cond_t hf rfl h1_2 ?_
          refine wp_seq ?_
          refine wp_region_lit ?_
          refine st_y hf rfl rfl rfl (y_build (vs := []) (cs := #[(.string ⟨((mkS [])).b.toArray⟩), (.int .i64 (0))]) rfl rfl (by kernel_rfl)) ?_
          clear hf a; intro a hf
          refine st_ef0 hf rfl rfl (e_storeN 0 hf hm rfl Tryd.sizeOf62 rfl rfl rfl (one_cons rfl (one_cons rfl one_nil)) rfl rfl) ?_
          clear hf a; rintro _ w1_1 a hm hf
          refine st_y hf rfl rfl rfl (y_assign rfl rfl) ?_
          clear hf a; intro a hf
          refine st_end ?_
          refine x_then_n ?_
          refine wp_ret ?_
          refine x_blk_ret ?_
          refine x_then_ret ?_
          refine x_then_ret ?_
          refine x_blk_ret ?_
          refine x_then_ret ?_
          obtain rfl := Option.some.inj hb0_1
          obtain rfl := ho0_2 _ rfl
          replace hq := sum_r hq
          obtain rfl := Option.some.inj hq
          refine ret_cell_tmp 0 hf Tryd.results41 hm rfl rfl Tryd.isAgg62 Tryd.sizeOf62 rfl ?_
          exact ⟨rfl, hm.below⟩
        ·
          replace hb0_1 := (ite_f h1_2).symm.trans hb0_1
          refine cond_f hf rfl h1_2 ?_
          refine wp_skip ?_
          refine x_blk_n ?_
          refine x_then_n ?_
          refine wp_region_lit ?_
          refine st_y hf rfl rfl rfl (y_add64 rfl rfl rfl (by omega) (by omega)) ?_
          clear hf a; intro a hf
          refine st_y hf rfl rfl rfl (y_move rfl rfl) ?_
          clear hf a; intro a hf
          refine st_end ?_
          refine x_then_n ?_
          obtain rfl := Option.some.inj hb0_1
          exact ⟨_, rfl, hf.sub ⟨rfl, rfl, rfl, rfl, trivial⟩, hm.pick [0, 1] (by decide) rfl⟩
    ·
      clear hf hm
      rintro i0_1 xs0_1 a w ⟨hf, hm⟩ hi0_1 hi0_2 rfl
      replace hq := sum_l hq
      refine wp_seq ?_
      refine wp_region_lit ?_
      refine st_y hf rfl rfl rfl (y_lss rfl rfl rfl) ?_
      clear hf a; intro a hf
      refine st_end ?_
      refine x_then_n ?_
      refine wp_seq ?_
      refine cond_f hf rfl (decide_eq_false (by omega)) ?_
      refine wp_exit ?_
      refine x_then_exit ?_
      refine x_then_exit ?_
      refine x_blk_hit ?_
      refine x_then_n ?_
      refine wp_seq ?_
      refine wp_region_lit ?_
      refine st_y hf rfl rfl rfl (y_loadN (cs := [(.string ⟨(x0_1.name).b.toArray⟩), (.int .i64 (x0_1.fields))]) Tryd.isAgg62 Tryd.sizeOf62 rfl rfl (hm.blk_at 1 rfl)) ?_
      clear hf a; intro a hf
      refine st_ef0 hf rfl rfl (e_storeN 0 hf hm rfl Tryd.sizeOf62 rfl rfl rfl (one_cons rfl (one_cons rfl one_nil)) rfl rfl) ?_
      clear hf a; rintro _ w0_7 a hm hf
      refine st_y hf rfl rfl rfl (y_assign rfl rfl) ?_
      clear hf a; intro a hf
      refine st_end ?_
      refine x_then_n ?_
      refine wp_ret ?_
      obtain rfl := Option.some.inj hq
      refine ret_cell_tmp 0 hf Tryd.results41 hm rfl rfl Tryd.isAgg62 Tryd.sizeOf62 rfl ?_
      exact ⟨rfl, hm.below⟩

theorem impl_minsOk_ok (w0 : World) (m : Mach) (v1 : Value) (h1 : GT.rep (hp w0) [v1] m.fns) (k_ : Int) (x_ : Mins) (hG0 : GT.rep (hp w0) [.slice (some ⟨0, 0, none⟩) 23 23] glob_impl_forms) (r : Bool) (hq : impl_minsOk m k_ x_ = some r) :
    Con Tryd.prog 82 [(.agg #[v1]), (.int .i64 (k_)), (.agg #[(.int .i64 (x_.op)), (.int .i64 (x_.a_)), (.int .i64 (x_.b)), (.int .i64 (x_.c)), (.int .i64 (x_.n_))])] w0 (fun v w' => v = (.bool (r)) ∧ Below w0.heap.size w0 w') := by
  unfold impl_minsOk at hq
  refine con_body (l := [(0, (.agg #[v1])), (1, (.int .i64 (k_))), (2, (.agg #[(.int .i64 (x_.op)), (.int .i64 (x_.a_)), (.int .i64 (x_.b)), (.int .i64 (x_.c)), (.int .i64 (x_.n_))]))]) Tryd.func82 rfl Tryd.ntmps82 (Args.get ⟨rfl, rfl, rfl, trivial⟩) rfl ?_
  intro a hf
  have hm := Mem.start w0
  refine wp_seq ?_
  refine wp_region_lit ?_
  refine st_ef hf rfl rfl rfl (e_box hf hm rfl rfl rfl) ?_
  clear hf a; rintro _ w0_1 a ⟨b0_1, rfl, hm⟩ hf
  refine st_ef hf rfl rfl rfl (e_box hf hm rfl rfl rfl) ?_
  clear hf a; rintro _ w0_2 a ⟨b0_2, rfl, hm⟩ hf
  refine st_y hf rfl rfl rfl (y_assign rfl rfl) ?_
  clear hf a; intro a hf
  refine st_end ?_
  refine x_then_n ?_
  refine wp_seq ?_
  refine wp_region_lit ?_
  refine st_y hf rfl rfl rfl (y_loadN (cs := [(.int .i64 (x_.op)), (.int .i64 (x_.a_)), (.int .i64 (x_.b)), (.int .i64 (x_.c)), (.int .i64 (x_.n_))]) Tryd.isAgg27 Tryd.sizeOf27 rfl rfl (hm.blk_at 0 rfl)) ?_
  clear hf a; intro a hf
  obtain ⟨r0_1, hx0_1, hq⟩ := bnd hq
  refine st_ef hf rfl rfl rfl (e_call hf rfl Tryd.call41 rfl (impl_formOf_ok _ x_ (hm.now hG0) _ hx0_1)) ?_
  clear hf a; rintro v0_1 w0_3 a ho0_1 hf
  obtain ⟨rfl, hB⟩ := ho0_1
  replace hm := hm.below' hB; clear hB
  refine st_y hf rfl rfl rfl (y_move rfl rfl) ?_
  clear hf a; intro a hf
  refine st_y hf rfl rfl rfl (y_extract rfl rfl rfl) ?_
  clear hf a; intro a hf
  refine st_y hf rfl rfl rfl (y_extract rfl rfl rfl) ?_
  clear hf a; intro a hf
  refine st_ef hf rfl rfl rfl (e_alloc hm Tryd.zeroValue62 rfl rfl) ?_
  clear hf a; rintro _ w0_4 a ⟨b0_3, rfl, hm⟩ hf
  refine st_ef0 hf rfl rfl (e_storeN 0 hf hm rfl Tryd.sizeOf62 rfl rfl rfl (one_cons rfl (one_cons rfl one_nil)) rfl rfl) ?_
  clear hf a; rintro _ w0_5 a hm hf
  refine st_y hf rfl rfl rfl (y_assign rfl rfl) ?_
  clear hf a; intro a hf
  refine st_end ?_
  refine x_then_n ?_
  refine wp_seq ?_
  refine wp_seq ?_
  obtain ⟨s0_1, hq0_1, hq⟩ := bnd hq
  refine code_cut (K := fun a w => Fr 83 [(1, (.int .i64 (k_))), (3, (.pointer (some ⟨b0_1, 0, none⟩))), (5, (.pointer (some ⟨b0_2, 0, none⟩))), (7, (.pointer (some ⟨b0_3, 0, none⟩))), (34, (.bool (s0_1)))] a ∧ Mem w0 (hp w0) w [blk b0_1 [v1] 99, blk b0_2 [(.int .i64 (x_.op)), (.int .i64 (x_.a_)), (.int .i64 (x_.b)), (.int .i64 (x_.c)), (.int .i64 (x_.n_))] 27, blk b0_3 [(.string ⟨(r0_1.1.name).b.toArray⟩), (.int .i64 (r0_1.1.fields))] 62]) ?_ ?_
  ·
    refine wp_region_lit ?_
    refine st_y hf rfl rfl rfl (y_move rfl rfl) ?_
    clear hf a; intro a hf
    refine st_y hf rfl rfl rfl (y_not rfl rfl) ?_
    clear hf a; intro a hf
    refine st_y hf rfl rfl rfl (y_move rfl rfl) ?_
    clear hf a; intro a hf
    rcases bcases (!(r0_1.2)) with h1_1 | h1_1
    ·
      replace hq0_1 := (ite_t h1_1).symm.trans hq0_1
      have h1_2 := bnot_t' h1_1
      refine st_no hf rfl rfl (lk_b rfl h1_1) rfl rfl rfl ?_
      clear hf a; intro a hf
      refine st_no hf rfl rfl (lk_b rfl h1_1) rfl rfl rfl ?_
      clear hf a; intro a hf
      refine st_no hf rfl rfl (lk_b rfl h1_1) rfl rfl rfl ?_
      clear hf a; intro a hf
      refine st_no hf rfl rfl (lk_b rfl h1_1) rfl rfl rfl ?_
      clear hf a; intro a hf
      refine st_y hf rfl rfl rfl (y_pick_t rfl (ev_b rfl h1_1) rfl) ?_
      clear hf a; intro a hf
      refine st_y hf rfl rfl rfl (y_move rfl rfl) ?_
      clear hf a; intro a hf
      refine st_no hf rfl rfl (lk_b rfl rfl) rfl rfl rfl ?_
      clear hf a; intro a hf
      refine st_no hf rfl rfl (lk_b rfl rfl) rfl rfl rfl ?_
      clear hf a; intro a hf
      refine st_no hf rfl rfl (lk_b rfl rfl) rfl rfl rfl ?_
      clear hf a; intro a hf
      refine st_no hf rfl rfl (lk_b rfl rfl) rfl rfl rfl ?_
      clear hf a; intro a hf
      refine st_y hf rfl rfl rfl (y_pick_t rfl (ev_b rfl rfl) rfl) ?_
      clear hf a; intro a hf
      refine st_y hf rfl rfl rfl (y_move rfl rfl) ?_
      clear hf a; intro a hf
      refine st_no hf rfl rfl (lk_b rfl rfl) rfl rfl rfl ?_
      clear hf a; intro a hf
      refine st_no hf rfl rfl (lk_b rfl rfl) rfl rfl rfl ?_
      clear hf a; intro a hf
      refine st_no hf rfl rfl (lk_b rfl rfl) rfl rfl rfl ?_
      clear hf a; intro a hf
      refine st_no hf rfl rfl (lk_b rfl rfl) rfl rfl rfl ?_
      clear hf a; intro a hf
      refine st_y hf rfl rfl rfl (y_pick_t rfl (ev_b rfl rfl) rfl) ?_
      clear hf a; intro a hf
      refine st_end ?_
      refine x_then_n ?_
      obtain rfl := Option.some.inj hq0_1
      exact ⟨hf.sub ⟨rfl, rfl, rfl, rfl, rfl, trivial⟩, hm.pick [2, 1, 0] (by decide) rfl⟩
    ·
      replace hq0_1 := (ite_f h1_1).symm.trans hq0_1
      have h1_3 := bnot_f' h1_1
      refine st_yg hf rfl rfl (lk_b rfl h1_1) rfl rfl (y_fieldAddr fo_27_1 rfl rfl) ?_
      clear hf a; intro a hf
      refine st_yg hf rfl rfl (lk_b rfl h1_1) rfl rfl (y_load1 Tryd.isAgg3 rfl rfl (hm.blk_cell 1 rfl rfl)) ?_
      clear hf a; intro a hf
      obtain ⟨r1_1, hx1_1, hq0_1⟩ := bnd hq0_1
      refine st_efg hf rfl rfl (lk_b rfl h1_1) rfl rfl (e_call hf rfl Tryd.call43 rfl (impl_within_ok _ x_.a_ 0 7 _ hx1_1)) ?_
      clear hf a; rintro v1_1 w1_1 a ho1_1 hf
      obtain ⟨rfl, hB⟩ := ho1_1
      replace hm := hm.below' hB; clear hB
      refine st_yg hf rfl rfl (lk_b rfl h1_1) rfl rfl (y_not rfl rfl) ?_
      clear hf a; intro a hf
      refine st_y hf rfl rfl rfl (y_pick_f rfl (ev_b rfl h1_1) rfl) ?_
      clear hf a; intro a hf
      refine st_y hf rfl rfl rfl (y_move rfl rfl) ?_
      clear hf a; intro a hf
      rcases bcases (!(r1_1)) with h1_4 | h1_4
      ·
        replace hq0_1 := (ite_t h1_4).symm.trans hq0_1
        have h1_5 := bnot_t' h1_4
        refine st_no hf rfl rfl (lk_b rfl h1_4) rfl rfl rfl ?_
        clear hf a; intro a hf
        refine st_no hf rfl rfl (lk_b rfl h1_4) rfl rfl rfl ?_
        clear hf a; intro a hf
        refine st_no hf rfl rfl (lk_b rfl h1_4) rfl rfl rfl ?_
        clear hf a; intro a hf
        refine st_no hf rfl rfl (lk_b rfl h1_4) rfl rfl rfl ?_
        clear hf a; intro a hf
        refine st_y hf rfl rfl rfl (y_pick_t rfl (ev_b rfl h1_4) rfl) ?_
        clear hf a; intro a hf
        refine st_y hf rfl rfl rfl (y_move rfl rfl) ?_
        clear hf a; intro a hf
        refine st_no hf rfl rfl (lk_b rfl rfl) rfl rfl rfl ?_
        clear hf a; intro a hf
        refine st_no hf rfl rfl (lk_b rfl rfl) rfl rfl rfl ?_
        clear hf a; intro a hf
        refine st_no hf rfl rfl (lk_b rfl rfl) rfl rfl rfl ?_
        clear hf a; intro a hf
        refine st_no hf rfl rfl (lk_b rfl rfl) rfl rfl rfl ?_
        clear hf a; intro a hf
        refine st_y hf rfl rfl rfl (y_pick_t rfl (ev_b rfl rfl) rfl) ?_
        clear hf a; intro a hf
        refine st_end ?_
        refine x_then_n ?_
        obtain rfl := Option.some.inj hq0_1
        exact ⟨hf.sub ⟨rfl, rfl, rfl, rfl, rfl, trivial⟩, hm.pick [2, 1, 0] (by decide) rfl⟩
      ·
        replace hq0_1 := (ite_f h1_4).symm.trans hq0_1
        have h1_6 := bnot_f' h1_4
        refine st_yg hf rfl rfl (lk_b rfl h1_4) rfl rfl (y_fieldAddr fo_27_2 rfl rfl) ?_
        clear hf a; intro a hf
        refine st_yg hf rfl rfl (lk_b rfl h1_4) rfl rfl (y_load1 Tryd.isAgg3 rfl rfl (hm.blk_cell 1 rfl rfl)) ?_
        clear hf a; intro a hf
        obtain ⟨r1_2, hx1_2, hq0_1⟩ := bnd hq0_1
        refine st_efg hf rfl rfl (lk_b rfl h1_4) rfl rfl (e_call hf rfl Tryd.call43 rfl (impl_within_ok _ x_.b 0 7 _ hx1_2)) ?_
        clear hf a; rintro v1_2 w1_2 a ho1_2 hf
        obtain ⟨rfl, hB⟩ := ho1_2
        replace hm := hm.below' hB; clear hB
        refine st_yg hf rfl rfl (lk_b rfl h1_4) rfl rfl (y_not rfl rfl) ?_
        clear hf a; intro a hf
        refine st_y hf rfl rfl rfl (y_pick_f rfl (ev_b rfl h1_4) rfl) ?_
        clear hf a; intro a hf
        refine st_y hf rfl rfl rfl (y_move rfl rfl) ?_
        clear hf a; intro a hf
        rcases bcases (!(r1_2)) with h1_7 | h1_7
        ·
          replace hq0_1 := (ite_t h1_7).symm.trans hq0_1
          have h1_8 := bnot_t' h1_7
          refine st_no hf rfl rfl (lk_b rfl h1_7) rfl rfl rfl ?_
          clear hf a; intro a hf
          refine st_no hf rfl rfl (lk_b rfl h1_7) rfl rfl rfl ?_
          clear hf a; intro a hf
          refine st_no hf rfl rfl (lk_b rfl h1_7) rfl rfl rfl ?_
          clear hf a; intro a hf
          refine st_no hf rfl rfl (lk_b rfl h1_7) rfl rfl rfl ?_
          clear hf a; intro a hf
          refine st_y hf rfl rfl rfl (y_pick_t rfl (ev_b rfl h1_7) rfl) ?_
          clear hf a; intro a hf
          refine st_end ?_
          refine x_then_n ?_
          obtain rfl := Option.some.inj hq0_1
          exact ⟨hf.sub ⟨rfl, rfl, rfl, rfl, rfl, trivial⟩, hm.pick [2, 1, 0] (by decide) rfl⟩
        ·
          replace hq0_1 := (ite_f h1_7).symm.trans hq0_1
          have h1_9 := bnot_f' h1_7
          refine st_yg hf rfl rfl (lk_b rfl h1_7) rfl rfl (y_fieldAddr fo_27_3 rfl rfl) ?_
          clear hf a; intro a hf
          refine st_yg hf rfl rfl (lk_b rfl h1_7) rfl rfl (y_load1 Tryd.isAgg3 rfl rfl (hm.blk_cell 1 rfl rfl)) ?_
          clear hf a; intro a hf
          obtain ⟨r1_3, hx1_3, hq0_1⟩ := bnd hq0_1
          refine st_efg hf rfl rfl (lk_b rfl h1_7) rfl rfl (e_call hf rfl Tryd.call43 rfl (impl_within_ok _ x_.c 0 7 _ hx1_3)) ?_
          clear hf a; rintro v1_3 w1_3 a ho1_3 hf
          obtain ⟨rfl, hB⟩ := ho1_3
          replace hm := hm.below' hB; clear hB
          refine st_yg hf rfl rfl (lk_b rfl h1_7) rfl rfl (y_not rfl rfl) ?_
          clear hf a; intro a hf
          refine st_y hf rfl rfl rfl (y_pick_f rfl (ev_b rfl h1_7) rfl) ?_
          clear hf a; intro a hf
          refine st_end ?_
          refine x_then_n ?_
          obtain rfl := Option.some.inj hq0_1
          exact ⟨hf.sub ⟨rfl, rfl, rfl, rfl, rfl, trivial⟩, hm.pick [2, 1, 0] (by decide) rfl⟩
  ·
    clear hf hm
    rintro a w ⟨hf, hm⟩
    refine x_then_n ?_
    rcases bcases (s0_1) with h0_1 | h0_1
    ·
      replace hq := (ite_t h0_1).symm.trans hq
      refine cond_t hf rfl h0_1 ?_
      refine wp_seq ?_
      refine wp_region_lit ?_
      refine st_y hf rfl rfl rfl (y_assign rfl rfl) ?_
      clear hf a; intro a hf
      refine st_end ?_
      refine x_then_n ?_
      refine wp_ret ?_
      refine x_then_ret ?_
      obtain rfl := Option.some.inj hq
      refine ret_tmp hf Tryd.results82 rfl ?_
      exact ⟨rfl, hm.below⟩
    ·
      replace hq := (ite_f h0_1).symm.trans hq
      refine cond_f hf rfl h0_1 ?_
      refine wp_skip ?_
      refine x_then_n ?_
      refine wp_seq ?_
      refine wp_region_lit ?_
      refine st_y hf rfl rfl rfl (y_assign rfl rfl) ?_
      clear hf a; intro a hf
      refine st_end ?_
      refine x_then_n ?_
      refine wp_seq ?_
      refine wp_seq ?_
      refine wp_region_lit ?_
      refine st_y hf rfl rfl rfl (y_fieldAddr fo_27_0 rfl rfl) ?_
      clear hf a; intro a hf
      refine st_y hf rfl rfl rfl (y_load1 Tryd.isAgg3 rfl rfl (hm.blk_cell 1 rfl rfl)) ?_
      clear hf a; intro a hf
      refine st_end ?_
      refine x_then_n ?_
      obtain ⟨s0_2, hq0_2, hq⟩ := bnd hq
      refine code_cut (K := fun a w => Fr 83 [(5, (.pointer (some ⟨b0_2, 0, none⟩))), (7, (.pointer (some ⟨b0_3, 0, none⟩))), (9, (.int .i64 (s0_2)))] a ∧ Mem w0 (hp w0) w [blk b0_2 [(.int .i64 (x_.op)), (.int .i64 (x_.a_)), (.int .i64 (x_.b)), (.int .i64 (x_.c)), (.int .i64 (x_.n_))] 27, blk b0_3 [(.string ⟨(r0_1.1.name).b.toArray⟩), (.int .i64 (r0_1.1.fields))] 62]) ?_ ?_
      ·
        refine wp_block ?_
        refine wp_seq ?_
        refine wp_region_lit ?_
        refine st_y hf rfl rfl rfl (y_eql rfl rfl rfl) ?_
        clear hf a; intro a hf
        refine st_y hf rfl rfl rfl (y_assign rfl rfl) ?_
        clear hf a; intro a hf
        refine st_end ?_
        refine x_then_n ?_
        obtain ⟨s1_1, hq1_1, hq0_2⟩ := bnd hq0_2
        refine code_cut (K := fun a w => Fr 83 [(5, (.pointer (some ⟨b0_2, 0, none⟩))), (7, (.pointer (some ⟨b0_3, 0, none⟩))), (9, (.int .i64 (s1_1)))] a ∧ Mem w0 (hp w0) w [blk b0_2 [(.int .i64 (x_.op)), (.int .i64 (x_.a_)), (.int .i64 (x_.b)), (.int .i64 (x_.c)), (.int .i64 (x_.n_))] 27, blk b0_3 [(.string ⟨(r0_1.1.name).b.toArray⟩), (.int .i64 (r0_1.1.fields))] 62]) ?_ ?_
        ·
          rcases bcases (decide (x_.op = 14)) with h2_1 | h2_1
          ·
            replace hq1_1 := (ite_t h2_1).symm.trans hq1_1
            have h2_2 := of_decide_eq_true h2_1
            refine cond_t hf rfl h2_1 ?_
            refine wp_region_lit ?_
            refine st_y hf rfl rfl rfl (y_move rfl rfl) ?_
            clear hf a; intro a hf
            refine st_y hf rfl rfl rfl (y_subw rfl rfl rfl) ?_
            clear hf a; intro a hf
            refine st_y hf rfl rfl rfl (y_assign rfl rfl) ?_
            clear hf a; intro a hf
            refine st_end ?_
            refine x_then_n ?_
            obtain rfl := Option.some.inj hq1_1
            exact ⟨hf.sub ⟨rfl, rfl, rfl, trivial⟩, hm.pick [1, 2] (by decide) rfl⟩
          ·
            replace hq1_1 := (ite_f h2_1).symm.trans hq1_1
            have h2_3 := of_decide_eq_false h2_1
            refine cond_f hf rfl h2_1 ?_
            refine wp_seq ?_
            refine wp_seq ?_
            refine wp_region_lit ?_
            refine st_y hf rfl rfl rfl (y_eql rfl rfl rfl) ?_
            clear hf a; intro a hf
            refine st_y hf rfl rfl rfl (y_assign rfl rfl) ?_
            clear hf a; intro a hf
            refine st_end ?_
            refine x_then_n ?_
            obtain ⟨s2_1, hq2_1, hq1_1⟩ := bnd hq1_1
            refine code_cut (K := fun a w => Fr 83 [(1, (.int .i64 (k_))), (3, (.pointer (some ⟨b0_1, 0, none⟩))), (5, (.pointer (some ⟨b0_2, 0, none⟩))), (7, (.pointer (some ⟨b0_3, 0, none⟩))), (9, (.int .i64 (255))), (36, (.int .i64 (x_.op))), (41, (.bool (s2_1)))] a ∧ Mem w0 (hp w0) w [blk b0_1 [v1] 99, blk b0_2 [(.int .i64 (x_.op)), (.int .i64 (x_.a_)), (.int .i64 (x_.b)), (.int .i64 (x_.c)), (.int .i64 (x_.n_))] 27, blk b0_3 [(.string ⟨(r0_1.1.name).b.toArray⟩), (.int .i64 (r0_1.1.fields))] 62]) ?_ ?_
            ·
              rcases bcases (decide (x_.op = 15)) with h3_1 | h3_1
              ·
                replace hq2_1 := (ite_t h3_1).symm.trans hq2_1
                have h3_2 := of_decide_eq_true h3_1
                refine cond_t hf rfl h3_1 ?_
                refine wp_skip ?_
                refine x_then_n ?_
                obtain rfl := Option.some.inj hq2_1
                exact ⟨hf.sub ⟨rfl, rfl, rfl, rfl, rfl, rfl, rfl, trivial⟩, hm.pick [0, 1, 2] (by decide) rfl⟩
              ·
                replace hq2_1 := (ite_f h3_1).symm.trans hq2_1
                have h3_3 := of_decide_eq_false h3_1
                refine cond_f hf rfl h3_1 ?_
                refine wp_region_lit ?_
                refine st_y hf rfl rfl rfl (y_eql rfl rfl rfl) ?_
                clear hf a; intro a hf
                refine st_y hf rfl rfl rfl (y_assign rfl rfl) ?_
                clear hf a; intro a hf
                refine st_end ?_
                refine x_then_n ?_
                obtain rfl := Option.some.inj hq2_1
                exact ⟨hf.sub ⟨rfl, rfl, rfl, rfl, rfl, rfl, rfl, trivial⟩, hm.pick [0, 1, 2] (by decide) rfl⟩
            ·
              clear hf hm
              rintro a w ⟨hf, hm⟩
              refine x_then_n ?_
              obtain ⟨s2_2, hq2_2, hq1_1⟩ := bnd hq1_1
              refine code_cut (K := fun a w => Fr 83 [(5, (.pointer (some ⟨b0_2, 0, none⟩))), (7, (.pointer (some ⟨b0_3, 0, none⟩))), (9, (.int .i64 (s2_2)))] a ∧ Mem w0 (hp w0) w [blk b0_2 [(.int .i64 (x_.op)), (.int .i64 (x_.a_)), (.int .i64 (x_.b)), (.int .i64 (x_.c)), (.int .i64 (x_.n_))] 27, blk b0_3 [(.string ⟨(r0_1.1.name).b.toArray⟩), (.int .i64 (r0_1.1.fields))] 62]) ?_ ?_
              ·
                rcases bcases (s2_1) with h3_4 | h3_4
                ·
                  replace hq2_2 := (ite_t h3_4).symm.trans hq2_2
                  refine cond_t hf rfl h3_4 ?_
                  refine wp_region_lit ?_
                  refine st_y hf rfl rfl rfl (y_fieldAddr fo_99_0 rfl rfl) ?_
                  clear hf a; intro a hf
                  refine st_y hf rfl rfl rfl (y_load1 Tryd.isAgg97 rfl rfl (hm.blk_cell 0 rfl rfl)) ?_
                  clear hf a; intro a hf
                  refine st_y hf rfl rfl rfl (y_move rfl rfl) ?_
                  clear hf a; intro a hf
                  obtain ⟨x3_1, hx3_1, hq2_2⟩ := bnd hq2_2
                  obtain ⟨h3_5, hx3_2⟩ := getI_some.1 hx3_1
                  obtain ⟨b3_1, o3_1, c3_1, he⟩ := idx_form' h1 hx3_2
                  subst he
                  obtain ⟨_, _, hc3_1, hr3_1⟩ := ro_get' h1 hx3_2
                  obtain ⟨_, _, rfl, rfl, _, _, rfl, rfl, h3_6⟩ := hr3_1
                  obtain ⟨v3_1, rfl, -⟩ := id h3_6
                  replace h3_6 : GT.rep (hp w0) [v3_1] x3_1.ins := h3_6
                  replace hc3_1 : CellsAt (hp w0) b3_1 (o3_1 + (k_).toNat * 3) [(.int .i64 (x3_1.params)), (.int .i64 (x3_1.slots)), v3_1] := hc3_1
                  refine st_y hf rfl rfl rfl (y_indexAddr st_97 rfl rfl rfl h3_5 (idx_lt hx3_2)) ?_
                  clear hf a; intro a hf
                  refine st_y hf rfl rfl rfl (y_fieldAddr fo_35_1 rfl rfl) ?_
                  clear hf a; intro a hf
                  refine st_y hf rfl rfl rfl (y_load1 Tryd.isAgg3 rfl rfl ((hc3_1.mono hm.lez).cell (j := 1) rfl)) ?_
                  clear hf a; intro a hf
                  refine st_y hf rfl rfl rfl (y_subw rfl rfl rfl) ?_
                  clear hf a; intro a hf
                  refine st_y hf rfl rfl rfl (y_assign rfl rfl) ?_
                  clear hf a; intro a hf
                  refine st_end ?_
                  refine x_then_n ?_
                  obtain rfl := Option.some.inj hq2_2
                  exact ⟨hf.sub ⟨rfl, rfl, rfl, trivial⟩, hm.pick [1, 2] (by decide) rfl⟩
                ·
                  replace hq2_2 := (ite_f h3_4).symm.trans hq2_2
                  refine cond_f hf rfl h3_4 ?_
                  refine wp_seq ?_
                  refine wp_region_lit ?_
                  refine st_y hf rfl rfl rfl (y_eql rfl rfl rfl) ?_
                  clear hf a; intro a hf
                  refine st_y hf rfl rfl rfl (y_assign rfl rfl) ?_
                  clear hf a; intro a hf
                  refine st_end ?_
                  refine x_then_n ?_
                  obtain ⟨s3_1, hq3_1, hq2_2⟩ := bnd hq2_2
                  refine code_cut (K := fun a w => Fr 83 [(5, (.pointer (some ⟨b0_2, 0, none⟩))), (7, (.pointer (some ⟨b0_3, 0, none⟩))), (9, (.int .i64 (s3_1)))] a ∧ Mem w0 (hp w0) w [blk b0_2 [(.int .i64 (x_.op)), (.int .i64 (x_.a_)), (.int .i64 (x_.b)), (.int .i64 (x_.c)), (.int .i64 (x_.n_))] 27, blk b0_3 [(.string ⟨(r0_1.1.name).b.toArray⟩), (.int .i64 (r0_1.1.fields))] 62]) ?_ ?_
                  ·
                    rcases bcases (decide (x_.op = 17)) with h4_1 | h4_1
                    ·
                      replace hq3_1 := (ite_t h4_1).symm.trans hq3_1
                      have h4_2 := of_decide_eq_true h4_1
                      refine cond_t hf rfl h4_1 ?_
                      refine wp_region_lit ?_
                      refine st_y hf rfl rfl rfl (y_assign rfl rfl) ?_
                      clear hf a; intro a hf
                      refine st_end ?_
                      refine x_then_n ?_
                      obtain rfl := Option.some.inj hq3_1
                      exact ⟨hf.sub ⟨rfl, rfl, rfl, trivial⟩, hm.pick [1, 2] (by decide) rfl⟩
                    ·
                      replace hq3_1 := (ite_f h4_1).symm.trans hq3_1
                      have h4_3 := of_decide_eq_false h4_1
                      refine cond_f hf rfl h4_1 ?_
                      refine wp_seq ?_
                      refine wp_region_lit ?_
                      refine st_y hf rfl rfl rfl (y_eql rfl rfl rfl) ?_
                      clear hf a; intro a hf
                      refine st_y hf rfl rfl rfl (y_assign rfl rfl) ?_
                      clear hf a; intro a hf
                      refine st_end ?_
                      refine x_then_n ?_
                      obtain ⟨s4_1, hq4_1, hq3_1⟩ := bnd hq3_1
                      refine code_cut (K := fun a w => Fr 83 [(5, (.pointer (some ⟨b0_2, 0, none⟩))), (7, (.pointer (some ⟨b0_3, 0, none⟩))), (9, (.int .i64 (s4_1)))] a ∧ Mem w0 (hp w0) w [blk b0_2 [(.int .i64 (x_.op)), (.int .i64 (x_.a_)), (.int .i64 (x_.b)), (.int .i64 (x_.c)), (.int .i64 (x_.n_))] 27, blk b0_3 [(.string ⟨(r0_1.1.name).b.toArray⟩), (.int .i64 (r0_1.1.fields))] 62]) ?_ ?_
                      ·
                        rcases bcases (decide (x_.op = 18)) with h5_1 | h5_1
                        ·
                          replace hq4_1 := (ite_t h5_1).symm.trans hq4_1
                          have h5_2 := of_decide_eq_true h5_1
                          refine cond_t hf rfl h5_1 ?_
                          refine wp_region_lit ?_
                          refine st_y hf rfl rfl rfl (y_fieldAddr fo_99_0 rfl rfl) ?_
                          clear hf a; intro a hf
                          refine st_y hf rfl rfl rfl (y_load1 Tryd.isAgg97 rfl rfl (hm.blk_cell 0 rfl rfl)) ?_
                          clear hf a; intro a hf
                          refine st_y hf rfl rfl rfl (y_move rfl rfl) ?_
                          clear hf a; intro a hf
                          obtain ⟨x5_1, hx5_1, hq4_1⟩ := bnd hq4_1
                          obtain ⟨h5_3, hx5_2⟩ := getI_some.1 hx5_1
                          obtain ⟨b5_1, o5_1, c5_1, he⟩ := idx_form' h1 hx5_2
                          subst he
                          obtain ⟨_, _, hc5_1, hr5_1⟩ := ro_get' h1 hx5_2
                          obtain ⟨_, _, rfl, rfl, _, _, rfl, rfl, h5_4⟩ := hr5_1
                          obtain ⟨v5_1, rfl, -⟩ := id h5_4
                          replace h5_4 : GT.rep (hp w0) [v5_1] x5_1.ins := h5_4
                          replace hc5_1 : CellsAt (hp w0) b5_1 (o5_1 + (k_).toNat * 3) [(.int .i64 (x5_1.params)), (.int .i64 (x5_1.slots)), v5_1] := hc5_1
                          refine st_y hf rfl rfl rfl (y_indexAddr st_97 rfl rfl rfl h5_3 (idx_lt hx5_2)) ?_
                          clear hf a; intro a hf
                          refine st_y hf rfl rfl rfl (y_fieldAddr fo_35_0 rfl rfl) ?_
                          clear hf a; intro a hf
                          refine st_y hf rfl rfl rfl (y_load1 Tryd.isAgg3 rfl rfl ((hc5_1.mono hm.lez).cell (j := 0) rfl)) ?_
                          clear hf a; intro a hf
                          refine st_y hf rfl rfl rfl (y_subw rfl rfl rfl) ?_
                          clear hf a; intro a hf
                          refine st_y hf rfl rfl rfl (y_assign rfl rfl) ?_
                          clear hf a; intro a hf
                          refine st_end ?_
                          refine x_then_n ?_
                          obtain rfl := Option.some.inj hq4_1
                          exact ⟨hf.sub ⟨rfl, rfl, rfl, trivial⟩, hm.pick [1, 2] (by decide) rfl⟩
                        ·
                          replace hq4_1 := (ite_f h5_1).symm.trans hq4_1
                          have h5_5 := of_decide_eq_false h5_1
                          refine cond_f hf rfl h5_1 ?_
                          refine wp_seq ?_
                          refine wp_seq ?_
                          refine wp_region_lit ?_
                          refine st_y hf rfl rfl rfl (y_eql rfl rfl rfl) ?_
                          clear hf a; intro a hf
                          refine st_y hf rfl rfl rfl (y_assign rfl rfl) ?_
                          clear hf a; intro a hf
                          refine st_end ?_
                          refine x_then_n ?_
                          obtain ⟨s5_1, hq5_1, hq4_1⟩ := bnd hq4_1
                          refine code_cut (K := fun a w => Fr 83 [(1, (.int .i64 (k_))), (3, (.pointer (some ⟨b0_1, 0, none⟩))), (5, (.pointer (some ⟨b0_2, 0, none⟩))), (7, (.pointer (some ⟨b0_3, 0, none⟩))), (9, (.int .i64 (255))), (62, (.bool (s5_1)))] a ∧ Mem w0 (hp w0) w [blk b0_1 [v1] 99, blk b0_2 [(.int .i64 (x_.op)), (.int .i64 (x_.a_)), (.int .i64 (x_.b)), (.int .i64 (x_.c)), (.int .i64 (x_.n_))] 27, blk b0_3 [(.string ⟨(r0_1.1.name).b.toArray⟩), (.int .i64 (r0_1.1.fields))] 62]) ?_ ?_
                          ·
                            rcases bcases (decide (x_.op = 20)) with h6_1 | h6_1
                            ·
                              replace hq5_1 := (ite_t h6_1).symm.trans hq5_1
                              have h6_2 := of_decide_eq_true h6_1
                              refine cond_t hf rfl h6_1 ?_
                              refine wp_skip ?_
                              refine x_then_n ?_
                              obtain rfl := Option.some.inj hq5_1
                              exact ⟨hf.sub ⟨rfl, rfl, rfl, rfl, rfl, rfl, trivial⟩, hm.pick [0, 1, 2] (by decide) rfl⟩
                            ·
                              replace hq5_1 := (ite_f h6_1).symm.trans hq5_1
                              have h6_3 := of_decide_eq_false h6_1
                              refine cond_f hf rfl h6_1 ?_
                              refine wp_region_lit ?_
                              refine st_y hf rfl rfl rfl (y_eql rfl rfl rfl) ?_
                              clear hf a; intro a hf
                              refine st_y hf rfl rfl rfl (y_assign rfl rfl) ?_
                              clear hf a; intro a hf
                              refine st_end ?_
                              refine x_then_n ?_
                              obtain rfl := Option.some.inj hq5_1
                              exact ⟨hf.sub ⟨rfl, rfl, rfl, rfl, rfl, rfl, trivial⟩, hm.pick [0, 1, 2] (by decide) rfl⟩
                          ·
                            clear hf hm
                            rintro a w ⟨hf, hm⟩
                            refine x_then_n ?_
                            obtain ⟨s5_2, hq5_2, hq4_1⟩ := bnd hq4_1
                            refine code_cut (K := fun a w => s5_2 ≤ 140737488355327 ∧ Fr 83 [(5, (.pointer (some ⟨b0_2, 0, none⟩))), (7, (.pointer (some ⟨b0_3, 0, none⟩))), (9, (.int .i64 (s5_2)))] a ∧ Mem w0 (hp w0) w [blk b0_2 [(.int .i64 (x_.op)), (.int .i64 (x_.a_)), (.int .i64 (x_.b)), (.int .i64 (x_.c)), (.int .i64 (x_.n_))] 27, blk b0_3 [(.string ⟨(r0_1.1.name).b.toArray⟩), (.int .i64 (r0_1.1.fields))] 62]) ?_ ?_
                            ·
                              rcases bcases (s5_1) with h6_4 | h6_4
                              ·
                                replace hq5_2 := (ite_t h6_4).symm.trans hq5_2
                                refine cond_t hf rfl h6_4 ?_
                                refine wp_region_lit ?_
                                refine st_y hf rfl rfl rfl (y_fieldAddr fo_99_0 rfl rfl) ?_
                                clear hf a; intro a hf
                                refine st_y hf rfl rfl rfl (y_load1 Tryd.isAgg97 rfl rfl (hm.blk_cell 0 rfl rfl)) ?_
                                clear hf a; intro a hf
                                refine st_y hf rfl rfl rfl (y_move rfl rfl) ?_
                                clear hf a; intro a hf
                                obtain ⟨x6_1, hx6_1, hq5_2⟩ := bnd hq5_2
                                obtain ⟨h6_5, hx6_2⟩ := getI_some.1 hx6_1
                                obtain ⟨b6_1, o6_1, c6_1, he⟩ := idx_form' h1 hx6_2
                                subst he
                                obtain ⟨_, _, hc6_1, hr6_1⟩ := ro_get' h1 hx6_2
                                obtain ⟨_, _, rfl, rfl, _, _, rfl, rfl, h6_6⟩ := hr6_1
                                obtain ⟨v6_1, rfl, -⟩ := id h6_6
                                replace h6_6 : GT.rep (hp w0) [v6_1] x6_1.ins := h6_6
                                replace hc6_1 : CellsAt (hp w0) b6_1 (o6_1 + (k_).toNat * 3) [(.int .i64 (x6_1.params)), (.int .i64 (x6_1.slots)), v6_1] := hc6_1
                                refine st_y hf rfl rfl rfl (y_indexAddr st_97 rfl rfl rfl h6_5 (idx_lt hx6_2)) ?_
                                clear hf a; intro a hf
                                refine st_y hf rfl rfl rfl (y_fieldAddr fo_35_2 rfl rfl) ?_
                                clear hf a; intro a hf
                                refine st_y hf rfl rfl rfl (y_load1 Tryd.isAgg33 rfl rfl ((hc6_1.mono hm.lez).cell (j := 2) rfl)) ?_
                                clear hf a; intro a hf
                                obtain ⟨p6_1, c6_2, he, hl6_1⟩ := ro_slice h6_6
                                subst he
                                refine st_y hf rfl rfl rfl (y_len_slice st_33.und rfl rfl) ?_
                                clear hf a; intro a hf
                                refine st_y hf rfl rfl rfl (y_sub64 rfl rfl rfl (by omega) (by omega)) ?_
                                clear hf a; intro a hf
                                refine st_y hf rfl rfl rfl (y_assign rfl rfl) ?_
                                clear hf a; intro a hf
                                refine st_end ?_
                                refine x_then_n ?_
                                obtain rfl := Option.some.inj hq5_2
                                exact ⟨(by first | omega | (dsimp only; omega)), hf.sub ⟨rfl, rfl, rfl, trivial⟩, hm.pick [1, 2] (by decide) rfl⟩
                              ·
                                replace hq5_2 := (ite_f h6_4).symm.trans hq5_2
                                refine cond_f hf rfl h6_4 ?_
                                refine wp_skip ?_
                                refine x_then_n ?_
                                obtain rfl := Option.some.inj hq5_2
                                exact ⟨(by first | omega | (dsimp only; omega)), hf.sub ⟨rfl, rfl, rfl, trivial⟩, hm.pick [1, 2] (by decide) rfl⟩
                            ·
                              clear hf hm
                              rintro a w ⟨hn5_1, hf, hm⟩
                              refine x_then_n ?_
                              obtain rfl := Option.some.inj hq4_1
                              exact ⟨hf.sub ⟨rfl, rfl, rfl, trivial⟩, hm.pick [0, 1] (by decide) rfl⟩
                      ·
                        clear hf hm
                        rintro a w ⟨hf, hm⟩
                        refine x_then_n ?_
                        obtain rfl := Option.some.inj hq3_1
                        exact ⟨hf.sub ⟨rfl, rfl, rfl, trivial⟩, hm.pick [0, 1] (by decide) rfl⟩
                  ·
                    clear hf hm
                    rintro a w ⟨hf, hm⟩
                    refine x_then_n ?_
                    obtain rfl := Option.some.inj hq2_2
                    exact ⟨hf.sub ⟨rfl, rfl, rfl, trivial⟩, hm.pick [0, 1] (by decide) rfl⟩
              ·
                clear hf hm
                rintro a w ⟨hf, hm⟩
                refine x_then_n ?_
                obtain rfl := Option.some.inj hq1_1
                exact ⟨hf.sub ⟨rfl, rfl, rfl, trivial⟩, hm.pick [0, 1] (by decide) rfl⟩
        ·
          clear hf hm
          rintro a w ⟨hf, hm⟩
          refine x_blk_n ?_
          refine x_then_n ?_
          obtain rfl := Option.some.inj hq0_2
          exact ⟨hf.sub ⟨rfl, rfl, rfl, trivial⟩, hm.pick [0, 1] (by decide) rfl⟩
      ·
        clear hf hm
        rintro a w ⟨hf, hm⟩
        refine x_then_n ?_
        refine wp_seq ?_
        obtain ⟨s0_3, hq0_3, hq⟩ := bnd hq
        refine code_cut (K := fun a w => Fr 83 [(6, (.bool (s0_3)))] a ∧ Mem w0 (hp w0) w []) ?_ ?_
        ·
          refine wp_region_lit ?_
          refine st_y hf rfl rfl rfl (y_fieldAddr fo_62_1 rfl rfl) ?_
          clear hf a; intro a hf
          refine st_y hf rfl rfl rfl (y_load1 Tryd.isAgg3 rfl rfl (hm.blk_cell 1 rfl rfl)) ?_
          clear hf a; intro a hf
          refine st_y hf rfl rfl rfl (y_and rfl rfl rfl) ?_
          clear hf a; intro a hf
          refine st_y hf rfl rfl rfl (y_eql rfl rfl rfl) ?_
          clear hf a; intro a hf
          refine st_y hf rfl rfl rfl (y_move rfl rfl) ?_
          clear hf a; intro a hf
          rcases bcases (decide ((andI r0_1.1.fields 8) = 0)) with h1_10 | h1_10
          ·
            replace hq0_3 := (ite_t h1_10).symm.trans hq0_3
            have h1_11 := of_decide_eq_true h1_10
            refine st_no hf rfl rfl (lk_b rfl h1_10) rfl rfl rfl ?_
            clear hf a; intro a hf
            refine st_no hf rfl rfl (lk_b rfl h1_10) rfl rfl rfl ?_
            clear hf a; intro a hf
            refine st_no hf rfl rfl (lk_b rfl h1_10) rfl rfl rfl ?_
            clear hf a; intro a hf
            refine st_no hf rfl rfl (lk_b rfl h1_10) rfl rfl rfl ?_
            clear hf a; intro a hf
            refine st_y hf rfl rfl rfl (y_pick_t rfl (ev_b rfl h1_10) rfl) ?_
            clear hf a; intro a hf
            refine st_y hf rfl rfl rfl (y_assign rfl rfl) ?_
            clear hf a; intro a hf
            refine st_end ?_
            refine x_then_n ?_
            obtain rfl := Option.some.inj hq0_3
            exact ⟨hf.sub ⟨rfl, trivial⟩, hm.pick [] (by decide) rfl⟩
          ·
            replace hq0_3 := (ite_f h1_10).symm.trans hq0_3
            have h1_12 := of_decide_eq_false h1_10
            refine st_yg hf rfl rfl (lk_b rfl h1_10) rfl rfl (y_fieldAddr fo_27_4 rfl rfl) ?_
            clear hf a; intro a hf
            refine st_yg hf rfl rfl (lk_b rfl h1_10) rfl rfl (y_load1 Tryd.isAgg3 rfl rfl (hm.blk_cell 0 rfl rfl)) ?_
            clear hf a; intro a hf
            refine st_yg hf rfl rfl (lk_b rfl h1_10) rfl rfl (y_move rfl rfl) ?_
            clear hf a; intro a hf
            obtain ⟨r1_4, hx1_4, hq0_3⟩ := bnd hq0_3
            refine st_efg hf rfl rfl (lk_b rfl h1_10) rfl rfl (e_call hf rfl Tryd.call43 rfl (impl_within_ok _ x_.n_ 0 s0_2 _ hx1_4)) ?_
            clear hf a; rintro v1_4 w1_4 a ho1_4 hf
            obtain ⟨rfl, hB⟩ := ho1_4
            replace hm := hm.below' hB; clear hB
            refine st_y hf rfl rfl rfl (y_pick_f rfl (ev_b rfl h1_10) rfl) ?_
            clear hf a; intro a hf
            refine st_y hf rfl rfl rfl (y_assign rfl rfl) ?_
            clear hf a; intro a hf
            refine st_end ?_
            refine x_then_n ?_
            obtain rfl := Option.some.inj hq0_3
            exact ⟨hf.sub ⟨rfl, trivial⟩, hm.pick [] (by decide) rfl⟩
        ·
          clear hf hm
          rintro a w ⟨hf, hm⟩
          refine x_then_n ?_
          refine wp_ret ?_
          obtain rfl := Option.some.inj hq
          refine ret_tmp hf Tryd.results82 rfl ?_
          exact ⟨rfl, hm.below⟩

theorem impl_MachValid_1_ok (w0 : World) (x_ : Mins) (c0_ : Mach) (v1 : Value) (h1 : GT.rep (hp w0) [v1] c0_.fns) (bf0 : Nat) (hbf0 : w0.heap[bf0]? = some (.cells ([v1] : List Value).toArray 99 (0, 0))) (c1_ : Int) (bf1 : Nat) (hbf1 : w0.heap[bf1]? = some (.cells ([(.int .i64 (c1_))] : List Value).toArray 3 (0, 0))) (hG0 : GT.rep (hp w0) [.slice (some ⟨0, 0, none⟩) 23 23] glob_impl_forms) (r : Bool) (hq : impl_MachValid_1 x_ c0_ c1_ = some r) :
    Con Tryd.prog 81 [(.agg #[(.int .i64 (x_.op)), (.int .i64 (x_.a_)), (.int .i64 (x_.b)), (.int .i64 (x_.c)), (.int .i64 (x_.n_))]), (.pointer (some ⟨bf0, 0, none⟩)), (.pointer (some ⟨bf1, 0, none⟩))] w0 (fun v w' => v = (.bool (r)) ∧ Below w0.heap.size w0 w') := by
  unfold impl_MachValid_1 at hq
  refine con_body (l := [(0, (.agg #[(.int .i64 (x_.op)), (.int .i64 (x_.a_)), (.int .i64 (x_.b)), (.int .i64 (x_.c)), (.int .i64 (x_.n_))])), (1, (.pointer (some ⟨bf0, 0, none⟩))), (2, (.pointer (some ⟨bf1, 0, none⟩)))]) Tryd.func81 rfl Tryd.ntmps81 (Args.get ⟨rfl, rfl, rfl, trivial⟩) rfl ?_
  intro a hf
  have hm := Mem.start w0
  refine wp_seq ?_
  refine wp_region_lit ?_
  refine st_ef hf rfl rfl rfl (e_box hf hm rfl rfl rfl) ?_
  clear hf a; rintro _ w0_1 a ⟨b0_1, rfl, hm⟩ hf
  refine st_y hf rfl rfl rfl (y_assign rfl rfl) ?_
  clear hf a; intro a hf
  refine st_end ?_
  refine x_then_n ?_
  refine wp_seq ?_
  refine wp_region_lit ?_
  refine st_y hf rfl rfl rfl (y_loadN (cs := [v1]) Tryd.isAgg99 Tryd.sizeOf99 rfl rfl (hm.old_at hbf0)) ?_
  clear hf a; intro a hf
  refine st_y hf rfl rfl rfl (y_load1 Tryd.isAgg3 rfl rfl (hm.old_cell hbf1 rfl)) ?_
  clear hf a; intro a hf
  refine st_y hf rfl rfl rfl (y_loadN (cs := [(.int .i64 (x_.op)), (.int .i64 (x_.a_)), (.int .i64 (x_.b)), (.int .i64 (x_.c)), (.int .i64 (x_.n_))]) Tryd.isAgg27 Tryd.sizeOf27 rfl rfl (hm.blk_at 0 rfl)) ?_
  clear hf a; intro a hf
  obtain ⟨r0_1, hx0_1, hq⟩ := bnd hq
  refine st_ef hf rfl rfl rfl (e_call hf rfl Tryd.call82 rfl (impl_minsOk_ok _ c0_ v1 (hm.now h1) c1_ x_ (hm.now hG0) _ hx0_1)) ?_
  clear hf a; rintro v0_1 w0_2 a ho0_1 hf
  obtain ⟨rfl, hB⟩ := ho0_1
  replace hm := hm.below' hB; clear hB
  refine st_y hf rfl rfl rfl (y_not rfl rfl) ?_
  clear hf a; intro a hf
  refine st_y hf rfl rfl rfl (y_assign rfl rfl) ?_
  clear hf a; intro a hf
  refine st_end ?_
  refine x_then_n ?_
  refine wp_ret ?_
  obtain rfl := Option.some.inj hq
  refine ret_tmp hf Tryd.results81 rfl ?_
  exact ⟨rfl, hm.below⟩

end Go.Proofs.YtmhjfaoefcdelaaDoor
