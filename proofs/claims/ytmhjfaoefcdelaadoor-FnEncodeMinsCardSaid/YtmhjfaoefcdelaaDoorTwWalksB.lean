/- A part of the proof of FnEncodeMinsCardSaid. -/
import Derived.Test.YtmhjfaoefcdelaaDoorTwWalksA
namespace Go.Proofs.YtmhjfaoefcdelaaDoor
open Go Go.Wk Go.RowKit
set_option maxRecDepth 4000
set_option maxHeartbeats 4000000

theorem impl_EncodeMins_ok (w0 : World) (x_ : Mins) (hG0 : GT.rep (hp w0) [.slice (some ⟨0, 0, none⟩) 23 23] glob_impl_forms) (r : (List UInt8) × Bool) (hq : impl_EncodeMins x_ = some r) :
    Con Tryd.prog 12 [(.agg #[(.int .i64 (x_.op)), (.int .i64 (x_.a_)), (.int .i64 (x_.b)), (.int .i64 (x_.c)), (.int .i64 (x_.n_))])] w0 (fun v w' => ∃ (x1 : Value), v = (.tuple #[x1, (.bool (r.2))]) ∧ Mem w0 (hp w0) w' [ow [x1] r.1]) := by
  unfold impl_EncodeMins at hq
  refine con_body (l := [(0, (.agg #[(.int .i64 (x_.op)), (.int .i64 (x_.a_)), (.int .i64 (x_.b)), (.int .i64 (x_.c)), (.int .i64 (x_.n_))]))]) Tryd.func12 rfl Tryd.ntmps12 (Args.get ⟨rfl, trivial⟩) rfl ?_
  intro a hf
  have hm := Mem.start w0
  refine wp_seq ?_
  refine wp_region_lit ?_
  refine st_ef hf rfl rfl rfl (e_box hf hm rfl rfl rfl) ?_
  clear hf a; rintro _ w0_1 a ⟨b0_1, rfl, hm⟩ hf
  refine st_y hf rfl rfl rfl (y_assign rfl rfl) ?_
  clear hf a; intro a hf
  refine st_y hf rfl rfl rfl (y_assign rfl rfl) ?_
  clear hf a; intro a hf
  refine st_end ?_
  refine x_then_n ?_
  refine wp_seq ?_
  refine wp_seq ?_
  refine wp_region_lit ?_
  refine st_y hf rfl rfl rfl (y_loadN (cs := [(.int .i64 (x_.op)), (.int .i64 (x_.a_)), (.int .i64 (x_.b)), (.int .i64 (x_.c)), (.int .i64 (x_.n_))]) Tryd.isAgg27 Tryd.sizeOf27 rfl rfl (hm.blk_at 0 rfl)) ?_
  clear hf a; intro a hf
  obtain ⟨r0_1, hx0_1, hq⟩ := bnd hq
  refine st_ef hf rfl rfl rfl (e_call hf rfl Tryd.call41 rfl (impl_formOf_ok _ x_ (hm.now hG0) _ hx0_1)) ?_
  clear hf a; rintro v0_1 w0_2 a ho0_1 hf
  obtain ⟨rfl, hB⟩ := ho0_1
  replace hm := hm.below' hB; clear hB
  refine st_y hf rfl rfl rfl (y_move rfl rfl) ?_
  clear hf a; intro a hf
  refine st_y hf rfl rfl rfl (y_extract rfl rfl rfl) ?_
  clear hf a; intro a hf
  refine st_y hf rfl rfl rfl (y_extract rfl rfl rfl) ?_
  clear hf a; intro a hf
  refine st_ef hf rfl rfl rfl (e_alloc hm Tryd.zeroValue62 rfl rfl) ?_
  clear hf a; rintro _ w0_3 a ⟨b0_2, rfl, hm⟩ hf
  refine st_ef0 hf rfl rfl (e_storeN 0 hf hm rfl Tryd.sizeOf62 rfl rfl rfl (one_cons rfl (one_cons rfl one_nil)) rfl rfl) ?_
  clear hf a; rintro _ w0_4 a hm hf
  refine st_y hf rfl rfl rfl (y_assign rfl rfl) ?_
  clear hf a; intro a hf
  refine st_end ?_
  refine x_then_n ?_
  refine wp_seq ?_
  obtain ⟨s0_1, hq0_1, hq⟩ := bnd hq
  refine code_cut (K := fun a w => Fr 44 [(1, (.pointer (some ⟨b0_1, 0, none⟩))), (41, (.bool (s0_1)))] a ∧ Mem w0 (hp w0) w [blk b0_1 [(.int .i64 (x_.op)), (.int .i64 (x_.a_)), (.int .i64 (x_.b)), (.int .i64 (x_.c)), (.int .i64 (x_.n_))] 27]) ?_ ?_
  ·
    refine wp_region_lit ?_
    refine st_y hf rfl rfl rfl (y_move rfl rfl) ?_
    clear hf a; intro a hf
    refine st_y hf rfl rfl rfl (y_not rfl rfl) ?_
    clear hf a; intro a hf
    refine st_y hf rfl rfl rfl (y_move rfl rfl) ?_
    clear hf a; intro a hf
    rcases bcases (!(r0_1.2)) with h1_1 | h1_1
    ·
      replace hq0_1 := (ite_t h1_1).symm.trans hq0_1
      have h1_2 := bnot_t' h1_1
      refine st_no hf rfl rfl (lk_b rfl h1_1) rfl rfl rfl ?_
      clear hf a; intro a hf
      refine st_no hf rfl rfl (lk_b rfl h1_1) rfl rfl rfl ?_
      clear hf a; intro a hf
      refine st_no hf rfl rfl (lk_b rfl h1_1) rfl rfl rfl ?_
      clear hf a; intro a hf
      refine st_y hf rfl rfl rfl (y_pick_t rfl (ev_b rfl h1_1) rfl) ?_
      clear hf a; intro a hf
      refine st_y hf rfl rfl rfl (y_move rfl rfl) ?_
      clear hf a; intro a hf
      refine st_no hf rfl rfl (lk_b rfl rfl) rfl rfl rfl ?_
      clear hf a; intro a hf
      refine st_no hf rfl rfl (lk_b rfl rfl) rfl rfl rfl ?_
      clear hf a; intro a hf
      refine st_no hf rfl rfl (lk_b rfl rfl) rfl rfl rfl ?_
      clear hf a; intro a hf
      refine st_no hf rfl rfl (lk_b rfl rfl) rfl rfl rfl ?_
      clear hf a; intro a hf
      refine st_y hf rfl rfl rfl (y_pick_t rfl (ev_b rfl rfl) rfl) ?_
      clear hf a; intro a hf
      refine st_y hf rfl rfl rfl (y_move rfl rfl) ?_
      clear hf a; intro a hf
      refine st_no hf rfl rfl (lk_b rfl rfl) rfl rfl rfl ?_
      clear hf a; intro a hf
      refine st_no hf rfl rfl (lk_b rfl rfl) rfl rfl rfl ?_
      clear hf a; intro a hf
      refine st_no hf rfl rfl (lk_b rfl rfl) rfl rfl rfl ?_
      clear hf a; intro a hf
      refine st_no hf rfl rfl (lk_b rfl rfl) rfl rfl rfl ?_
      clear hf a; intro a hf
      refine st_y hf rfl rfl rfl (y_pick_t rfl (ev_b rfl rfl) rfl) ?_
      clear hf a; intro a hf
      refine st_y hf rfl rfl rfl (y_move rfl rfl) ?_
      clear hf a; intro a hf
      refine st_no hf rfl rfl (lk_b rfl rfl) rfl rfl rfl ?_
      clear hf a; intro a hf
      refine st_no hf rfl rfl (lk_b rfl rfl) rfl rfl rfl ?_
      clear hf a; intro a hf
      refine st_no hf rfl rfl (lk_b rfl rfl) rfl rfl rfl ?_
      clear hf a; intro a hf
      refine st_no hf rfl rfl (lk_b rfl rfl) rfl rfl rfl ?_
      clear hf a; intro a hf
      refine st_y hf rfl rfl rfl (y_pick_t rfl (ev_b rfl rfl) rfl) ?_
      clear hf a; intro a hf
      refine st_y hf rfl rfl rfl (y_move rfl rfl) ?_
      clear hf a; intro a hf
      refine st_no hf rfl rfl (lk_b rfl rfl) rfl rfl rfl ?_
      clear hf a; intro a hf
      refine st_no hf rfl rfl (lk_b rfl rfl) rfl rfl rfl ?_
      clear hf a; intro a hf
      refine st_no hf rfl rfl (lk_b rfl rfl) rfl rfl rfl ?_
      clear hf a; intro a hf
      refine st_no hf rfl rfl (lk_b rfl rfl) rfl rfl rfl ?_
      clear hf a; intro a hf
      refine st_y hf rfl rfl rfl (y_pick_t rfl (ev_b rfl rfl) rfl) ?_
      clear hf a; intro a hf
      refine st_end ?_
      refine x_then_n ?_
      obtain rfl := Option.some.inj hq0_1
      exact ⟨hf.sub ⟨rfl, rfl, trivial⟩, hm.pick [1] (by decide) rfl⟩
    ·
      replace hq0_1 := (ite_f h1_1).symm.trans hq0_1
      have h1_3 := bnot_f' h1_1
      refine st_yg hf rfl rfl (lk_b rfl h1_1) rfl rfl (y_fieldAddr fo_27_0 rfl rfl) ?_
      clear hf a; intro a hf
      refine st_yg hf rfl rfl (lk_b rfl h1_1) rfl rfl (y_load1 Tryd.isAgg3 rfl rfl (hm.blk_cell 1 rfl rfl)) ?_
      clear hf a; intro a hf
      obtain ⟨r1_1, hx1_1, hq0_1⟩ := bnd hq0_1
      refine st_efg hf rfl rfl (lk_b rfl h1_1) rfl rfl (e_call hf rfl Tryd.call42 rfl (impl_jumpOp_ok _ x_.op _ hx1_1)) ?_
      clear hf a; rintro v1_1 w1_1 a ho1_1 hf
      obtain ⟨rfl, hB⟩ := ho1_1
      replace hm := hm.below' hB; clear hB
      refine st_y hf rfl rfl rfl (y_pick_f rfl (ev_b rfl h1_1) rfl) ?_
      clear hf a; intro a hf
      refine st_y hf rfl rfl rfl (y_move rfl rfl) ?_
      clear hf a; intro a hf
      rcases bcases (r1_1) with h1_4 | h1_4
      ·
        replace hq0_1 := (ite_t h1_4).symm.trans hq0_1
        refine st_no hf rfl rfl (lk_b rfl h1_4) rfl rfl rfl ?_
        clear hf a; intro a hf
        refine st_no hf rfl rfl (lk_b rfl h1_4) rfl rfl rfl ?_
        clear hf a; intro a hf
        refine st_no hf rfl rfl (lk_b rfl h1_4) rfl rfl rfl ?_
        clear hf a; intro a hf
        refine st_no hf rfl rfl (lk_b rfl h1_4) rfl rfl rfl ?_
        clear hf a; intro a hf
        refine st_y hf rfl rfl rfl (y_pick_t rfl (ev_b rfl h1_4) rfl) ?_
        clear hf a; intro a hf
        refine st_y hf rfl rfl rfl (y_move rfl rfl) ?_
        clear hf a; intro a hf
        refine st_no hf rfl rfl (lk_b rfl rfl) rfl rfl rfl ?_
        clear hf a; intro a hf
        refine st_no hf rfl rfl (lk_b rfl rfl) rfl rfl rfl ?_
        clear hf a; intro a hf
        refine st_no hf rfl rfl (lk_b rfl rfl) rfl rfl rfl ?_
        clear hf a; intro a hf
        refine st_no hf rfl rfl (lk_b rfl rfl) rfl rfl rfl ?_
        clear hf a; intro a hf
        refine st_y hf rfl rfl rfl (y_pick_t rfl (ev_b rfl rfl) rfl) ?_
        clear hf a; intro a hf
        refine st_y hf rfl rfl rfl (y_move rfl rfl) ?_
        clear hf a; intro a hf
        refine st_no hf rfl rfl (lk_b rfl rfl) rfl rfl rfl ?_
        clear hf a; intro a hf
        refine st_no hf rfl rfl (lk_b rfl rfl) rfl rfl rfl ?_
        clear hf a; intro a hf
        refine st_no hf rfl rfl (lk_b rfl rfl) rfl rfl rfl ?_
        clear hf a; intro a hf
        refine st_no hf rfl rfl (lk_b rfl rfl) rfl rfl rfl ?_
        clear hf a; intro a hf
        refine st_y hf rfl rfl rfl (y_pick_t rfl (ev_b rfl rfl) rfl) ?_
        clear hf a; intro a hf
        refine st_y hf rfl rfl rfl (y_move rfl rfl) ?_
        clear hf a; intro a hf
        refine st_no hf rfl rfl (lk_b rfl rfl) rfl rfl rfl ?_
        clear hf a; intro a hf
        refine st_no hf rfl rfl (lk_b rfl rfl) rfl rfl rfl ?_
        clear hf a; intro a hf
        refine st_no hf rfl rfl (lk_b rfl rfl) rfl rfl rfl ?_
        clear hf a; intro a hf
        refine st_no hf rfl rfl (lk_b rfl rfl) rfl rfl rfl ?_
        clear hf a; intro a hf
        refine st_y hf rfl rfl rfl (y_pick_t rfl (ev_b rfl rfl) rfl) ?_
        clear hf a; intro a hf
        refine st_end ?_
        refine x_then_n ?_
        obtain rfl := Option.some.inj hq0_1
        exact ⟨hf.sub ⟨rfl, rfl, trivial⟩, hm.pick [1] (by decide) rfl⟩
      ·
        replace hq0_1 := (ite_f h1_4).symm.trans hq0_1
        refine st_yg hf rfl rfl (lk_b rfl h1_4) rfl rfl (y_fieldAddr fo_27_1 rfl rfl) ?_
        clear hf a; intro a hf
        refine st_yg hf rfl rfl (lk_b rfl h1_4) rfl rfl (y_load1 Tryd.isAgg3 rfl rfl (hm.blk_cell 1 rfl rfl)) ?_
        clear hf a; intro a hf
        obtain ⟨r1_2, hx1_2, hq0_1⟩ := bnd hq0_1
        refine st_efg hf rfl rfl (lk_b rfl h1_4) rfl rfl (e_call hf rfl Tryd.call43 rfl (impl_within_ok _ x_.a_ 0 7 _ hx1_2)) ?_
        clear hf a; rintro v1_2 w1_2 a ho1_2 hf
        obtain ⟨rfl, hB⟩ := ho1_2
        replace hm := hm.below' hB; clear hB
        refine st_yg hf rfl rfl (lk_b rfl h1_4) rfl rfl (y_not rfl rfl) ?_
        clear hf a; intro a hf
        refine st_y hf rfl rfl rfl (y_pick_f rfl (ev_b rfl h1_4) rfl) ?_
        clear hf a; intro a hf
        refine st_y hf rfl rfl rfl (y_move rfl rfl) ?_
        clear hf a; intro a hf
        rcases bcases (!(r1_2)) with h1_5 | h1_5
        ·
          replace hq0_1 := (ite_t h1_5).symm.trans hq0_1
          have h1_6 := bnot_t' h1_5
          refine st_no hf rfl rfl (lk_b rfl h1_5) rfl rfl rfl ?_
          clear hf a; intro a hf
          refine st_no hf rfl rfl (lk_b rfl h1_5) rfl rfl rfl ?_
          clear hf a; intro a hf
          refine st_no hf rfl rfl (lk_b rfl h1_5) rfl rfl rfl ?_
          clear hf a; intro a hf
          refine st_no hf rfl rfl (lk_b rfl h1_5) rfl rfl rfl ?_
          clear hf a; intro a hf
          refine st_y hf rfl rfl rfl (y_pick_t rfl (ev_b rfl h1_5) rfl) ?_
          clear hf a; intro a hf
          refine st_y hf rfl rfl rfl (y_move rfl rfl) ?_
          clear hf a; intro a hf
          refine st_no hf rfl rfl (lk_b rfl rfl) rfl rfl rfl ?_
          clear hf a; intro a hf
          refine st_no hf rfl rfl (lk_b rfl rfl) rfl rfl rfl ?_
          clear hf a; intro a hf
          refine st_no hf rfl rfl (lk_b rfl rfl) rfl rfl rfl ?_
          clear hf a; intro a hf
          refine st_no hf rfl rfl (lk_b rfl rfl) rfl rfl rfl ?_
          clear hf a; intro a hf
          refine st_y hf rfl rfl rfl (y_pick_t rfl (ev_b rfl rfl) rfl) ?_
          clear hf a; intro a hf
          refine st_y hf rfl rfl rfl (y_move rfl rfl) ?_
          clear hf a; intro a hf
          refine st_no hf rfl rfl (lk_b rfl rfl) rfl rfl rfl ?_
          clear hf a; intro a hf
          refine st_no hf rfl rfl (lk_b rfl rfl) rfl rfl rfl ?_
          clear hf a; intro a hf
          refine st_no hf rfl rfl (lk_b rfl rfl) rfl rfl rfl ?_
          clear hf a; intro a hf
          refine st_no hf rfl rfl (lk_b rfl rfl) rfl rfl rfl ?_
          clear hf a; intro a hf
          refine st_y hf rfl rfl rfl (y_pick_t rfl (ev_b rfl rfl) rfl) ?_
          clear hf a; intro a hf
          refine st_end ?_
          refine x_then_n ?_
          obtain rfl := Option.some.inj hq0_1
          exact ⟨hf.sub ⟨rfl, rfl, trivial⟩, hm.pick [1] (by decide) rfl⟩
        ·
          replace hq0_1 := (ite_f h1_5).symm.trans hq0_1
          have h1_7 := bnot_f' h1_5
          refine st_yg hf rfl rfl (lk_b rfl h1_5) rfl rfl (y_fieldAddr fo_27_2 rfl rfl) ?_
          clear hf a; intro a hf
          refine st_yg hf rfl rfl (lk_b rfl h1_5) rfl rfl (y_load1 Tryd.isAgg3 rfl rfl (hm.blk_cell 1 rfl rfl)) ?_
          clear hf a; intro a hf
          obtain ⟨r1_3, hx1_3, hq0_1⟩ := bnd hq0_1
          refine st_efg hf rfl rfl (lk_b rfl h1_5) rfl rfl (e_call hf rfl Tryd.call43 rfl (impl_within_ok _ x_.b 0 7 _ hx1_3)) ?_
          clear hf a; rintro v1_3 w1_3 a ho1_3 hf
          obtain ⟨rfl, hB⟩ := ho1_3
          replace hm := hm.below' hB; clear hB
          refine st_yg hf rfl rfl (lk_b rfl h1_5) rfl rfl (y_not rfl rfl) ?_
          clear hf a; intro a hf
          refine st_y hf rfl rfl rfl (y_pick_f rfl (ev_b rfl h1_5) rfl) ?_
          clear hf a; intro a hf
          refine st_y hf rfl rfl rfl (y_move rfl rfl) ?_
          clear hf a; intro a hf
          rcases bcases (!(r1_3)) with h1_8 | h1_8
          ·
            replace hq0_1 := (ite_t h1_8).symm.trans hq0_1
            have h1_9 := bnot_t' h1_8
            refine st_no hf rfl rfl (lk_b rfl h1_8) rfl rfl rfl ?_
            clear hf a; intro a hf
            refine st_no hf rfl rfl (lk_b rfl h1_8) rfl rfl rfl ?_
            clear hf a; intro a hf
            refine st_no hf rfl rfl (lk_b rfl h1_8) rfl rfl rfl ?_
            clear hf a; intro a hf
            refine st_no hf rfl rfl (lk_b rfl h1_8) rfl rfl rfl ?_
            clear hf a; intro a hf
            refine st_y hf rfl rfl rfl (y_pick_t rfl (ev_b rfl h1_8) rfl) ?_
            clear hf a; intro a hf
            refine st_y hf rfl rfl rfl (y_move rfl rfl) ?_
            clear hf a; intro a hf
            refine st_no hf rfl rfl (lk_b rfl rfl) rfl rfl rfl ?_
            clear hf a; intro a hf
            refine st_no hf rfl rfl (lk_b rfl rfl) rfl rfl rfl ?_
            clear hf a; intro a hf
            refine st_no hf rfl rfl (lk_b rfl rfl) rfl rfl rfl ?_
            clear hf a; intro a hf
            refine st_no hf rfl rfl (lk_b rfl rfl) rfl rfl rfl ?_
            clear hf a; intro a hf
            refine st_y hf rfl rfl rfl (y_pick_t rfl (ev_b rfl rfl) rfl) ?_
            clear hf a; intro a hf
            refine st_end ?_
            refine x_then_n ?_
            obtain rfl := Option.some.inj hq0_1
            exact ⟨hf.sub ⟨rfl, rfl, trivial⟩, hm.pick [1] (by decide) rfl⟩
          ·
            replace hq0_1 := (ite_f h1_8).symm.trans hq0_1
            have h1_10 := bnot_f' h1_8
            refine st_yg hf rfl rfl (lk_b rfl h1_8) rfl rfl (y_fieldAddr fo_27_3 rfl rfl) ?_
            clear hf a; intro a hf
            refine st_yg hf rfl rfl (lk_b rfl h1_8) rfl rfl (y_load1 Tryd.isAgg3 rfl rfl (hm.blk_cell 1 rfl rfl)) ?_
            clear hf a; intro a hf
            obtain ⟨r1_4, hx1_4, hq0_1⟩ := bnd hq0_1
            refine st_efg hf rfl rfl (lk_b rfl h1_8) rfl rfl (e_call hf rfl Tryd.call43 rfl (impl_within_ok _ x_.c 0 7 _ hx1_4)) ?_
            clear hf a; rintro v1_4 w1_4 a ho1_4 hf
            obtain ⟨rfl, hB⟩ := ho1_4
            replace hm := hm.below' hB; clear hB
            refine st_yg hf rfl rfl (lk_b rfl h1_8) rfl rfl (y_not rfl rfl) ?_
            clear hf a; intro a hf
            refine st_y hf rfl rfl rfl (y_pick_f rfl (ev_b rfl h1_8) rfl) ?_
            clear hf a; intro a hf
            refine st_y hf rfl rfl rfl (y_move rfl rfl) ?_
            clear hf a; intro a hf
            rcases bcases (!(r1_4)) with h1_11 | h1_11
            ·
              replace hq0_1 := (ite_t h1_11).symm.trans hq0_1
              have h1_12 := bnot_t' h1_11
              refine st_no hf rfl rfl (lk_b rfl h1_11) rfl rfl rfl ?_
              clear hf a; intro a hf
              refine st_no hf rfl rfl (lk_b rfl h1_11) rfl rfl rfl ?_
              clear hf a; intro a hf
              refine st_no hf rfl rfl (lk_b rfl h1_11) rfl rfl rfl ?_
              clear hf a; intro a hf
              refine st_no hf rfl rfl (lk_b rfl h1_11) rfl rfl rfl ?_
              clear hf a; intro a hf
              refine st_y hf rfl rfl rfl (y_pick_t rfl (ev_b rfl h1_11) rfl) ?_
              clear hf a; intro a hf
              refine st_end ?_
              refine x_then_n ?_
              obtain rfl := Option.some.inj hq0_1
              exact ⟨hf.sub ⟨rfl, rfl, trivial⟩, hm.pick [1] (by decide) rfl⟩
            ·
              replace hq0_1 := (ite_f h1_11).symm.trans hq0_1
              have h1_13 := bnot_f' h1_11
              refine st_yg hf rfl rfl (lk_b rfl h1_11) rfl rfl (y_fieldAddr fo_27_4 rfl rfl) ?_
              clear hf a; intro a hf
              refine st_yg hf rfl rfl (lk_b rfl h1_11) rfl rfl (y_load1 Tryd.isAgg3 rfl rfl (hm.blk_cell 1 rfl rfl)) ?_
              clear hf a; intro a hf
              obtain ⟨r1_5, hx1_5, hq0_1⟩ := bnd hq0_1
              refine st_efg hf rfl rfl (lk_b rfl h1_11) rfl rfl (e_call hf rfl Tryd.call44 rfl (impl_isByte_ok _ x_.n_ _ hx1_5)) ?_
              clear hf a; rintro v1_5 w1_5 a ho1_5 hf
              obtain ⟨rfl, hB⟩ := ho1_5
              replace hm := hm.below' hB; clear hB
              refine st_yg hf rfl rfl (lk_b rfl h1_11) rfl rfl (y_not rfl rfl) ?_
              clear hf a; intro a hf
              refine st_y hf rfl rfl rfl (y_pick_f rfl (ev_b rfl h1_11) rfl) ?_
              clear hf a; intro a hf
              refine st_end ?_
              refine x_then_n ?_
              obtain rfl := Option.some.inj hq0_1
              exact ⟨hf.sub ⟨rfl, rfl, trivial⟩, hm.pick [1] (by decide) rfl⟩
  ·
    clear hf hm
    rintro a w ⟨hf, hm⟩
    refine x_then_n ?_
    rcases bcases (s0_1) with h0_1 | h0_1
    ·
      replace hq := (ite_t h0_1).symm.trans hq
      refine cond_t hf rfl h0_1 ?_
      refine wp_seq ?_
      refine wp_region_lit ?_
      refine st_y hf rfl rfl rfl (y_assign rfl rfl) ?_
      clear hf a; intro a hf
      refine st_y hf rfl rfl rfl (y_assign rfl rfl) ?_
      clear hf a; intro a hf
      refine st_end ?_
      refine x_then_n ?_
      refine wp_ret ?_
      refine x_then_ret ?_
      obtain rfl := Option.some.inj hq
      have hm := hm.nilow (α := UInt8)
      refine ret_tmp2 hf Tryd.results12 rfl rfl ?_
      exact ⟨(.slice none 0 0), rfl, hm.pick [0] (by decide) rfl⟩
    ·
      replace hq := (ite_f h0_1).symm.trans hq
      refine cond_f hf rfl h0_1 ?_
      refine wp_skip ?_
      refine x_then_n ?_
      refine wp_seq ?_
      refine wp_region_lit ?_
      refine st_y hf rfl rfl rfl (y_loadN (cs := [(.int .i64 (x_.op)), (.int .i64 (x_.a_)), (.int .i64 (x_.b)), (.int .i64 (x_.c)), (.int .i64 (x_.n_))]) Tryd.isAgg27 Tryd.sizeOf27 rfl rfl (hm.blk_at 0 rfl)) ?_
      clear hf a; intro a hf
      obtain ⟨r0_2, hx0_2, hq⟩ := bnd hq
      refine st_ef hf rfl rfl rfl (e_call hf rfl Tryd.call45 rfl (impl_encoded_ok _ x_ _ hx0_2)) ?_
      clear hf a; rintro v0_2 w0_5 a ho0_2 hf
      obtain ⟨_, rfl, hB⟩ := ho0_2
      replace hm := hm.give hB; clear hB
      refine st_y hf rfl rfl rfl (y_assign rfl rfl) ?_
      clear hf a; intro a hf
      refine st_y hf rfl rfl rfl (y_assign rfl rfl) ?_
      clear hf a; intro a hf
      refine st_end ?_
      refine x_then_n ?_
      refine wp_ret ?_
      obtain rfl := Option.some.inj hq
      refine ret_tmp2 hf Tryd.results12 rfl rfl ?_
      exact ⟨v0_2, rfl, hm.pick [0] (by decide) rfl⟩

theorem spec_l24Jumps_ok (w0 : World) (x_ : Mins) (r : Bool) (hq : spec_l24Jumps x_ = some r) :
    Con Tryd.prog 37 [(.agg #[(.int .i64 (x_.op)), (.int .i64 (x_.a_)), (.int .i64 (x_.b)), (.int .i64 (x_.c)), (.int .i64 (x_.n_))])] w0 (fun v w' => v = (.bool (r)) ∧ Below w0.heap.size w0 w') := by
  unfold spec_l24Jumps at hq
  refine con_body (l := [(0, (.agg #[(.int .i64 (x_.op)), (.int .i64 (x_.a_)), (.int .i64 (x_.b)), (.int .i64 (x_.c)), (.int .i64 (x_.n_))]))]) Tryd.func37 rfl Tryd.ntmps37 (Args.get ⟨rfl, trivial⟩) rfl ?_
  intro a hf
  have hm := Mem.start w0
  refine wp_seq ?_
  refine wp_region_lit ?_
  refine st_ef hf rfl rfl rfl (e_box hf hm rfl rfl rfl) ?_
  clear hf a; rintro _ w0_1 a ⟨b0_1, rfl, hm⟩ hf
  refine st_y hf rfl rfl rfl (y_assign rfl rfl) ?_
  clear hf a; intro a hf
  refine st_end ?_
  refine x_then_n ?_
  refine wp_seq ?_
  obtain ⟨s0_1, hq0_1, hq⟩ := bnd hq
  refine code_cut (K := fun a w => Fr 11 [(2, (.bool (s0_1)))] a ∧ Mem w0 (hp w0) w []) ?_ ?_
  ·
    refine wp_region_lit ?_
    refine st_y hf rfl rfl rfl (y_fieldAddr fo_27_0 rfl rfl) ?_
    clear hf a; intro a hf
    refine st_y hf rfl rfl rfl (y_load1 Tryd.isAgg3 rfl rfl (hm.blk_cell 0 rfl rfl)) ?_
    clear hf a; intro a hf
    refine st_y hf rfl rfl rfl (y_eql rfl rfl rfl) ?_
    clear hf a; intro a hf
    refine st_y hf rfl rfl rfl (y_move rfl rfl) ?_
    clear hf a; intro a hf
    rcases bcases (decide (x_.op = 20)) with h1_1 | h1_1
    ·
      replace hq0_1 := (ite_t h1_1).symm.trans hq0_1
      have h1_2 := of_decide_eq_true h1_1
      refine st_no hf rfl rfl (lk_b rfl h1_1) rfl rfl rfl ?_
      clear hf a; intro a hf
      refine st_no hf rfl rfl (lk_b rfl h1_1) rfl rfl rfl ?_
      clear hf a; intro a hf
      refine st_no hf rfl rfl (lk_b rfl h1_1) rfl rfl rfl ?_
      clear hf a; intro a hf
      refine st_y hf rfl rfl rfl (y_pick_t rfl (ev_b rfl h1_1) rfl) ?_
      clear hf a; intro a hf
      refine st_y hf rfl rfl rfl (y_assign rfl rfl) ?_
      clear hf a; intro a hf
      refine st_end ?_
      refine x_then_n ?_
      obtain rfl := Option.some.inj hq0_1
      exact ⟨hf.sub ⟨rfl, trivial⟩, hm.pick [] (by decide) rfl⟩
    ·
      replace hq0_1 := (ite_f h1_1).symm.trans hq0_1
      have h1_3 := of_decide_eq_false h1_1
      refine st_yg hf rfl rfl (lk_b rfl h1_1) rfl rfl (y_fieldAddr fo_27_0 rfl rfl) ?_
      clear hf a; intro a hf
      refine st_yg hf rfl rfl (lk_b rfl h1_1) rfl rfl (y_load1 Tryd.isAgg3 rfl rfl (hm.blk_cell 0 rfl rfl)) ?_
      clear hf a; intro a hf
      refine st_yg hf rfl rfl (lk_b rfl h1_1) rfl rfl (y_eql rfl rfl rfl) ?_
      clear hf a; intro a hf
      refine st_y hf rfl rfl rfl (y_pick_f rfl (ev_b rfl h1_1) rfl) ?_
      clear hf a; intro a hf
      refine st_y hf rfl rfl rfl (y_assign rfl rfl) ?_
      clear hf a; intro a hf
      refine st_end ?_
      refine x_then_n ?_
      obtain rfl := Option.some.inj hq0_1
      exact ⟨hf.sub ⟨rfl, trivial⟩, hm.pick [] (by decide) rfl⟩
  ·
    clear hf hm
    rintro a w ⟨hf, hm⟩
    refine x_then_n ?_
    refine wp_ret ?_
    obtain rfl := Option.some.inj hq
    refine ret_tmp hf Tryd.results37 rfl ?_
    exact ⟨rfl, hm.below⟩

theorem spec_l22Field_ok (w0 : World) (x_ : Mins) (f : UInt8) (r : Int) (hq : spec_l22Field x_ f = some r) :
    Con Tryd.prog 64 [(.agg #[(.int .i64 (x_.op)), (.int .i64 (x_.a_)), (.int .i64 (x_.b)), (.int .i64 (x_.c)), (.int .i64 (x_.n_))]), (.int .u8 ((f).toNat : Int))] w0 (fun v w' => v = (.int .i64 (r)) ∧ Below w0.heap.size w0 w') := by
  unfold spec_l22Field at hq
  refine con_body (l := [(0, (.agg #[(.int .i64 (x_.op)), (.int .i64 (x_.a_)), (.int .i64 (x_.b)), (.int .i64 (x_.c)), (.int .i64 (x_.n_))])), (1, (.int .u8 ((f).toNat : Int)))]) Tryd.func64 rfl Tryd.ntmps64 (Args.get ⟨rfl, rfl, trivial⟩) rfl ?_
  intro a hf
  have hm := Mem.start w0
  refine wp_seq ?_
  refine wp_region_lit ?_
  refine st_ef hf rfl rfl rfl (e_box hf hm rfl rfl rfl) ?_
  clear hf a; rintro _ w0_1 a ⟨b0_1, rfl, hm⟩ hf
  refine st_y hf rfl rfl rfl (y_assign rfl rfl) ?_
  clear hf a; intro a hf
  refine st_end ?_
  refine x_then_n ?_
  refine wp_seq ?_
  refine wp_seq ?_
  refine wp_region_lit ?_
  refine st_y hf rfl rfl rfl (y_move rfl rfl) ?_
  clear hf a; intro a hf
  refine st_end ?_
  refine x_then_n ?_
  refine wp_block ?_
  refine wp_seq ?_
  refine wp_region_lit ?_
  refine st_y hf rfl rfl rfl (y_eql8 (b := f) (c := (65 : UInt8)) rfl rfl rfl) ?_
  clear hf a; intro a hf
  refine st_y hf rfl rfl rfl (y_assign rfl rfl) ?_
  clear hf a; intro a hf
  refine st_end ?_
  refine x_then_n ?_
  rcases bcases (decide (f = (65 : UInt8))) with h0_1 | h0_1
  ·
    replace hq := (ite_t h0_1).symm.trans hq
    have h0_2 := of_decide_eq_true h0_1
    refine cond_t hf rfl h0_1 ?_
    refine wp_seq ?_
    refine wp_region_lit ?_
    refine st_y hf rfl rfl rfl (y_fieldAddr fo_27_1 rfl rfl) ?_
    clear hf a; intro a hf
    refine st_y hf rfl rfl rfl (y_load1 Tryd.isAgg3 rfl rfl (hm.blk_cell 0 rfl rfl)) ?_
    clear hf a; intro a hf
    refine st_y hf rfl rfl rfl (y_assign rfl rfl) ?_
    clear hf a; intro a hf
    refine st_end ?_
    refine x_then_n ?_
    refine wp_ret ?_
    refine x_blk_ret ?_
    refine x_then_ret ?_
    obtain rfl := Option.some.inj hq
    refine ret_tmp hf Tryd.results64 rfl ?_
    exact ⟨rfl, hm.below⟩
  ·
    replace hq := (ite_f h0_1).symm.trans hq
    have h0_3 := of_decide_eq_false h0_1
    refine cond_f hf rfl h0_1 ?_
    refine wp_seq ?_
    refine wp_region_lit ?_
    refine st_y hf rfl rfl rfl (y_eql8 (b := f) (c := (66 : UInt8)) rfl rfl rfl) ?_
    clear hf a; intro a hf
    refine st_y hf rfl rfl rfl (y_assign rfl rfl) ?_
    clear hf a; intro a hf
    refine st_end ?_
    refine x_then_n ?_
    rcases bcases (decide (f = (66 : UInt8))) with h0_4 | h0_4
    ·
      replace hq := (ite_t h0_4).symm.trans hq
      have h0_5 := of_decide_eq_true h0_4
      refine cond_t hf rfl h0_4 ?_
      refine wp_seq ?_
      refine wp_region_lit ?_
      refine st_y hf rfl rfl rfl (y_fieldAddr fo_27_2 rfl rfl) ?_
      clear hf a; intro a hf
      refine st_y hf rfl rfl rfl (y_load1 Tryd.isAgg3 rfl rfl (hm.blk_cell 0 rfl rfl)) ?_
      clear hf a; intro a hf
      refine st_y hf rfl rfl rfl (y_assign rfl rfl) ?_
      clear hf a; intro a hf
      refine st_end ?_
      refine x_then_n ?_
      refine wp_ret ?_
      refine x_blk_ret ?_
      refine x_then_ret ?_
      obtain rfl := Option.some.inj hq
      refine ret_tmp hf Tryd.results64 rfl ?_
      exact ⟨rfl, hm.below⟩
    ·
      replace hq := (ite_f h0_4).symm.trans hq
      have h0_6 := of_decide_eq_false h0_4
      refine cond_f hf rfl h0_4 ?_
      refine wp_seq ?_
      refine wp_region_lit ?_
      refine st_y hf rfl rfl rfl (y_eql8 (b := f) (c := (67 : UInt8)) rfl rfl rfl) ?_
      clear hf a; intro a hf
      refine st_y hf rfl rfl rfl (y_assign rfl rfl) ?_
      clear hf a; intro a hf
      refine st_end ?_
      refine x_then_n ?_
      rcases bcases (decide (f = (67 : UInt8))) with h0_7 | h0_7
      ·
        replace hq := (ite_t h0_7).symm.trans hq
        have h0_8 := of_decide_eq_true h0_7
        refine cond_t hf rfl h0_7 ?_
        refine wp_seq ?_
        refine wp_region_lit ?_
        refine st_y hf rfl rfl rfl (y_fieldAddr fo_27_3 rfl rfl) ?_
        clear hf a; intro a hf
        refine st_y hf rfl rfl rfl (y_load1 Tryd.isAgg3 rfl rfl (hm.blk_cell 0 rfl rfl)) ?_
        clear hf a; intro a hf
        refine st_y hf rfl rfl rfl (y_assign rfl rfl) ?_
        clear hf a; intro a hf
        refine st_end ?_
        refine x_then_n ?_
        refine wp_ret ?_
        refine x_blk_ret ?_
        refine x_then_ret ?_
        obtain rfl := Option.some.inj hq
        refine ret_tmp hf Tryd.results64 rfl ?_
        exact ⟨rfl, hm.below⟩
      ·
        replace hq := (ite_f h0_7).symm.trans hq
        have h0_9 := of_decide_eq_false h0_7
        refine cond_f hf rfl h0_7 ?_
        refine wp_skip ?_
        refine x_blk_n ?_
        refine x_then_n ?_
        refine wp_seq ?_
        refine wp_region_lit ?_
        refine st_y hf rfl rfl rfl (y_fieldAddr fo_27_4 rfl rfl) ?_
        clear hf a; intro a hf
        refine st_y hf rfl rfl rfl (y_load1 Tryd.isAgg3 rfl rfl (hm.blk_cell 0 rfl rfl)) ?_
        clear hf a; intro a hf
        refine st_y hf rfl rfl rfl (y_assign rfl rfl) ?_
        clear hf a; intro a hf
        refine st_end ?_
        refine x_then_n ?_
        refine wp_ret ?_
        obtain rfl := Option.some.inj hq
        refine ret_tmp hf Tryd.results64 rfl ?_
        exact ⟨rfl, hm.below⟩

theorem spec_l22Rest_ok (w0 : World) (x_ : Mins) (fields : Str) (r : Bool) (hq : spec_l22Rest x_ fields = some r) :
    Con Tryd.prog 38 [(.agg #[(.int .i64 (x_.op)), (.int .i64 (x_.a_)), (.int .i64 (x_.b)), (.int .i64 (x_.c)), (.int .i64 (x_.n_))]), (.string ⟨(fields).b.toArray⟩)] w0 (fun v w' => v = (.bool (r)) ∧ Below w0.heap.size w0 w') := by
  unfold spec_l22Rest at hq
  refine con_body (l := [(0, (.agg #[(.int .i64 (x_.op)), (.int .i64 (x_.a_)), (.int .i64 (x_.b)), (.int .i64 (x_.c)), (.int .i64 (x_.n_))])), (1, (.string ⟨(fields).b.toArray⟩))]) Tryd.func38 rfl Tryd.ntmps38 (Args.get ⟨rfl, rfl, trivial⟩) rfl ?_
  intro a hf
  have hm := Mem.start w0
  refine wp_seq ?_
  refine wp_region_lit ?_
  refine st_ef hf rfl rfl rfl (e_box hf hm rfl rfl rfl) ?_
  clear hf a; rintro _ w0_1 a ⟨b0_1, rfl, hm⟩ hf
  refine st_y hf rfl rfl rfl (y_assign rfl rfl) ?_
  clear hf a; intro a hf
  refine st_end ?_
  refine x_then_n ?_
  refine wp_seq ?_
  refine wp_seq ?_
  refine wp_region_lit ?_
  refine st_y hf rfl rfl rfl (y_assign rfl rfl) ?_
  clear hf a; intro a hf
  refine st_end ?_
  refine x_then_n ?_
  refine wp_block ?_
  obtain ⟨r0_1, hl0_1, hq⟩ := bnd hq
  refine wp_forN _ (fun i1_1 xs1_1 a w => Fr 37 [(1, (.string ⟨(fields).b.toArray⟩)), (2, (.pointer (some ⟨b0_1, 0, none⟩))), (5, (.int .i64 (i1_1)))] a ∧ Mem w0 (hp w0) w [blk b0_1 [(.int .i64 (x_.op)), (.int .i64 (x_.a_)), (.int .i64 (x_.b)), (.int .i64 (x_.c)), (.int .i64 (x_.n_))] 27]) (0) (4) hl0_1 ?_ ?_ ?_
  ·
    exact ⟨hf.sub ⟨rfl, rfl, rfl, trivial⟩, hm.pick [0] (by decide) rfl⟩
  ·
    clear hf hm
    rintro i1_1 xs1_1 a w ⟨hf, hm⟩ hi1_1 hi1_2 q0_1 hb0_1 ho0_1
    refine wp_seq ?_
    refine wp_seq ?_
    refine wp_region_lit ?_
    refine st_y hf rfl rfl rfl (y_move rfl rfl) ?_
    clear hf a; intro a hf
    refine st_y hf rfl rfl rfl (y_lss rfl rfl rfl) ?_
    clear hf a; intro a hf
    refine st_end ?_
    refine x_then_n ?_
    refine cond_t hf rfl (decide_eq_true (by omega)) ?_
    refine wp_skip ?_
    refine x_then_n ?_
    refine wp_seq ?_
    refine wp_block ?_
    refine wp_seq ?_
    refine wp_region_lit ?_
    refine st_y hf rfl rfl rfl (y_move rfl rfl) ?_
    clear hf a; intro a hf
    obtain ⟨x1_1, hx1_1, hb0_1⟩ := bnd hb0_1
    obtain ⟨h1_1, hx1_2⟩ := getI_some.1 hx1_1
    refine st_y hf rfl rfl rfl (y_idx_str (p := (mkS [65, 66, 67, 78])) Tryd.underlying9 rfl rfl rfl h1_1 hx1_2) ?_
    clear hf a; intro a hf
    refine st_y hf rfl rfl rfl (y_assign rfl rfl) ?_
    clear hf a; intro a hf
    refine st_end ?_
    refine x_then_n ?_
    refine wp_seq ?_
    refine wp_region_lit ?_
    refine st_y hf rfl rfl rfl (y_assign rfl rfl) ?_
    clear hf a; intro a hf
    refine st_end ?_
    refine x_then_n ?_
    refine wp_seq ?_
    refine wp_seq ?_
    refine wp_region_lit ?_
    refine st_y hf rfl rfl rfl (y_assign rfl rfl) ?_
    clear hf a; intro a hf
    refine st_end ?_
    refine x_then_n ?_
    refine wp_block ?_
    obtain ⟨r1_1, hl1_1, hb0_1⟩ := bnd hb0_1
    refine wp_forN _ (fun i2_1 xs2_1 a w => Fr 37 [(1, (.string ⟨(fields).b.toArray⟩)), (2, (.pointer (some ⟨b0_1, 0, none⟩))), (5, (.int .i64 (i1_1))), (6, (.int .u8 ((x1_1).toNat : Int))), (7, (.bool (xs2_1))), (8, (.int .i64 (i2_1)))] a ∧ Mem w0 (hp w0) w [blk b0_1 [(.int .i64 (x_.op)), (.int .i64 (x_.a_)), (.int .i64 (x_.b)), (.int .i64 (x_.c)), (.int .i64 (x_.n_))] 27]) (0) (((fields).b.length : Int)) hl1_1 ?_ ?_ ?_
    ·
      exact ⟨hf.sub ⟨rfl, rfl, rfl, rfl, rfl, rfl, trivial⟩, hm.pick [0] (by decide) rfl⟩
    ·
      clear hf hm
      rintro i2_1 xs2_1 a w ⟨hf, hm⟩ hi2_1 hi2_2 q1_1 hb1_1 ho1_1
      refine wp_seq ?_
      refine wp_seq ?_
      refine wp_region_lit ?_
      refine st_y hf rfl rfl rfl (y_move rfl rfl) ?_
      clear hf a; intro a hf
      refine st_y hf rfl rfl rfl (y_move rfl rfl) ?_
      clear hf a; intro a hf
      refine st_y hf rfl rfl rfl (y_len_str (p := fields) Tryd.underlying9 rfl rfl) ?_
      clear hf a; intro a hf
      have hl2_1 := (fields).h
      refine st_y hf rfl rfl rfl (y_lss rfl rfl rfl) ?_
      clear hf a; intro a hf
      refine st_end ?_
      refine x_then_n ?_
      refine cond_t hf rfl (decide_eq_true (by omega)) ?_
      refine wp_skip ?_
      refine x_then_n ?_
      refine wp_seq ?_
      refine wp_block ?_
      obtain ⟨s2_1, hq2_1, hb1_1⟩ := bnd hb1_1
      refine code_cut (K := fun a w => Fr 37 [(1, (.string ⟨(fields).b.toArray⟩)), (2, (.pointer (some ⟨b0_1, 0, none⟩))), (5, (.int .i64 (i1_1))), (6, (.int .u8 ((x1_1).toNat : Int))), (7, (.bool (s2_1))), (8, (.int .i64 (i2_1)))] a ∧ Mem w0 (hp w0) w [blk b0_1 [(.int .i64 (x_.op)), (.int .i64 (x_.a_)), (.int .i64 (x_.b)), (.int .i64 (x_.c)), (.int .i64 (x_.n_))] 27]) ?_ ?_
      ·
        refine wp_region_lit ?_
        refine st_y hf rfl rfl rfl (y_move rfl rfl) ?_
        clear hf a; intro a hf
        refine st_y hf rfl rfl rfl (y_move rfl rfl) ?_
        clear hf a; intro a hf
        rcases bcases (xs2_1) with h3_1 | h3_1
        ·
          replace hq2_1 := (ite_t h3_1).symm.trans hq2_1
          refine st_no hf rfl rfl (lk_b rfl h3_1) rfl rfl rfl ?_
          clear hf a; intro a hf
          refine st_no hf rfl rfl (lk_b rfl h3_1) rfl rfl rfl ?_
          clear hf a; intro a hf
          refine st_no hf rfl rfl (lk_b rfl h3_1) rfl rfl rfl ?_
          clear hf a; intro a hf
          refine st_no hf rfl rfl (lk_b rfl h3_1) rfl rfl rfl ?_
          clear hf a; intro a hf
          refine st_no hf rfl rfl (lk_b rfl h3_1) rfl rfl rfl ?_
          clear hf a; intro a hf
          refine st_y hf rfl rfl rfl (y_pick_t rfl (ev_b rfl h3_1) rfl) ?_
          clear hf a; intro a hf
          refine st_y hf rfl rfl rfl (y_assign rfl rfl) ?_
          clear hf a; intro a hf
          refine st_end ?_
          refine x_then_n ?_
          obtain rfl := Option.some.inj hq2_1
          exact ⟨hf.sub ⟨rfl, rfl, rfl, rfl, rfl, rfl, trivial⟩, hm.pick [0] (by decide) rfl⟩
        ·
          replace hq2_1 := (ite_f h3_1).symm.trans hq2_1
          refine st_yg hf rfl rfl (lk_b rfl h3_1) rfl rfl (y_move rfl rfl) ?_
          clear hf a; intro a hf
          refine st_yg hf rfl rfl (lk_b rfl h3_1) rfl rfl (y_move rfl rfl) ?_
          clear hf a; intro a hf
          obtain ⟨x3_1, hx3_1, hq2_1⟩ := bnd hq2_1
          obtain ⟨h3_2, hx3_2⟩ := getI_some.1 hx3_1
          refine st_yg hf rfl rfl (lk_b rfl h3_1) rfl rfl (y_idx_str (p := fields) Tryd.underlying9 rfl rfl rfl h3_2 hx3_2) ?_
          clear hf a; intro a hf
          refine st_yg hf rfl rfl (lk_b rfl h3_1) rfl rfl (y_move rfl rfl) ?_
          clear hf a; intro a hf
          refine st_yg hf rfl rfl (lk_b rfl h3_1) rfl rfl (y_eql8 (b := x3_1) (c := x1_1) rfl rfl rfl) ?_
          clear hf a; intro a hf
          refine st_y hf rfl rfl rfl (y_pick_f rfl (ev_b rfl h3_1) rfl) ?_
          clear hf a; intro a hf
          refine st_y hf rfl rfl rfl (y_assign rfl rfl) ?_
          clear hf a; intro a hf
          refine st_end ?_
          refine x_then_n ?_
          obtain rfl := Option.some.inj hq2_1
          exact ⟨hf.sub ⟨rfl, rfl, rfl, rfl, rfl, rfl, trivial⟩, hm.pick [0] (by decide) rfl⟩
      ·
        clear hf hm
        rintro a w ⟨hf, hm⟩
        refine x_blk_n ?_
        refine x_then_n ?_
        refine wp_region_lit ?_
        refine st_y hf rfl rfl rfl (y_move rfl rfl) ?_
        clear hf a; intro a hf
        refine st_y hf rfl rfl rfl (y_add64 rfl rfl rfl (by omega) (by omega)) ?_
        clear hf a; intro a hf
        refine st_y hf rfl rfl rfl (y_assign rfl rfl) ?_
        clear hf a; intro a hf
        refine st_end ?_
        refine x_then_n ?_
        obtain rfl := Option.some.inj hb1_1
        exact ⟨_, rfl, hf.sub ⟨rfl, rfl, rfl, rfl, rfl, rfl, trivial⟩, hm.pick [0] (by decide) rfl⟩
    ·
      clear hf hm
      rintro i1_2 xs1_2 a w ⟨hf, hm⟩ hi1_3 hi1_4 rfl
      replace hb0_1 := sum_l hb0_1
      refine wp_seq ?_
      refine wp_seq ?_
      refine wp_region_lit ?_
      refine st_y hf rfl rfl rfl (y_move rfl rfl) ?_
      clear hf a; intro a hf
      refine st_y hf rfl rfl rfl (y_move rfl rfl) ?_
      clear hf a; intro a hf
      refine st_y hf rfl rfl rfl (y_len_str (p := fields) Tryd.underlying9 rfl rfl) ?_
      clear hf a; intro a hf
      have hl1_2 := (fields).h
      refine st_y hf rfl rfl rfl (y_lss rfl rfl rfl) ?_
      clear hf a; intro a hf
      refine st_end ?_
      refine x_then_n ?_
      refine cond_f hf rfl (decide_eq_false (by omega)) ?_
      refine wp_exit ?_
      refine x_then_exit ?_
      refine x_then_exit ?_
      refine x_blk_hit ?_
      refine x_then_n ?_
      refine wp_seq ?_
      obtain ⟨s1_1, hq1_1, hb0_1⟩ := bnd hb0_1
      refine code_cut (K := fun a w => Fr 37 [(1, (.string ⟨(fields).b.toArray⟩)), (2, (.pointer (some ⟨b0_1, 0, none⟩))), (5, (.int .i64 (i1_1))), (36, (.bool (s1_1)))] a ∧ Mem w0 (hp w0) w [blk b0_1 [(.int .i64 (x_.op)), (.int .i64 (x_.a_)), (.int .i64 (x_.b)), (.int .i64 (x_.c)), (.int .i64 (x_.n_))] 27]) ?_ ?_
      ·
        refine wp_region_lit ?_
        refine st_y hf rfl rfl rfl (y_move rfl rfl) ?_
        clear hf a; intro a hf
        refine st_y hf rfl rfl rfl (y_not rfl rfl) ?_
        clear hf a; intro a hf
        refine st_y hf rfl rfl rfl (y_move rfl rfl) ?_
        clear hf a; intro a hf
        rcases bcases (!(xs1_2)) with h2_1 | h2_1
        ·
          replace hq1_1 := (ite_t h2_1).symm.trans hq1_1
          have h2_2 := bnot_t' h2_1
          refine st_yg hf rfl rfl (lk_b rfl h2_1) rfl rfl (y_loadN (cs := [(.int .i64 (x_.op)), (.int .i64 (x_.a_)), (.int .i64 (x_.b)), (.int .i64 (x_.c)), (.int .i64 (x_.n_))]) Tryd.isAgg27 Tryd.sizeOf27 rfl rfl (hm.blk_at 0 rfl)) ?_
          clear hf a; intro a hf
          refine st_yg hf rfl rfl (lk_b rfl h2_1) rfl rfl (y_move rfl rfl) ?_
          clear hf a; intro a hf
          obtain ⟨r2_1, hx2_1, hq1_1⟩ := bnd hq1_1
          refine st_efg hf rfl rfl (lk_b rfl h2_1) rfl rfl (e_call hf rfl Tryd.call64 rfl (spec_l22Field_ok _ x_ x1_1 _ hx2_1)) ?_
          clear hf a; rintro v2_1 w2_1 a ho2_1 hf
          obtain ⟨rfl, hB⟩ := ho2_1
          replace hm := hm.below' hB; clear hB
          refine st_yg hf rfl rfl (lk_b rfl h2_1) rfl rfl (y_neq rfl rfl rfl) ?_
          clear hf a; intro a hf
          refine st_y hf rfl rfl rfl (y_pick_t rfl (ev_b rfl h2_1) rfl) ?_
          clear hf a; intro a hf
          refine st_end ?_
          refine x_then_n ?_
          obtain rfl := Option.some.inj hq1_1
          exact ⟨hf.sub ⟨rfl, rfl, rfl, rfl, trivial⟩, hm.pick [0] (by decide) rfl⟩
        ·
          replace hq1_1 := (ite_f h2_1).symm.trans hq1_1
          have h2_3 := bnot_f' h2_1
          refine st_no hf rfl rfl (lk_b rfl h2_1) rfl rfl rfl ?_
          clear hf a; intro a hf
          refine st_no hf rfl rfl (lk_b rfl h2_1) rfl rfl rfl ?_
          clear hf a; intro a hf
          refine st_no hf rfl rfl (lk_b rfl h2_1) rfl rfl rfl ?_
          clear hf a; intro a hf
          refine st_no hf rfl rfl (lk_b rfl h2_1) rfl rfl rfl ?_
          clear hf a; intro a hf
          refine st_y hf rfl rfl rfl (y_pick_f rfl (ev_b rfl h2_1) rfl) ?_
          clear hf a; intro a hf
          refine st_end ?_
          refine x_then_n ?_
          obtain rfl := Option.some.inj hq1_1
          exact ⟨hf.sub ⟨rfl, rfl, rfl, rfl, trivial⟩, hm.pick [0] (by decide) rfl⟩
      ·
        clear hf hm
        rintro a w ⟨hf, hm⟩
        refine x_then_n ?_
        rcases bcases (s1_1) with h1_2 | h1_2
        ·
          replace hb0_1 := (ite_t h1_2).symm.trans hb0_1
          refine cond_t hf rfl h1_2 ?_
          refine wp_seq ?_
          refine wp_region_lit ?_
          refine st_y hf rfl rfl rfl (y_assign rfl rfl) ?_
          clear hf a; intro a hf
          refine st_end ?_
          refine x_then_n ?_
          refine wp_ret ?_
          refine x_blk_ret ?_
          refine x_then_ret ?_
          refine x_then_ret ?_
          refine x_blk_ret ?_
          refine x_then_ret ?_
          obtain rfl := Option.some.inj hb0_1
          obtain rfl := ho0_1 _ rfl
          replace hq := sum_r hq
          obtain rfl := Option.some.inj hq
          refine ret_tmp hf Tryd.results38 rfl ?_
          exact ⟨rfl, hm.below⟩
        ·
          replace hb0_1 := (ite_f h1_2).symm.trans hb0_1
          refine cond_f hf rfl h1_2 ?_
          refine wp_skip ?_
          refine x_blk_n ?_
          refine x_then_n ?_
          refine wp_region_lit ?_
          refine st_y hf rfl rfl rfl (y_move rfl rfl) ?_
          clear hf a; intro a hf
          refine st_y hf rfl rfl rfl (y_add64 rfl rfl rfl (by omega) (by omega)) ?_
          clear hf a; intro a hf
          refine st_y hf rfl rfl rfl (y_assign rfl rfl) ?_
          clear hf a; intro a hf
          refine st_end ?_
          refine x_then_n ?_
          obtain rfl := Option.some.inj hb0_1
          exact ⟨_, rfl, hf.sub ⟨rfl, rfl, rfl, trivial⟩, hm.pick [0] (by decide) rfl⟩
  ·
    clear hf hm
    rintro i0_1 xs0_1 a w ⟨hf, hm⟩ hi0_1 hi0_2 rfl
    replace hq := sum_l hq
    refine wp_seq ?_
    refine wp_seq ?_
    refine wp_region_lit ?_
    refine st_y hf rfl rfl rfl (y_move rfl rfl) ?_
    clear hf a; intro a hf
    refine st_y hf rfl rfl rfl (y_lss rfl rfl rfl) ?_
    clear hf a; intro a hf
    refine st_end ?_
    refine x_then_n ?_
    refine cond_f hf rfl (decide_eq_false (by omega)) ?_
    refine wp_exit ?_
    refine x_then_exit ?_
    refine x_then_exit ?_
    refine x_blk_hit ?_
    refine x_then_n ?_
    refine wp_seq ?_
    refine wp_region_lit ?_
    refine st_y hf rfl rfl rfl (y_assign rfl rfl) ?_
    clear hf a; intro a hf
    refine st_end ?_
    refine x_then_n ?_
    refine wp_ret ?_
    obtain rfl := Option.some.inj hq
    refine ret_tmp hf Tryd.results38 rfl ?_
    exact ⟨rfl, hm.below⟩

theorem spec_l25Plain_ok (w0 : World) (x_ : Mins) (r : (List UInt8)) (hq : spec_l25Plain x_ = some r) :
    Con Tryd.prog 40 [(.agg #[(.int .i64 (x_.op)), (.int .i64 (x_.a_)), (.int .i64 (x_.b)), (.int .i64 (x_.c)), (.int .i64 (x_.n_))])] w0 (fun v w' => ∃ (x1 : Value), v = x1 ∧ Mem w0 (hp w0) w' [ow [x1] r]) := by
  unfold spec_l25Plain at hq
  refine con_body (l := [(0, (.agg #[(.int .i64 (x_.op)), (.int .i64 (x_.a_)), (.int .i64 (x_.b)), (.int .i64 (x_.c)), (.int .i64 (x_.n_))]))]) Tryd.func40 rfl Tryd.ntmps40 (Args.get ⟨rfl, trivial⟩) rfl ?_
  intro a hf
  have hm := Mem.start w0
  refine wp_seq ?_
  refine wp_region_lit ?_
  refine st_ef hf rfl rfl rfl (e_box hf hm rfl rfl rfl) ?_
  clear hf a; rintro _ w0_1 a ⟨b0_1, rfl, hm⟩ hf
  refine st_y hf rfl rfl rfl (y_assign rfl rfl) ?_
  clear hf a; intro a hf
  refine st_end ?_
  refine x_then_n ?_
  refine wp_seq ?_
  refine wp_block ?_
  refine wp_seq ?_
  obtain ⟨s0_1, hq0_1, hq⟩ := bnd hq
  refine code_cut (K := fun a w => Fr 78 [(1, (.pointer (some ⟨b0_1, 0, none⟩))), (3, (.bool (s0_1)))] a ∧ Mem w0 (hp w0) w [blk b0_1 [(.int .i64 (x_.op)), (.int .i64 (x_.a_)), (.int .i64 (x_.b)), (.int .i64 (x_.c)), (.int .i64 (x_.n_))] 27]) ?_ ?_
  ·
    refine wp_region_lit ?_
    refine st_y hf rfl rfl rfl (y_fieldAddr fo_27_0 rfl rfl) ?_
    clear hf a; intro a hf
    refine st_y hf rfl rfl rfl (y_load1 Tryd.isAgg3 rfl rfl (hm.blk_cell 0 rfl rfl)) ?_
    clear hf a; intro a hf
    refine st_y hf rfl rfl rfl (y_eql rfl rfl rfl) ?_
    clear hf a; intro a hf
    refine st_y hf rfl rfl rfl (y_move rfl rfl) ?_
    clear hf a; intro a hf
    rcases bcases (decide (x_.op = 1)) with h1_1 | h1_1
    ·
      replace hq0_1 := (ite_t h1_1).symm.trans hq0_1
      have h1_2 := of_decide_eq_true h1_1
      refine st_no hf rfl rfl (lk_b rfl h1_1) rfl rfl rfl ?_
      clear hf a; intro a hf
      refine st_no hf rfl rfl (lk_b rfl h1_1) rfl rfl rfl ?_
      clear hf a; intro a hf
      refine st_no hf rfl rfl (lk_b rfl h1_1) rfl rfl rfl ?_
      clear hf a; intro a hf
      refine st_y hf rfl rfl rfl (y_pick_t rfl (ev_b rfl h1_1) rfl) ?_
      clear hf a; intro a hf
      refine st_y hf rfl rfl rfl (y_assign rfl rfl) ?_
      clear hf a; intro a hf
      refine st_end ?_
      refine x_then_n ?_
      obtain rfl := Option.some.inj hq0_1
      exact ⟨hf.sub ⟨rfl, rfl, trivial⟩, hm.pick [0] (by decide) rfl⟩
    ·
      replace hq0_1 := (ite_f h1_1).symm.trans hq0_1
      have h1_3 := of_decide_eq_false h1_1
      refine st_yg hf rfl rfl (lk_b rfl h1_1) rfl rfl (y_fieldAddr fo_27_0 rfl rfl) ?_
      clear hf a; intro a hf
      refine st_yg hf rfl rfl (lk_b rfl h1_1) rfl rfl (y_load1 Tryd.isAgg3 rfl rfl (hm.blk_cell 0 rfl rfl)) ?_
      clear hf a; intro a hf
      obtain ⟨r1_1, hx1_1, hq0_1⟩ := bnd hq0_1
      refine st_efg hf rfl rfl (lk_b rfl h1_1) rfl rfl (e_call hf rfl Tryd.call39 rfl (spec_l1In_ok _ x_.op 15 18 _ hx1_1)) ?_
      clear hf a; rintro v1_1 w1_1 a ho1_1 hf
      obtain ⟨rfl, hB⟩ := ho1_1
      replace hm := hm.below' hB; clear hB
      refine st_y hf rfl rfl rfl (y_pick_f rfl (ev_b rfl h1_1) rfl) ?_
      clear hf a; intro a hf
      refine st_y hf rfl rfl rfl (y_assign rfl rfl) ?_
      clear hf a; intro a hf
      refine st_end ?_
      refine x_then_n ?_
      obtain rfl := Option.some.inj hq0_1
      exact ⟨hf.sub ⟨rfl, rfl, trivial⟩, hm.pick [0] (by decide) rfl⟩
  ·
    clear hf hm
    rintro a w ⟨hf, hm⟩
    refine x_then_n ?_
    rcases bcases (s0_1) with h0_1 | h0_1
    ·
      replace hq := (ite_t h0_1).symm.trans hq
      refine cond_t hf rfl h0_1 ?_
      refine wp_seq ?_
      refine wp_region_lit ?_
      refine st_y hf rfl rfl rfl (y_fieldAddr fo_27_0 rfl rfl) ?_
      clear hf a; intro a hf
      refine st_y hf rfl rfl rfl (y_load1 Tryd.isAgg3 rfl rfl (hm.blk_cell 0 rfl rfl)) ?_
      clear hf a; intro a hf
      refine st_y hf rfl rfl rfl (y_conv8 Tryd.underlying3 Tryd.underlying5 rfl rfl) ?_
      clear hf a; intro a hf
      refine st_y hf rfl rfl rfl (y_fieldAddr fo_27_1 rfl rfl) ?_
      clear hf a; intro a hf
      refine st_y hf rfl rfl rfl (y_load1 Tryd.isAgg3 rfl rfl (hm.blk_cell 0 rfl rfl)) ?_
      clear hf a; intro a hf
      refine st_y hf rfl rfl rfl (y_conv8 Tryd.underlying3 Tryd.underlying5 rfl rfl) ?_
      clear hf a; intro a hf
      refine st_y hf rfl rfl rfl (y_fieldAddr fo_27_4 rfl rfl) ?_
      clear hf a; intro a hf
      refine st_y hf rfl rfl rfl (y_load1 Tryd.isAgg3 rfl rfl (hm.blk_cell 0 rfl rfl)) ?_
      clear hf a; intro a hf
      refine st_y hf rfl rfl rfl (y_conv8 Tryd.underlying3 Tryd.underlying5 rfl rfl) ?_
      clear hf a; intro a hf
      refine st_ef hf rfl rfl rfl (e_build (vs := #[(0, (.int .u8 (((byteI x_.op)).toNat : Int))), (1, (.int .u8 (((byteI x_.a_)).toNat : Int))), (2, (.int .u8 (((byteI x_.n_)).toNat : Int)))]) (cs := [(.int .u8 (((byteI x_.op)).toNat : Int)), (.int .u8 (((byteI x_.a_)).toNat : Int)), (.int .u8 (((byteI x_.n_)).toNat : Int))]) et_24 hf hm rfl rfl (by kernel_rfl) rfl rfl) ?_
      clear hf a; rintro _ w0_2 a ⟨b0_2, rfl, hm⟩ hf
      replace hm := hm.lit (xs := ([(byteI x_.op), (byteI x_.a_), (byteI x_.n_)] : List UInt8)) 0 rfl rfl rfl rfl
      refine st_y hf rfl rfl rfl (y_assign rfl rfl) ?_
      clear hf a; intro a hf
      refine st_end ?_
      refine x_then_n ?_
      refine wp_ret ?_
      refine x_blk_ret ?_
      refine x_then_ret ?_
      obtain rfl := Option.some.inj hq
      refine ret_tmp hf Tryd.results40 rfl ?_
      exact ⟨(.slice (some ⟨b0_2, 0, none⟩) 3 3), rfl, hm.pick [0] (by decide) rfl⟩
    ·
      replace hq := (ite_f h0_1).symm.trans hq
      refine cond_f hf rfl h0_1 ?_
      refine wp_seq ?_
      refine wp_region_lit ?_
      refine st_y hf rfl rfl rfl (y_fieldAddr fo_27_0 rfl rfl) ?_
      clear hf a; intro a hf
      refine st_y hf rfl rfl rfl (y_load1 Tryd.isAgg3 rfl rfl (hm.blk_cell 0 rfl rfl)) ?_
      clear hf a; intro a hf
      obtain ⟨r0_1, hx0_1, hq⟩ := bnd hq
      refine st_ef hf rfl rfl rfl (e_call hf rfl Tryd.call39 rfl (spec_l1In_ok _ x_.op 3 9 _ hx0_1)) ?_
      clear hf a; rintro v0_1 w0_3 a ho0_1 hf
      obtain ⟨rfl, hB⟩ := ho0_1
      replace hm := hm.below' hB; clear hB
      refine st_y hf rfl rfl rfl (y_assign rfl rfl) ?_
      clear hf a; intro a hf
      refine st_end ?_
      refine x_then_n ?_
      rcases bcases (r0_1) with h0_2 | h0_2
      ·
        replace hq := (ite_t h0_2).symm.trans hq
        refine cond_t hf rfl h0_2 ?_
        refine wp_seq ?_
        refine wp_region_lit ?_
        refine st_y hf rfl rfl rfl (y_fieldAddr fo_27_0 rfl rfl) ?_
        clear hf a; intro a hf
        refine st_y hf rfl rfl rfl (y_load1 Tryd.isAgg3 rfl rfl (hm.blk_cell 0 rfl rfl)) ?_
        clear hf a; intro a hf
        refine st_y hf rfl rfl rfl (y_conv8 Tryd.underlying3 Tryd.underlying5 rfl rfl) ?_
        clear hf a; intro a hf
        refine st_y hf rfl rfl rfl (y_fieldAddr fo_27_1 rfl rfl) ?_
        clear hf a; intro a hf
        refine st_y hf rfl rfl rfl (y_load1 Tryd.isAgg3 rfl rfl (hm.blk_cell 0 rfl rfl)) ?_
        clear hf a; intro a hf
        refine st_y hf rfl rfl rfl (y_fieldAddr fo_27_2 rfl rfl) ?_
        clear hf a; intro a hf
        refine st_y hf rfl rfl rfl (y_load1 Tryd.isAgg3 rfl rfl (hm.blk_cell 0 rfl rfl)) ?_
        clear hf a; intro a hf
        refine st_y hf rfl rfl rfl (y_mulw rfl rfl rfl) ?_
        clear hf a; intro a hf
        refine st_y hf rfl rfl rfl (y_addw rfl rfl rfl) ?_
        clear hf a; intro a hf
        refine st_y hf rfl rfl rfl (y_conv8 Tryd.underlying3 Tryd.underlying5 rfl rfl) ?_
        clear hf a; intro a hf
        refine st_y hf rfl rfl rfl (y_fieldAddr fo_27_3 rfl rfl) ?_
        clear hf a; intro a hf
        refine st_y hf rfl rfl rfl (y_load1 Tryd.isAgg3 rfl rfl (hm.blk_cell 0 rfl rfl)) ?_
        clear hf a; intro a hf
        refine st_y hf rfl rfl rfl (y_conv8 Tryd.underlying3 Tryd.underlying5 rfl rfl) ?_
        clear hf a; intro a hf
        refine st_ef hf rfl rfl rfl (e_build (vs := #[(0, (.int .u8 (((byteI x_.op)).toNat : Int))), (1, (.int .u8 (((byteI (w64 (x_.a_ + (w64 (8 * x_.b)))))).toNat : Int))), (2, (.int .u8 (((byteI x_.c)).toNat : Int)))]) (cs := [(.int .u8 (((byteI x_.op)).toNat : Int)), (.int .u8 (((byteI (w64 (x_.a_ + (w64 (8 * x_.b)))))).toNat : Int)), (.int .u8 (((byteI x_.c)).toNat : Int))]) et_24 hf hm rfl rfl (by kernel_rfl) rfl rfl) ?_
        clear hf a; rintro _ w0_4 a ⟨b0_3, rfl, hm⟩ hf
        replace hm := hm.lit (xs := ([(byteI x_.op), (byteI (w64 (x_.a_ + (w64 (8 * x_.b))))), (byteI x_.c)] : List UInt8)) 0 rfl rfl rfl rfl
        refine st_y hf rfl rfl rfl (y_assign rfl rfl) ?_
        clear hf a; intro a hf
        refine st_end ?_
        refine x_then_n ?_
        refine wp_ret ?_
        refine x_blk_ret ?_
        refine x_then_ret ?_
        obtain rfl := Option.some.inj hq
        refine ret_tmp hf Tryd.results40 rfl ?_
        exact ⟨(.slice (some ⟨b0_3, 0, none⟩) 3 3), rfl, hm.pick [0] (by decide) rfl⟩
      ·
        replace hq := (ite_f h0_2).symm.trans hq
        refine cond_f hf rfl h0_2 ?_
        refine wp_seq ?_
        obtain ⟨s0_2, hq0_2, hq⟩ := bnd hq
        refine code_cut (K := fun a w => Fr 78 [(1, (.pointer (some ⟨b0_1, 0, none⟩))), (40, (.bool (s0_2)))] a ∧ Mem w0 (hp w0) w [blk b0_1 [(.int .i64 (x_.op)), (.int .i64 (x_.a_)), (.int .i64 (x_.b)), (.int .i64 (x_.c)), (.int .i64 (x_.n_))] 27]) ?_ ?_
        ·
          refine wp_region_lit ?_
          refine st_y hf rfl rfl rfl (y_fieldAddr fo_27_0 rfl rfl) ?_
          clear hf a; intro a hf
          refine st_y hf rfl rfl rfl (y_load1 Tryd.isAgg3 rfl rfl (hm.blk_cell 0 rfl rfl)) ?_
          clear hf a; intro a hf
          refine st_y hf rfl rfl rfl (y_eql rfl rfl rfl) ?_
          clear hf a; intro a hf
          refine st_y hf rfl rfl rfl (y_move rfl rfl) ?_
          clear hf a; intro a hf
          rcases bcases (decide (x_.op = 2)) with h1_4 | h1_4
          ·
            replace hq0_2 := (ite_t h1_4).symm.trans hq0_2
            have h1_5 := of_decide_eq_true h1_4
            refine st_no hf rfl rfl (lk_b rfl h1_4) rfl rfl rfl ?_
            clear hf a; intro a hf
            refine st_no hf rfl rfl (lk_b rfl h1_4) rfl rfl rfl ?_
            clear hf a; intro a hf
            refine st_no hf rfl rfl (lk_b rfl h1_4) rfl rfl rfl ?_
            clear hf a; intro a hf
            refine st_y hf rfl rfl rfl (y_pick_t rfl (ev_b rfl h1_4) rfl) ?_
            clear hf a; intro a hf
            refine st_y hf rfl rfl rfl (y_assign rfl rfl) ?_
            clear hf a; intro a hf
            refine st_end ?_
            refine x_then_n ?_
            obtain rfl := Option.some.inj hq0_2
            exact ⟨hf.sub ⟨rfl, rfl, trivial⟩, hm.pick [0] (by decide) rfl⟩
          ·
            replace hq0_2 := (ite_f h1_4).symm.trans hq0_2
            have h1_6 := of_decide_eq_false h1_4
            refine st_yg hf rfl rfl (lk_b rfl h1_4) rfl rfl (y_fieldAddr fo_27_0 rfl rfl) ?_
            clear hf a; intro a hf
            refine st_yg hf rfl rfl (lk_b rfl h1_4) rfl rfl (y_load1 Tryd.isAgg3 rfl rfl (hm.blk_cell 0 rfl rfl)) ?_
            clear hf a; intro a hf
            obtain ⟨r1_2, hx1_2, hq0_2⟩ := bnd hq0_2
            refine st_efg hf rfl rfl (lk_b rfl h1_4) rfl rfl (e_call hf rfl Tryd.call39 rfl (spec_l1In_ok _ x_.op 10 12 _ hx1_2)) ?_
            clear hf a; rintro v1_2 w1_2 a ho1_2 hf
            obtain ⟨rfl, hB⟩ := ho1_2
            replace hm := hm.below' hB; clear hB
            refine st_y hf rfl rfl rfl (y_pick_f rfl (ev_b rfl h1_4) rfl) ?_
            clear hf a; intro a hf
            refine st_y hf rfl rfl rfl (y_assign rfl rfl) ?_
            clear hf a; intro a hf
            refine st_end ?_
            refine x_then_n ?_
            obtain rfl := Option.some.inj hq0_2
            exact ⟨hf.sub ⟨rfl, rfl, trivial⟩, hm.pick [0] (by decide) rfl⟩
        ·
          clear hf hm
          rintro a w ⟨hf, hm⟩
          refine x_then_n ?_
          rcases bcases (s0_2) with h0_3 | h0_3
          ·
            replace hq := (ite_t h0_3).symm.trans hq
            refine cond_t hf rfl h0_3 ?_
            refine wp_seq ?_
            refine wp_region_lit ?_
            refine st_y hf rfl rfl rfl (y_fieldAddr fo_27_0 rfl rfl) ?_
            clear hf a; intro a hf
            refine st_y hf rfl rfl rfl (y_load1 Tryd.isAgg3 rfl rfl (hm.blk_cell 0 rfl rfl)) ?_
            clear hf a; intro a hf
            refine st_y hf rfl rfl rfl (y_conv8 Tryd.underlying3 Tryd.underlying5 rfl rfl) ?_
            clear hf a; intro a hf
            refine st_y hf rfl rfl rfl (y_fieldAddr fo_27_1 rfl rfl) ?_
            clear hf a; intro a hf
            refine st_y hf rfl rfl rfl (y_load1 Tryd.isAgg3 rfl rfl (hm.blk_cell 0 rfl rfl)) ?_
            clear hf a; intro a hf
            refine st_y hf rfl rfl rfl (y_fieldAddr fo_27_2 rfl rfl) ?_
            clear hf a; intro a hf
            refine st_y hf rfl rfl rfl (y_load1 Tryd.isAgg3 rfl rfl (hm.blk_cell 0 rfl rfl)) ?_
            clear hf a; intro a hf
            refine st_y hf rfl rfl rfl (y_mulw rfl rfl rfl) ?_
            clear hf a; intro a hf
            refine st_y hf rfl rfl rfl (y_addw rfl rfl rfl) ?_
            clear hf a; intro a hf
            refine st_y hf rfl rfl rfl (y_conv8 Tryd.underlying3 Tryd.underlying5 rfl rfl) ?_
            clear hf a; intro a hf
            refine st_ef hf rfl rfl rfl (e_build (vs := #[(0, (.int .u8 (((byteI x_.op)).toNat : Int))), (1, (.int .u8 (((byteI (w64 (x_.a_ + (w64 (8 * x_.b)))))).toNat : Int)))]) (cs := [(.int .u8 (((byteI x_.op)).toNat : Int)), (.int .u8 (((byteI (w64 (x_.a_ + (w64 (8 * x_.b)))))).toNat : Int))]) et_24 hf hm rfl rfl (by kernel_rfl) rfl rfl) ?_
            clear hf a; rintro _ w0_5 a ⟨b0_4, rfl, hm⟩ hf
            replace hm := hm.lit (xs := ([(byteI x_.op), (byteI (w64 (x_.a_ + (w64 (8 * x_.b)))))] : List UInt8)) 0 rfl rfl rfl rfl
            refine st_y hf rfl rfl rfl (y_assign rfl rfl) ?_
            clear hf a; intro a hf
            refine st_end ?_
            refine x_then_n ?_
            refine wp_ret ?_
            refine x_blk_ret ?_
            refine x_then_ret ?_
            obtain rfl := Option.some.inj hq
            refine ret_tmp hf Tryd.results40 rfl ?_
            exact ⟨(.slice (some ⟨b0_4, 0, none⟩) 2 2), rfl, hm.pick [0] (by decide) rfl⟩
          ·
            replace hq := (ite_f h0_3).symm.trans hq
            refine cond_f hf rfl h0_3 ?_
            refine wp_seq ?_
            refine wp_region_lit ?_
            refine st_y hf rfl rfl rfl (y_fieldAddr fo_27_0 rfl rfl) ?_
            clear hf a; intro a hf
            refine st_y hf rfl rfl rfl (y_load1 Tryd.isAgg3 rfl rfl (hm.blk_cell 0 rfl rfl)) ?_
            clear hf a; intro a hf
            refine st_y hf rfl rfl rfl (y_eql rfl rfl rfl) ?_
            clear hf a; intro a hf
            refine st_y hf rfl rfl rfl (y_assign rfl rfl) ?_
            clear hf a; intro a hf
            refine st_end ?_
            refine x_then_n ?_
            rcases bcases (decide (x_.op = 14)) with h0_4 | h0_4
            ·
              replace hq := (ite_t h0_4).symm.trans hq
              have h0_5 := of_decide_eq_true h0_4
              refine cond_t hf rfl h0_4 ?_
              refine wp_seq ?_
              refine wp_region_lit ?_
              refine st_y hf rfl rfl rfl (y_fieldAddr fo_27_0 rfl rfl) ?_
              clear hf a; intro a hf
              refine st_y hf rfl rfl rfl (y_load1 Tryd.isAgg3 rfl rfl (hm.blk_cell 0 rfl rfl)) ?_
              clear hf a; intro a hf
              refine st_y hf rfl rfl rfl (y_conv8 Tryd.underlying3 Tryd.underlying5 rfl rfl) ?_
              clear hf a; intro a hf
              refine st_y hf rfl rfl rfl (y_fieldAddr fo_27_4 rfl rfl) ?_
              clear hf a; intro a hf
              refine st_y hf rfl rfl rfl (y_load1 Tryd.isAgg3 rfl rfl (hm.blk_cell 0 rfl rfl)) ?_
              clear hf a; intro a hf
              refine st_y hf rfl rfl rfl (y_conv8 Tryd.underlying3 Tryd.underlying5 rfl rfl) ?_
              clear hf a; intro a hf
              refine st_ef hf rfl rfl rfl (e_build (vs := #[(0, (.int .u8 (((byteI x_.op)).toNat : Int))), (1, (.int .u8 (((byteI x_.n_)).toNat : Int)))]) (cs := [(.int .u8 (((byteI x_.op)).toNat : Int)), (.int .u8 (((byteI x_.n_)).toNat : Int))]) et_24 hf hm rfl rfl (by kernel_rfl) rfl rfl) ?_
              clear hf a; rintro _ w0_6 a ⟨b0_5, rfl, hm⟩ hf
              replace hm := hm.lit (xs := ([(byteI x_.op), (byteI x_.n_)] : List UInt8)) 0 rfl rfl rfl rfl
              refine st_y hf rfl rfl rfl (y_assign rfl rfl) ?_
              clear hf a; intro a hf
              refine st_end ?_
              refine x_then_n ?_
              refine wp_ret ?_
              refine x_blk_ret ?_
              refine x_then_ret ?_
              obtain rfl := Option.some.inj hq
              refine ret_tmp hf Tryd.results40 rfl ?_
              exact ⟨(.slice (some ⟨b0_5, 0, none⟩) 2 2), rfl, hm.pick [0] (by decide) rfl⟩
            ·
              replace hq := (ite_f h0_4).symm.trans hq
              have h0_6 := of_decide_eq_false h0_4
              refine cond_f hf rfl h0_4 ?_
              refine wp_skip ?_
              refine x_blk_n ?_
              refine x_then_n ?_
              refine wp_seq ?_
              refine wp_region_lit ?_
              refine st_y hf rfl rfl rfl (y_fieldAddr fo_27_0 rfl rfl) ?_
              clear hf a; intro a hf
              refine st_y hf rfl rfl rfl (y_load1 Tryd.isAgg3 rfl rfl (hm.blk_cell 0 rfl rfl)) ?_
              clear hf a; intro a hf
              refine st_y hf rfl rfl rfl (y_conv8 Tryd.underlying3 Tryd.underlying5 rfl rfl) ?_
              clear hf a; intro a hf
              refine st_y hf rfl rfl rfl (y_fieldAddr fo_27_1 rfl rfl) ?_
              clear hf a; intro a hf
              refine st_y hf rfl rfl rfl (y_load1 Tryd.isAgg3 rfl rfl (hm.blk_cell 0 rfl rfl)) ?_
              clear hf a; intro a hf
              refine st_y hf rfl rfl rfl (y_conv8 Tryd.underlying3 Tryd.underlying5 rfl rfl) ?_
              clear hf a; intro a hf
              refine st_ef hf rfl rfl rfl (e_build (vs := #[(0, (.int .u8 (((byteI x_.op)).toNat : Int))), (1, (.int .u8 (((byteI x_.a_)).toNat : Int)))]) (cs := [(.int .u8 (((byteI x_.op)).toNat : Int)), (.int .u8 (((byteI x_.a_)).toNat : Int))]) et_24 hf hm rfl rfl (by kernel_rfl) rfl rfl) ?_
              clear hf a; rintro _ w0_7 a ⟨b0_6, rfl, hm⟩ hf
              replace hm := hm.lit (xs := ([(byteI x_.op), (byteI x_.a_)] : List UInt8)) 0 rfl rfl rfl rfl
              refine st_y hf rfl rfl rfl (y_assign rfl rfl) ?_
              clear hf a; intro a hf
              refine st_end ?_
              refine x_then_n ?_
              refine wp_ret ?_
              obtain rfl := Option.some.inj hq
              refine ret_tmp hf Tryd.results40 rfl ?_
              exact ⟨(.slice (some ⟨b0_6, 0, none⟩) 2 2), rfl, hm.pick [0] (by decide) rfl⟩

theorem spec_EncodeMins_ok (w0 : World) (x_ : Mins) (r : (List UInt8) × Bool) (hq : spec_EncodeMins x_ = some r) :
    Con Tryd.prog 10 [(.agg #[(.int .i64 (x_.op)), (.int .i64 (x_.a_)), (.int .i64 (x_.b)), (.int .i64 (x_.c)), (.int .i64 (x_.n_))])] w0 (fun v w' => ∃ (x1 : Value), v = (.tuple #[x1, (.bool (r.2))]) ∧ Mem w0 (hp w0) w' [ow [x1] r.1]) := by
  unfold spec_EncodeMins at hq
  refine con_body (l := [(0, (.agg #[(.int .i64 (x_.op)), (.int .i64 (x_.a_)), (.int .i64 (x_.b)), (.int .i64 (x_.c)), (.int .i64 (x_.n_))]))]) Tryd.func10 rfl Tryd.ntmps10 (Args.get ⟨rfl, trivial⟩) rfl ?_
  intro a hf
  have hm := Mem.start w0
  refine wp_seq ?_
  refine wp_region_lit ?_
  refine st_ef hf rfl rfl rfl (e_box hf hm rfl rfl rfl) ?_
  clear hf a; rintro _ w0_1 a ⟨b0_1, rfl, hm⟩ hf
  refine st_y hf rfl rfl rfl (y_assign rfl rfl) ?_
  clear hf a; intro a hf
  refine st_y hf rfl rfl rfl (y_assign rfl rfl) ?_
  clear hf a; intro a hf
  refine st_end ?_
  refine x_then_n ?_
  refine wp_seq ?_
  refine wp_region_lit ?_
  refine st_y hf rfl rfl rfl (y_fieldAddr fo_27_0 rfl rfl) ?_
  clear hf a; intro a hf
  refine st_y hf rfl rfl rfl (y_load1 Tryd.isAgg3 rfl rfl (hm.blk_cell 0 rfl rfl)) ?_
  clear hf a; intro a hf
  obtain ⟨r0_1, hx0_1, hq⟩ := bnd hq
  refine st_ef hf rfl rfl rfl (e_call hf rfl Tryd.call36 rfl (spec_l22Word_ok _ x_.op _ hx0_1)) ?_
  clear hf a; rintro v0_1 w0_2 a ho0_1 hf
  obtain ⟨rfl, hB⟩ := ho0_1
  replace hm := hm.below' hB; clear hB
  refine st_y hf rfl rfl rfl (y_move rfl rfl) ?_
  clear hf a; intro a hf
  refine st_y hf rfl rfl rfl (y_extract rfl rfl rfl) ?_
  clear hf a; intro a hf
  refine st_y hf rfl rfl rfl (y_extract rfl rfl rfl) ?_
  clear hf a; intro a hf
  refine st_y hf rfl rfl rfl (y_assign rfl rfl) ?_
  clear hf a; intro a hf
  refine st_y hf rfl rfl rfl (y_assign rfl rfl) ?_
  clear hf a; intro a hf
  refine st_end ?_
  refine x_then_n ?_
  refine wp_seq ?_
  refine wp_seq ?_
  obtain ⟨s0_1, hq0_1, hq⟩ := bnd hq
  refine code_cut (K := fun a w => Fr 54 [(1, (.pointer (some ⟨b0_1, 0, none⟩))), (30, (.bool (s0_1)))] a ∧ Mem w0 (hp w0) w [blk b0_1 [(.int .i64 (x_.op)), (.int .i64 (x_.a_)), (.int .i64 (x_.b)), (.int .i64 (x_.c)), (.int .i64 (x_.n_))] 27]) ?_ ?_
  ·
    refine wp_region_lit ?_
    refine st_y hf rfl rfl rfl (y_move rfl rfl) ?_
    clear hf a; intro a hf
    refine st_y hf rfl rfl rfl (y_eqls (p := r0_1.2) (q := (mkS [])) rfl rfl rfl) ?_
    clear hf a; intro a hf
    refine st_y hf rfl rfl rfl (y_move rfl rfl) ?_
    clear hf a; intro a hf
    rcases bcases (decide (r0_1.2 = (mkS []))) with h1_1 | h1_1
    ·
      replace hq0_1 := (ite_t h1_1).symm.trans hq0_1
      have h1_2 := of_decide_eq_true h1_1
      refine st_no hf rfl rfl (lk_b rfl h1_1) rfl rfl rfl ?_
      clear hf a; intro a hf
      refine st_no hf rfl rfl (lk_b rfl h1_1) rfl rfl rfl ?_
      clear hf a; intro a hf
      refine st_y hf rfl rfl rfl (y_pick_t rfl (ev_b rfl h1_1) rfl) ?_
      clear hf a; intro a hf
      refine st_y hf rfl rfl rfl (y_move rfl rfl) ?_
      clear hf a; intro a hf
      refine st_no hf rfl rfl (lk_b rfl rfl) rfl rfl rfl ?_
      clear hf a; intro a hf
      refine st_no hf rfl rfl (lk_b rfl rfl) rfl rfl rfl ?_
      clear hf a; intro a hf
      refine st_no hf rfl rfl (lk_b rfl rfl) rfl rfl rfl ?_
      clear hf a; intro a hf
      refine st_no hf rfl rfl (lk_b rfl rfl) rfl rfl rfl ?_
      clear hf a; intro a hf
      refine st_y hf rfl rfl rfl (y_pick_t rfl (ev_b rfl rfl) rfl) ?_
      clear hf a; intro a hf
      refine st_y hf rfl rfl rfl (y_move rfl rfl) ?_
      clear hf a; intro a hf
      refine st_no hf rfl rfl (lk_b rfl rfl) rfl rfl rfl ?_
      clear hf a; intro a hf
      refine st_no hf rfl rfl (lk_b rfl rfl) rfl rfl rfl ?_
      clear hf a; intro a hf
      refine st_no hf rfl rfl (lk_b rfl rfl) rfl rfl rfl ?_
      clear hf a; intro a hf
      refine st_no hf rfl rfl (lk_b rfl rfl) rfl rfl rfl ?_
      clear hf a; intro a hf
      refine st_y hf rfl rfl rfl (y_pick_t rfl (ev_b rfl rfl) rfl) ?_
      clear hf a; intro a hf
      refine st_end ?_
      refine x_then_n ?_
      obtain rfl := Option.some.inj hq0_1
      exact ⟨hf.sub ⟨rfl, rfl, trivial⟩, hm.pick [0] (by decide) rfl⟩
    ·
      replace hq0_1 := (ite_f h1_1).symm.trans hq0_1
      have h1_3 := of_decide_eq_false h1_1
      refine st_yg hf rfl rfl (lk_b rfl h1_1) rfl rfl (y_loadN (cs := [(.int .i64 (x_.op)), (.int .i64 (x_.a_)), (.int .i64 (x_.b)), (.int .i64 (x_.c)), (.int .i64 (x_.n_))]) Tryd.isAgg27 Tryd.sizeOf27 rfl rfl (hm.blk_at 0 rfl)) ?_
      clear hf a; intro a hf
      obtain ⟨r1_1, hx1_1, hq0_1⟩ := bnd hq0_1
      refine st_efg hf rfl rfl (lk_b rfl h1_1) rfl rfl (e_call hf rfl Tryd.call37 rfl (spec_l24Jumps_ok _ x_ _ hx1_1)) ?_
      clear hf a; rintro v1_1 w1_1 a ho1_1 hf
      obtain ⟨rfl, hB⟩ := ho1_1
      replace hm := hm.below' hB; clear hB
      refine st_y hf rfl rfl rfl (y_pick_f rfl (ev_b rfl h1_1) rfl) ?_
      clear hf a; intro a hf
      refine st_y hf rfl rfl rfl (y_move rfl rfl) ?_
      clear hf a; intro a hf
      rcases bcases (r1_1) with h1_4 | h1_4
      ·
        replace hq0_1 := (ite_t h1_4).symm.trans hq0_1
        refine st_no hf rfl rfl (lk_b rfl h1_4) rfl rfl rfl ?_
        clear hf a; intro a hf
        refine st_no hf rfl rfl (lk_b rfl h1_4) rfl rfl rfl ?_
        clear hf a; intro a hf
        refine st_no hf rfl rfl (lk_b rfl h1_4) rfl rfl rfl ?_
        clear hf a; intro a hf
        refine st_no hf rfl rfl (lk_b rfl h1_4) rfl rfl rfl ?_
        clear hf a; intro a hf
        refine st_y hf rfl rfl rfl (y_pick_t rfl (ev_b rfl h1_4) rfl) ?_
        clear hf a; intro a hf
        refine st_y hf rfl rfl rfl (y_move rfl rfl) ?_
        clear hf a; intro a hf
        refine st_no hf rfl rfl (lk_b rfl rfl) rfl rfl rfl ?_
        clear hf a; intro a hf
        refine st_no hf rfl rfl (lk_b rfl rfl) rfl rfl rfl ?_
        clear hf a; intro a hf
        refine st_no hf rfl rfl (lk_b rfl rfl) rfl rfl rfl ?_
        clear hf a; intro a hf
        refine st_no hf rfl rfl (lk_b rfl rfl) rfl rfl rfl ?_
        clear hf a; intro a hf
        refine st_y hf rfl rfl rfl (y_pick_t rfl (ev_b rfl rfl) rfl) ?_
        clear hf a; intro a hf
        refine st_end ?_
        refine x_then_n ?_
        obtain rfl := Option.some.inj hq0_1
        exact ⟨hf.sub ⟨rfl, rfl, trivial⟩, hm.pick [0] (by decide) rfl⟩
      ·
        replace hq0_1 := (ite_f h1_4).symm.trans hq0_1
        refine st_yg hf rfl rfl (lk_b rfl h1_4) rfl rfl (y_loadN (cs := [(.int .i64 (x_.op)), (.int .i64 (x_.a_)), (.int .i64 (x_.b)), (.int .i64 (x_.c)), (.int .i64 (x_.n_))]) Tryd.isAgg27 Tryd.sizeOf27 rfl rfl (hm.blk_at 0 rfl)) ?_
        clear hf a; intro a hf
        refine st_yg hf rfl rfl (lk_b rfl h1_4) rfl rfl (y_move rfl rfl) ?_
        clear hf a; intro a hf
        obtain ⟨r1_2, hx1_2, hq0_1⟩ := bnd hq0_1
        refine st_efg hf rfl rfl (lk_b rfl h1_4) rfl rfl (e_call hf rfl Tryd.call38 rfl (spec_l22Rest_ok _ x_ r0_1.2 _ hx1_2)) ?_
        clear hf a; rintro v1_2 w1_2 a ho1_2 hf
        obtain ⟨rfl, hB⟩ := ho1_2
        replace hm := hm.below' hB; clear hB
        refine st_yg hf rfl rfl (lk_b rfl h1_4) rfl rfl (y_not rfl rfl) ?_
        clear hf a; intro a hf
        refine st_y hf rfl rfl rfl (y_pick_f rfl (ev_b rfl h1_4) rfl) ?_
        clear hf a; intro a hf
        refine st_y hf rfl rfl rfl (y_move rfl rfl) ?_
        clear hf a; intro a hf
        rcases bcases (!(r1_2)) with h1_5 | h1_5
        ·
          replace hq0_1 := (ite_t h1_5).symm.trans hq0_1
          have h1_6 := bnot_t' h1_5
          refine st_no hf rfl rfl (lk_b rfl h1_5) rfl rfl rfl ?_
          clear hf a; intro a hf
          refine st_no hf rfl rfl (lk_b rfl h1_5) rfl rfl rfl ?_
          clear hf a; intro a hf
          refine st_no hf rfl rfl (lk_b rfl h1_5) rfl rfl rfl ?_
          clear hf a; intro a hf
          refine st_no hf rfl rfl (lk_b rfl h1_5) rfl rfl rfl ?_
          clear hf a; intro a hf
          refine st_y hf rfl rfl rfl (y_pick_t rfl (ev_b rfl h1_5) rfl) ?_
          clear hf a; intro a hf
          refine st_end ?_
          refine x_then_n ?_
          obtain rfl := Option.some.inj hq0_1
          exact ⟨hf.sub ⟨rfl, rfl, trivial⟩, hm.pick [0] (by decide) rfl⟩
        ·
          replace hq0_1 := (ite_f h1_5).symm.trans hq0_1
          have h1_7 := bnot_f' h1_5
          refine st_yg hf rfl rfl (lk_b rfl h1_5) rfl rfl (y_fieldAddr fo_27_4 rfl rfl) ?_
          clear hf a; intro a hf
          refine st_yg hf rfl rfl (lk_b rfl h1_5) rfl rfl (y_load1 Tryd.isAgg3 rfl rfl (hm.blk_cell 0 rfl rfl)) ?_
          clear hf a; intro a hf
          obtain ⟨r1_3, hx1_3, hq0_1⟩ := bnd hq0_1
          refine st_efg hf rfl rfl (lk_b rfl h1_5) rfl rfl (e_call hf rfl Tryd.call39 rfl (spec_l1In_ok _ x_.n_ 0 255 _ hx1_3)) ?_
          clear hf a; rintro v1_3 w1_3 a ho1_3 hf
          obtain ⟨rfl, hB⟩ := ho1_3
          replace hm := hm.below' hB; clear hB
          refine st_yg hf rfl rfl (lk_b rfl h1_5) rfl rfl (y_not rfl rfl) ?_
          clear hf a; intro a hf
          refine st_y hf rfl rfl rfl (y_pick_f rfl (ev_b rfl h1_5) rfl) ?_
          clear hf a; intro a hf
          refine st_end ?_
          refine x_then_n ?_
          obtain rfl := Option.some.inj hq0_1
          exact ⟨hf.sub ⟨rfl, rfl, trivial⟩, hm.pick [0] (by decide) rfl⟩
  ·
    clear hf hm
    rintro a w ⟨hf, hm⟩
    refine x_then_n ?_
    rcases bcases (s0_1) with h0_1 | h0_1
    ·
      replace hq := (ite_t h0_1).symm.trans hq
      refine cond_t hf rfl h0_1 ?_
      refine wp_seq ?_
      refine wp_region_lit ?_
      refine st_ef hf rfl rfl rfl (e_build0 (α := UInt8) et_24 hm rfl) ?_
      clear hf a; rintro v0_2 w0_3 a hm hf
      refine st_y hf rfl rfl rfl (y_assign rfl rfl) ?_
      clear hf a; intro a hf
      refine st_y hf rfl rfl rfl (y_assign rfl rfl) ?_
      clear hf a; intro a hf
      refine st_end ?_
      refine x_then_n ?_
      refine wp_ret ?_
      refine x_then_ret ?_
      obtain rfl := Option.some.inj hq
      refine ret_tmp2 hf Tryd.results10 rfl rfl ?_
      exact ⟨v0_2, rfl, hm.pick [0] (by decide) rfl⟩
    ·
      replace hq := (ite_f h0_1).symm.trans hq
      refine cond_f hf rfl h0_1 ?_
      refine wp_skip ?_
      refine x_then_n ?_
      refine wp_seq ?_
      refine wp_region_lit ?_
      refine st_y hf rfl rfl rfl (y_assign rfl rfl) ?_
      clear hf a; intro a hf
      refine st_end ?_
      refine x_then_n ?_
      refine wp_seq ?_
      refine wp_seq ?_
      obtain ⟨s0_2, hq0_2, hq⟩ := bnd hq
      refine code_cut (K := fun a w => Fr 54 [(1, (.pointer (some ⟨b0_1, 0, none⟩))), (50, (.bool (s0_2)))] a ∧ Mem w0 (hp w0) w [blk b0_1 [(.int .i64 (x_.op)), (.int .i64 (x_.a_)), (.int .i64 (x_.b)), (.int .i64 (x_.c)), (.int .i64 (x_.n_))] 27]) ?_ ?_
      ·
        refine wp_region_lit ?_
        refine st_y hf rfl rfl rfl (y_fieldAddr fo_27_1 rfl rfl) ?_
        clear hf a; intro a hf
        refine st_y hf rfl rfl rfl (y_load1 Tryd.isAgg3 rfl rfl (hm.blk_cell 0 rfl rfl)) ?_
        clear hf a; intro a hf
        refine st_y hf rfl rfl rfl (y_move rfl rfl) ?_
        clear hf a; intro a hf
        obtain ⟨r1_4, hx1_4, hq0_2⟩ := bnd hq0_2
        refine st_ef hf rfl rfl rfl (e_call hf rfl Tryd.call39 rfl (spec_l1In_ok _ x_.a_ 0 7 _ hx1_4)) ?_
        clear hf a; rintro v1_4 w1_4 a ho1_4 hf
        obtain ⟨rfl, hB⟩ := ho1_4
        replace hm := hm.below' hB; clear hB
        refine st_y hf rfl rfl rfl (y_not rfl rfl) ?_
        clear hf a; intro a hf
        refine st_y hf rfl rfl rfl (y_move rfl rfl) ?_
        clear hf a; intro a hf
        rcases bcases (!(r1_4)) with h1_8 | h1_8
        ·
          replace hq0_2 := (ite_t h1_8).symm.trans hq0_2
          have h1_9 := bnot_t' h1_8
          refine st_no hf rfl rfl (lk_b rfl h1_8) rfl rfl rfl ?_
          clear hf a; intro a hf
          refine st_no hf rfl rfl (lk_b rfl h1_8) rfl rfl rfl ?_
          clear hf a; intro a hf
          refine st_no hf rfl rfl (lk_b rfl h1_8) rfl rfl rfl ?_
          clear hf a; intro a hf
          refine st_no hf rfl rfl (lk_b rfl h1_8) rfl rfl rfl ?_
          clear hf a; intro a hf
          refine st_no hf rfl rfl (lk_b rfl h1_8) rfl rfl rfl ?_
          clear hf a; intro a hf
          refine st_y hf rfl rfl rfl (y_pick_t rfl (ev_b rfl h1_8) rfl) ?_
          clear hf a; intro a hf
          refine st_y hf rfl rfl rfl (y_move rfl rfl) ?_
          clear hf a; intro a hf
          refine st_no hf rfl rfl (lk_b rfl rfl) rfl rfl rfl ?_
          clear hf a; intro a hf
          refine st_no hf rfl rfl (lk_b rfl rfl) rfl rfl rfl ?_
          clear hf a; intro a hf
          refine st_no hf rfl rfl (lk_b rfl rfl) rfl rfl rfl ?_
          clear hf a; intro a hf
          refine st_no hf rfl rfl (lk_b rfl rfl) rfl rfl rfl ?_
          clear hf a; intro a hf
          refine st_no hf rfl rfl (lk_b rfl rfl) rfl rfl rfl ?_
          clear hf a; intro a hf
          refine st_y hf rfl rfl rfl (y_pick_t rfl (ev_b rfl rfl) rfl) ?_
          clear hf a; intro a hf
          refine st_end ?_
          refine x_then_n ?_
          obtain rfl := Option.some.inj hq0_2
          exact ⟨hf.sub ⟨rfl, rfl, trivial⟩, hm.pick [0] (by decide) rfl⟩
        ·
          replace hq0_2 := (ite_f h1_8).symm.trans hq0_2
          have h1_10 := bnot_f' h1_8
          refine st_yg hf rfl rfl (lk_b rfl h1_8) rfl rfl (y_fieldAddr fo_27_2 rfl rfl) ?_
          clear hf a; intro a hf
          refine st_yg hf rfl rfl (lk_b rfl h1_8) rfl rfl (y_load1 Tryd.isAgg3 rfl rfl (hm.blk_cell 0 rfl rfl)) ?_
          clear hf a; intro a hf
          refine st_yg hf rfl rfl (lk_b rfl h1_8) rfl rfl (y_move rfl rfl) ?_
          clear hf a; intro a hf
          obtain ⟨r1_5, hx1_5, hq0_2⟩ := bnd hq0_2
          refine st_efg hf rfl rfl (lk_b rfl h1_8) rfl rfl (e_call hf rfl Tryd.call39 rfl (spec_l1In_ok _ x_.b 0 7 _ hx1_5)) ?_
          clear hf a; rintro v1_5 w1_5 a ho1_5 hf
          obtain ⟨rfl, hB⟩ := ho1_5
          replace hm := hm.below' hB; clear hB
          refine st_yg hf rfl rfl (lk_b rfl h1_8) rfl rfl (y_not rfl rfl) ?_
          clear hf a; intro a hf
          refine st_y hf rfl rfl rfl (y_pick_f rfl (ev_b rfl h1_8) rfl) ?_
          clear hf a; intro a hf
          refine st_y hf rfl rfl rfl (y_move rfl rfl) ?_
          clear hf a; intro a hf
          rcases bcases (!(r1_5)) with h1_11 | h1_11
          ·
            replace hq0_2 := (ite_t h1_11).symm.trans hq0_2
            have h1_12 := bnot_t' h1_11
            refine st_no hf rfl rfl (lk_b rfl h1_11) rfl rfl rfl ?_
            clear hf a; intro a hf
            refine st_no hf rfl rfl (lk_b rfl h1_11) rfl rfl rfl ?_
            clear hf a; intro a hf
            refine st_no hf rfl rfl (lk_b rfl h1_11) rfl rfl rfl ?_
            clear hf a; intro a hf
            refine st_no hf rfl rfl (lk_b rfl h1_11) rfl rfl rfl ?_
            clear hf a; intro a hf
            refine st_no hf rfl rfl (lk_b rfl h1_11) rfl rfl rfl ?_
            clear hf a; intro a hf
            refine st_y hf rfl rfl rfl (y_pick_t rfl (ev_b rfl h1_11) rfl) ?_
            clear hf a; intro a hf
            refine st_end ?_
            refine x_then_n ?_
            obtain rfl := Option.some.inj hq0_2
            exact ⟨hf.sub ⟨rfl, rfl, trivial⟩, hm.pick [0] (by decide) rfl⟩
          ·
            replace hq0_2 := (ite_f h1_11).symm.trans hq0_2
            have h1_13 := bnot_f' h1_11
            refine st_yg hf rfl rfl (lk_b rfl h1_11) rfl rfl (y_fieldAddr fo_27_3 rfl rfl) ?_
            clear hf a; intro a hf
            refine st_yg hf rfl rfl (lk_b rfl h1_11) rfl rfl (y_load1 Tryd.isAgg3 rfl rfl (hm.blk_cell 0 rfl rfl)) ?_
            clear hf a; intro a hf
            refine st_yg hf rfl rfl (lk_b rfl h1_11) rfl rfl (y_move rfl rfl) ?_
            clear hf a; intro a hf
            obtain ⟨r1_6, hx1_6, hq0_2⟩ := bnd hq0_2
            refine st_efg hf rfl rfl (lk_b rfl h1_11) rfl rfl (e_call hf rfl Tryd.call39 rfl (spec_l1In_ok _ x_.c 0 7 _ hx1_6)) ?_
            clear hf a; rintro v1_6 w1_6 a ho1_6 hf
            obtain ⟨rfl, hB⟩ := ho1_6
            replace hm := hm.below' hB; clear hB
            refine st_yg hf rfl rfl (lk_b rfl h1_11) rfl rfl (y_not rfl rfl) ?_
            clear hf a; intro a hf
            refine st_y hf rfl rfl rfl (y_pick_f rfl (ev_b rfl h1_11) rfl) ?_
            clear hf a; intro a hf
            refine st_end ?_
            refine x_then_n ?_
            obtain rfl := Option.some.inj hq0_2
            exact ⟨hf.sub ⟨rfl, rfl, trivial⟩, hm.pick [0] (by decide) rfl⟩
      ·
        clear hf hm
        rintro a w ⟨hf, hm⟩
        refine x_then_n ?_
        rcases bcases (s0_2) with h0_2 | h0_2
        ·
          replace hq := (ite_t h0_2).symm.trans hq
          refine cond_t hf rfl h0_2 ?_
          refine wp_seq ?_
          refine wp_region_lit ?_
          refine st_ef hf rfl rfl rfl (e_build0 (α := UInt8) et_24 hm rfl) ?_
          clear hf a; rintro v0_3 w0_4 a hm hf
          refine st_y hf rfl rfl rfl (y_assign rfl rfl) ?_
          clear hf a; intro a hf
          refine st_y hf rfl rfl rfl (y_assign rfl rfl) ?_
          clear hf a; intro a hf
          refine st_end ?_
          refine x_then_n ?_
          refine wp_ret ?_
          refine x_then_ret ?_
          obtain rfl := Option.some.inj hq
          refine ret_tmp2 hf Tryd.results10 rfl rfl ?_
          exact ⟨v0_3, rfl, hm.pick [0] (by decide) rfl⟩
        ·
          replace hq := (ite_f h0_2).symm.trans hq
          refine cond_f hf rfl h0_2 ?_
          refine wp_skip ?_
          refine x_then_n ?_
          refine wp_seq ?_
          refine wp_region_lit ?_
          refine st_y hf rfl rfl rfl (y_loadN (cs := [(.int .i64 (x_.op)), (.int .i64 (x_.a_)), (.int .i64 (x_.b)), (.int .i64 (x_.c)), (.int .i64 (x_.n_))]) Tryd.isAgg27 Tryd.sizeOf27 rfl rfl (hm.blk_at 0 rfl)) ?_
          clear hf a; intro a hf
          obtain ⟨r0_2, hx0_2, hq⟩ := bnd hq
          refine st_ef hf rfl rfl rfl (e_call hf rfl Tryd.call40 rfl (spec_l25Plain_ok _ x_ _ hx0_2)) ?_
          clear hf a; rintro v0_4 w0_5 a ho0_2 hf
          obtain ⟨_, rfl, hB⟩ := ho0_2
          replace hm := hm.give hB; clear hB
          refine st_y hf rfl rfl rfl (y_assign rfl rfl) ?_
          clear hf a; intro a hf
          refine st_y hf rfl rfl rfl (y_assign rfl rfl) ?_
          clear hf a; intro a hf
          refine st_end ?_
          refine x_then_n ?_
          refine wp_ret ?_
          obtain rfl := Option.some.inj hq
          refine ret_tmp2 hf Tryd.results10 rfl rfl ?_
          exact ⟨v0_4, rfl, hm.pick [0] (by decide) rfl⟩

theorem math_bits_Mul32_ok (w0 : World) (x_ : Int) (y_ : Int) (r : Int × Int) (hq : math_bits_Mul32 x_ y_ = some r) :
    Con Tryd.prog 85 [(.int .u32 (x_)), (.int .u32 (y_))] w0 (fun v w' => v = (.tuple #[(.int .u32 (r.1)), (.int .u32 (r.2))]) ∧ Below w0.heap.size w0 w') := by
  unfold math_bits_Mul32 at hq
  refine con_body (l := [(0, (.int .u32 (x_))), (1, (.int .u32 (y_)))]) Tryd.func85 rfl Tryd.ntmps85 (Args.get ⟨rfl, rfl, trivial⟩) rfl ?_
  intro a hf
  have hm := Mem.start w0
  refine wp_seq ?_
  refine wp_region_lit ?_
  refine st_y hf rfl rfl rfl (y_assign rfl rfl) ?_
  clear hf a; intro a hf
  refine st_y hf rfl rfl rfl (y_assign rfl rfl) ?_
  clear hf a; intro a hf
  refine st_end ?_
  refine x_then_n ?_
  refine wp_seq ?_
  refine wp_region_lit ?_
  refine st_y hf rfl rfl rfl (y_move rfl rfl) ?_
  clear hf a; intro a hf
  refine st_y hf rfl rfl rfl (y_conv Tryd.underlying120 Tryd.underlying123 rfl rfl) ?_
  clear hf a; intro a hf
  refine st_y hf rfl rfl rfl (y_move rfl rfl) ?_
  clear hf a; intro a hf
  refine st_y hf rfl rfl rfl (y_conv Tryd.underlying120 Tryd.underlying123 rfl rfl) ?_
  clear hf a; intro a hf
  refine st_y hf rfl rfl rfl (y_mul rfl rfl rfl) ?_
  clear hf a; intro a hf
  refine st_y hf rfl rfl rfl (y_assign rfl rfl) ?_
  clear hf a; intro a hf
  refine st_end ?_
  refine x_then_n ?_
  refine wp_seq ?_
  refine wp_region_lit ?_
  refine st_y hf rfl rfl rfl (y_move rfl rfl) ?_
  clear hf a; intro a hf
  refine st_y hf rfl rfl rfl (y_shrk rfl rfl rfl (by omega)) ?_
  clear hf a; intro a hf
  refine st_y hf rfl rfl rfl (y_conv Tryd.underlying123 Tryd.underlying120 rfl rfl) ?_
  clear hf a; intro a hf
  refine st_y hf rfl rfl rfl (y_move rfl rfl) ?_
  clear hf a; intro a hf
  refine st_y hf rfl rfl rfl (y_conv Tryd.underlying123 Tryd.underlying120 rfl rfl) ?_
  clear hf a; intro a hf
  refine st_y hf rfl rfl rfl (y_assign rfl rfl) ?_
  clear hf a; intro a hf
  refine st_y hf rfl rfl rfl (y_assign rfl rfl) ?_
  clear hf a; intro a hf
  refine st_end ?_
  refine x_then_n ?_
  refine wp_ret ?_
  obtain rfl := Option.some.inj hq
  refine ret_tmp2 hf Tryd.results85 rfl rfl ?_
  exact ⟨rfl, hm.below⟩

theorem math_bits_Mul64_ok (w0 : World) (x_ : Int) (y_ : Int) (r : Int × Int) (hq : math_bits_Mul64 x_ y_ = some r) :
    Con Tryd.prog 86 [(.int .u64 (x_)), (.int .u64 (y_))] w0 (fun v w' => v = (.tuple #[(.int .u64 (r.1)), (.int .u64 (r.2))]) ∧ Below w0.heap.size w0 w') := by
  unfold math_bits_Mul64 at hq
  refine con_body (l := [(0, (.int .u64 (x_))), (1, (.int .u64 (y_)))]) Tryd.func86 rfl Tryd.ntmps86 (Args.get ⟨rfl, rfl, trivial⟩) rfl ?_
  intro a hf
  have hm := Mem.start w0
  refine wp_seq ?_
  refine wp_region_lit ?_
  refine st_y hf rfl rfl rfl (y_assign rfl rfl) ?_
  clear hf a; intro a hf
  refine st_y hf rfl rfl rfl (y_assign rfl rfl) ?_
  clear hf a; intro a hf
  refine st_end ?_
  refine x_then_n ?_
  refine wp_seq ?_
  refine wp_region_lit ?_
  refine st_y hf rfl rfl rfl (y_move rfl rfl) ?_
  clear hf a; intro a hf
  refine st_y hf rfl rfl rfl (y_andk rfl rfl rfl) ?_
  clear hf a; intro a hf
  refine st_y hf rfl rfl rfl (y_assign rfl rfl) ?_
  clear hf a; intro a hf
  refine st_end ?_
  refine x_then_n ?_
  refine wp_seq ?_
  refine wp_region_lit ?_
  refine st_y hf rfl rfl rfl (y_move rfl rfl) ?_
  clear hf a; intro a hf
  refine st_y hf rfl rfl rfl (y_shrk rfl rfl rfl (by omega)) ?_
  clear hf a; intro a hf
  refine st_y hf rfl rfl rfl (y_assign rfl rfl) ?_
  clear hf a; intro a hf
  refine st_end ?_
  refine x_then_n ?_
  refine wp_seq ?_
  refine wp_region_lit ?_
  refine st_y hf rfl rfl rfl (y_move rfl rfl) ?_
  clear hf a; intro a hf
  refine st_y hf rfl rfl rfl (y_andk rfl rfl rfl) ?_
  clear hf a; intro a hf
  refine st_y hf rfl rfl rfl (y_assign rfl rfl) ?_
  clear hf a; intro a hf
  refine st_end ?_
  refine x_then_n ?_
  refine wp_seq ?_
  refine wp_region_lit ?_
  refine st_y hf rfl rfl rfl (y_move rfl rfl) ?_
  clear hf a; intro a hf
  refine st_y hf rfl rfl rfl (y_shrk rfl rfl rfl (by omega)) ?_
  clear hf a; intro a hf
  refine st_y hf rfl rfl rfl (y_assign rfl rfl) ?_
  clear hf a; intro a hf
  refine st_end ?_
  refine x_then_n ?_
  refine wp_seq ?_
  refine wp_region_lit ?_
  refine st_y hf rfl rfl rfl (y_move rfl rfl) ?_
  clear hf a; intro a hf
  refine st_y hf rfl rfl rfl (y_move rfl rfl) ?_
  clear hf a; intro a hf
  refine st_y hf rfl rfl rfl (y_mul rfl rfl rfl) ?_
  clear hf a; intro a hf
  refine st_y hf rfl rfl rfl (y_assign rfl rfl) ?_
  clear hf a; intro a hf
  refine st_end ?_
  refine x_then_n ?_
  refine wp_seq ?_
  refine wp_region_lit ?_
  refine st_y hf rfl rfl rfl (y_move rfl rfl) ?_
  clear hf a; intro a hf
  refine st_y hf rfl rfl rfl (y_move rfl rfl) ?_
  clear hf a; intro a hf
  refine st_y hf rfl rfl rfl (y_mul rfl rfl rfl) ?_
  clear hf a; intro a hf
  refine st_y hf rfl rfl rfl (y_move rfl rfl) ?_
  clear hf a; intro a hf
  refine st_y hf rfl rfl rfl (y_shrk rfl rfl rfl (by omega)) ?_
  clear hf a; intro a hf
  refine st_y hf rfl rfl rfl (y_add rfl rfl rfl) ?_
  clear hf a; intro a hf
  refine st_y hf rfl rfl rfl (y_assign rfl rfl) ?_
  clear hf a; intro a hf
  refine st_end ?_
  refine x_then_n ?_
  refine wp_seq ?_
  refine wp_region_lit ?_
  refine st_y hf rfl rfl rfl (y_move rfl rfl) ?_
  clear hf a; intro a hf
  refine st_y hf rfl rfl rfl (y_andk rfl rfl rfl) ?_
  clear hf a; intro a hf
  refine st_y hf rfl rfl rfl (y_assign rfl rfl) ?_
  clear hf a; intro a hf
  refine st_end ?_
  refine x_then_n ?_
  refine wp_seq ?_
  refine wp_region_lit ?_
  refine st_y hf rfl rfl rfl (y_move rfl rfl) ?_
  clear hf a; intro a hf
  refine st_y hf rfl rfl rfl (y_shrk rfl rfl rfl (by omega)) ?_
  clear hf a; intro a hf
  refine st_y hf rfl rfl rfl (y_assign rfl rfl) ?_
  clear hf a; intro a hf
  refine st_end ?_
  refine x_then_n ?_
  refine wp_seq ?_
  refine wp_region_lit ?_
  refine st_y hf rfl rfl rfl (y_move rfl rfl) ?_
  clear hf a; intro a hf
  refine st_y hf rfl rfl rfl (y_move rfl rfl) ?_
  clear hf a; intro a hf
  refine st_y hf rfl rfl rfl (y_move rfl rfl) ?_
  clear hf a; intro a hf
  refine st_y hf rfl rfl rfl (y_mul rfl rfl rfl) ?_
  clear hf a; intro a hf
  refine st_y hf rfl rfl rfl (y_add rfl rfl rfl) ?_
  clear hf a; intro a hf
  refine st_y hf rfl rfl rfl (y_assign rfl rfl) ?_
  clear hf a; intro a hf
  refine st_end ?_
  refine x_then_n ?_
  refine wp_seq ?_
  refine wp_region_lit ?_
  refine st_y hf rfl rfl rfl (y_move rfl rfl) ?_
  clear hf a; intro a hf
  refine st_y hf rfl rfl rfl (y_move rfl rfl) ?_
  clear hf a; intro a hf
  refine st_y hf rfl rfl rfl (y_mul rfl rfl rfl) ?_
  clear hf a; intro a hf
  refine st_y hf rfl rfl rfl (y_move rfl rfl) ?_
  clear hf a; intro a hf
  refine st_y hf rfl rfl rfl (y_add rfl rfl rfl) ?_
  clear hf a; intro a hf
  refine st_y hf rfl rfl rfl (y_move rfl rfl) ?_
  clear hf a; intro a hf
  refine st_y hf rfl rfl rfl (y_shrk rfl rfl rfl (by omega)) ?_
  clear hf a; intro a hf
  refine st_y hf rfl rfl rfl (y_add rfl rfl rfl) ?_
  clear hf a; intro a hf
  refine st_y hf rfl rfl rfl (y_assign rfl rfl) ?_
  clear hf a; intro a hf
  refine st_end ?_
  refine x_then_n ?_
  refine wp_seq ?_
  refine wp_region_lit ?_
  refine st_y hf rfl rfl rfl (y_move rfl rfl) ?_
  clear hf a; intro a hf
  refine st_y hf rfl rfl rfl (y_move rfl rfl) ?_
  clear hf a; intro a hf
  refine st_y hf rfl rfl rfl (y_mul rfl rfl rfl) ?_
  clear hf a; intro a hf
  refine st_y hf rfl rfl rfl (y_assign rfl rfl) ?_
  clear hf a; intro a hf
  refine st_end ?_
  refine x_then_n ?_
  refine wp_ret ?_
  obtain rfl := Option.some.inj hq
  refine ret_tmp2 hf Tryd.results86 rfl rfl ?_
  exact ⟨rfl, hm.below⟩

theorem math_bits_Mul_ok (w0 : World) (x_ : Int) (y_ : Int) (r : Int × Int) (hq : math_bits_Mul x_ y_ = some r) :
    Con Tryd.prog 79 [(.int .u64 (x_)), (.int .u64 (y_))] w0 (fun v w' => v = (.tuple #[(.int .u64 (r.1)), (.int .u64 (r.2))]) ∧ Below w0.heap.size w0 w') := by
  unfold math_bits_Mul at hq
  refine con_body (l := [(0, (.int .u64 (x_))), (1, (.int .u64 (y_)))]) Tryd.func79 rfl Tryd.ntmps79 (Args.get ⟨rfl, rfl, trivial⟩) rfl ?_
  intro a hf
  have hm := Mem.start w0
  refine wp_seq ?_
  refine wp_region_lit ?_
  refine st_y hf rfl rfl rfl (y_assign rfl rfl) ?_
  clear hf a; intro a hf
  refine st_y hf rfl rfl rfl (y_assign rfl rfl) ?_
  clear hf a; intro a hf
  refine st_end ?_
  refine x_then_n ?_
  refine wp_seq ?_
  refine cond_f hf rfl rfl ?_
  refine wp_skip ?_
  refine x_then_n ?_
  refine wp_seq ?_
  refine wp_region_lit ?_
  refine st_y hf rfl rfl rfl (y_move rfl rfl) ?_
  clear hf a; intro a hf
  refine st_y hf rfl rfl rfl (y_move rfl rfl) ?_
  clear hf a; intro a hf
  obtain ⟨r0_1, hx0_1, hq⟩ := bnd hq
  refine st_ef hf rfl rfl rfl (e_call hf rfl Tryd.call86 rfl (math_bits_Mul64_ok _ x_ y_ _ hx0_1)) ?_
  clear hf a; rintro v0_1 w0_1 a ho0_1 hf
  obtain ⟨rfl, hB⟩ := ho0_1
  replace hm := hm.below' hB; clear hB
  refine st_y hf rfl rfl rfl (y_move rfl rfl) ?_
  clear hf a; intro a hf
  refine st_y hf rfl rfl rfl (y_extract rfl rfl rfl) ?_
  clear hf a; intro a hf
  refine st_y hf rfl rfl rfl (y_extract rfl rfl rfl) ?_
  clear hf a; intro a hf
  refine st_y hf rfl rfl rfl (y_assign rfl rfl) ?_
  clear hf a; intro a hf
  refine st_y hf rfl rfl rfl (y_assign rfl rfl) ?_
  clear hf a; intro a hf
  refine st_end ?_
  refine x_then_n ?_
  refine wp_seq ?_
  refine wp_region_lit ?_
  refine st_y hf rfl rfl rfl (y_move rfl rfl) ?_
  clear hf a; intro a hf
  refine st_y hf rfl rfl rfl (y_move rfl rfl) ?_
  clear hf a; intro a hf
  refine st_y hf rfl rfl rfl (y_assign rfl rfl) ?_
  clear hf a; intro a hf
  refine st_y hf rfl rfl rfl (y_assign rfl rfl) ?_
  clear hf a; intro a hf
  refine st_end ?_
  refine x_then_n ?_
  refine wp_ret ?_
  obtain rfl := Option.some.inj hq
  refine ret_tmp2 hf Tryd.results79 rfl rfl ?_
  exact ⟨rfl, hm.below⟩

theorem slices_Repeat_S_impl_Mfn_impl_Mfn_ok (w0 : World) (hz : Heap) (hle0 : Heap.le hz (hp w0)) (x_ : List Mfn) (v1 : Value) (h1 : GT.rep hz [v1] x_) (count : Int) (r : (List Mfn)) (hq : slices_Repeat_S_impl_Mfn_impl_Mfn x_ count = some r) :
    Con Tryd.prog 69 [v1, (.int .i64 (count))] w0 (fun v w' => ∃ (x1 : Value) (hz2 : Heap), v = x1 ∧ Heap.le hz hz2 ∧ Mem w0 hz2 w' [junk w0 hz, ow (α := List (Sh hz2 Mfn)) [x1] r]) := by
  unfold slices_Repeat_S_impl_Mfn_impl_Mfn at hq
  refine con_body (l := [(0, v1), (1, (.int .i64 (count)))]) Tryd.func69 rfl Tryd.ntmps69 (Args.get ⟨rfl, rfl, trivial⟩) rfl ?_
  intro a hf
  have hm := Mem.startA hle0
  refine wp_seq ?_
  refine wp_region_lit ?_
  refine st_y hf rfl rfl rfl (y_assign rfl rfl) ?_
  clear hf a; intro a hf
  refine st_end ?_
  refine x_then_n ?_
  refine wp_seq ?_
  refine wp_seq ?_
  refine wp_region_lit ?_
  refine st_y hf rfl rfl rfl (y_move rfl rfl) ?_
  clear hf a; intro a hf
  refine st_y hf rfl rfl rfl (y_lss rfl rfl rfl) ?_
  clear hf a; intro a hf
  refine st_end ?_
  refine x_then_n ?_
  rcases bcases (decide (count < 0)) with h0_1 | h0_1
  ·
    replace hq := (ite_t h0_1).symm.trans hq
    have h0_2 := of_decide_eq_true h0_1
    cases hq
  ·
    replace hq := (ite_f h0_1).symm.trans hq
    have h0_3 := of_decide_eq_false h0_1
    refine cond_f hf rfl h0_1 ?_
    refine wp_skip ?_
    refine x_then_n ?_
    refine wp_seq ?_
    refine wp_region_lit ?_
    refine st_y hf rfl rfl rfl (y_move rfl rfl) ?_
    clear hf a; intro a hf
    obtain ⟨p0_1, c0_1, he, hl0_1⟩ := ro_slice h1
    subst he
    refine st_y hf rfl rfl rfl (y_len_slice st_97.und rfl rfl) ?_
    clear hf a; intro a hf
    refine st_y hf rfl rfl rfl (y_conv Tryd.underlying3 Tryd.underlying114 rfl rfl) ?_
    clear hf a; intro a hf
    refine st_y hf rfl rfl rfl (y_move rfl rfl) ?_
    clear hf a; intro a hf
    refine st_y hf rfl rfl rfl (y_conv Tryd.underlying3 Tryd.underlying114 rfl rfl) ?_
    clear hf a; intro a hf
    obtain ⟨r0_1, hx0_1, hq⟩ := bnd hq
    refine st_ef hf rfl rfl rfl (e_call hf rfl Tryd.call79 rfl (math_bits_Mul_ok _ (IntKind.u64.wrap (x_.length : Int)) (IntKind.u64.wrap count) _ hx0_1)) ?_
    clear hf a; rintro v0_1 w0_1 a ho0_1 hf
    obtain ⟨rfl, hB⟩ := ho0_1
    replace hm := hm.below' hB; clear hB
    refine st_y hf rfl rfl rfl (y_move rfl rfl) ?_
    clear hf a; intro a hf
    refine st_y hf rfl rfl rfl (y_extract rfl rfl rfl) ?_
    clear hf a; intro a hf
    refine st_y hf rfl rfl rfl (y_extract rfl rfl rfl) ?_
    clear hf a; intro a hf
    refine st_y hf rfl rfl rfl (y_assign rfl rfl) ?_
    clear hf a; intro a hf
    refine st_y hf rfl rfl rfl (y_assign rfl rfl) ?_
    clear hf a; intro a hf
    refine st_end ?_
    refine x_then_n ?_
    refine wp_seq ?_
    refine wp_seq ?_
    obtain ⟨s0_1, hq0_1, hq⟩ := bnd hq
    refine code_cut (K := fun a w => Fr 48 [(0, (.slice p0_1 x_.length c0_1)), (6, (.int .u64 (r0_1.2))), (26, (.bool (s0_1)))] a ∧ Mem w0 hz w [junk w0 hz]) ?_ ?_
    ·
      refine wp_region_lit ?_
      refine st_y hf rfl rfl rfl (y_move rfl rfl) ?_
      clear hf a; intro a hf
      refine st_y hf rfl rfl rfl (y_gtr rfl rfl rfl) ?_
      clear hf a; intro a hf
      refine st_y hf rfl rfl rfl (y_move rfl rfl) ?_
      clear hf a; intro a hf
      rcases bcases (decide (0 < r0_1.1)) with h1_1 | h1_1
      ·
        replace hq0_1 := (ite_t h1_1).symm.trans hq0_1
        have h1_2 := of_decide_eq_true h1_1
        refine st_no hf rfl rfl (lk_b rfl h1_1) rfl rfl rfl ?_
        clear hf a; intro a hf
        refine st_no hf rfl rfl (lk_b rfl h1_1) rfl rfl rfl ?_
        clear hf a; intro a hf
        refine st_y hf rfl rfl rfl (y_pick_t rfl (ev_b rfl h1_1) rfl) ?_
        clear hf a; intro a hf
        refine st_end ?_
        refine x_then_n ?_
        obtain rfl := Option.some.inj hq0_1
        exact ⟨hf.sub ⟨rfl, rfl, rfl, trivial⟩, hm.pick [0] (by decide) rfl⟩
      ·
        replace hq0_1 := (ite_f h1_1).symm.trans hq0_1
        have h1_3 := of_decide_eq_false h1_1
        refine st_yg hf rfl rfl (lk_b rfl h1_1) rfl rfl (y_move rfl rfl) ?_
        clear hf a; intro a hf
        refine st_yg hf rfl rfl (lk_b rfl h1_1) rfl rfl (y_gtr rfl rfl rfl) ?_
        clear hf a; intro a hf
        refine st_y hf rfl rfl rfl (y_pick_f rfl (ev_b rfl h1_1) rfl) ?_
        clear hf a; intro a hf
        refine st_end ?_
        refine x_then_n ?_
        obtain rfl := Option.some.inj hq0_1
        exact ⟨hf.sub ⟨rfl, rfl, rfl, trivial⟩, hm.pick [0] (by decide) rfl⟩
    ·
      clear hf hm
      rintro a w ⟨hf, hm⟩
      refine x_then_n ?_
      rcases bcases (s0_1) with h0_4 | h0_4
      ·
        replace hq := (ite_t h0_4).symm.trans hq
        cases hq
      ·
        replace hq := (ite_f h0_4).symm.trans hq
        refine cond_f hf rfl h0_4 ?_
        refine wp_skip ?_
        refine x_then_n ?_
        refine wp_seq ?_
        refine wp_region_lit ?_
        refine st_y hf rfl rfl rfl (y_move rfl rfl) ?_
        clear hf a; intro a hf
        refine st_y hf rfl rfl rfl (y_conv Tryd.underlying114 Tryd.underlying3 rfl rfl) ?_
        clear hf a; intro a hf
        obtain ⟨ys0_1, hx0_2, hq⟩ := bnd hq
        obtain ⟨⟨h0_51, h0_52⟩, h0_5e⟩ := makeM_some.1 hx0_2
        refine st_ef hf rfl rfl rfl (e_make (x0 := ((⟨0, 0, []⟩ : Mfn) : Mfn)) et_97 (fun _ => ⟨[(.int .i64 (0))], [(.int .i64 (0)), (.slice none 0 0)], rfl, fun _ => False, fun _ => False, fun _ h => h.elim, fun _ h => h.elim, fun _ h => h.elim, (Flat.own_iff.2 rfl), ⟨[(.int .i64 (0))], [(.slice none 0 0)], rfl, fun _ => False, fun _ => False, fun _ h => h.elim, fun _ h => h.elim, fun _ h => h.elim, (Flat.own_iff.2 rfl), (own_list.2 (.inl ⟨rfl, rfl⟩))⟩⟩) hf hm rfl rfl rfl h0_51 (Int.le_refl _) h0_52) ?_
        clear hf a; rintro v0_2 w0_2 a hm hf
        rw [h0_5e] at hm
        have h0_5l : (ys0_1.length : Int) = IntKind.i64.wrap r0_1.2 := by rw [← h0_5e]; simp only [List.length_replicate]; omega
        refine st_y hf rfl rfl rfl (y_assign rfl rfl) ?_
        clear hf a; intro a hf
        refine st_end ?_
        refine x_then_n ?_
        refine wp_seq ?_
        refine wp_region_lit ?_
        refine st_y hf rfl rfl rfl (y_move rfl rfl) ?_
        clear hf a; intro a hf
        refine st_y hf rfl rfl rfl (y_move rfl rfl) ?_
        clear hf a; intro a hf
        obtain ⟨hz0_1, hle0_1, hm⟩ := hm.shallow (α := Mfn) 0 rfl
        refine st_ef hf rfl rfl rfl (e_copySh (α := Mfn) (xs := ys0_1) (ys := x_) (lo := 0) (hi := ys0_1.length) 0 st_97 (show 0 < 3 from by decide) hf hm rfl (ro_sh hm.lez (GT.mono hle0_1 h1)) rfl (by rw [hm.subV_wholeSh (α := Mfn) 0 rfl]; rfl) rfl (Nat.zero_le _) (Nat.le_refl _)) ?_
        clear hf a; rintro _ w0_3 a ⟨rfl, hm⟩ hf
        refine st_y hf rfl rfl rfl (y_assign rfl rfl) ?_
        clear hf a; intro a hf
        refine st_end ?_
        refine x_then_n ?_
        refine wp_seq ?_
        obtain ⟨p0_2, c0_2, he, hl0_2⟩ := ro_slice (sh_read (Heap.le_trans (Heap.le_refl _) hm.lez) (hm.ow_rep 0 rfl))
        subst he
        obtain ⟨s0_2, hq0_2, hq⟩ := bnd hq
        refine code_cut (K := fun a w => Fr 48 [(7, (.slice p0_2 (copyL ys0_1 x_ 0 ys0_1.length).length c0_2))] a ∧ Mem w0 hz0_1 w [ow (α := List (Sh hz0_1 Mfn)) [(.slice p0_2 (copyL ys0_1 x_ 0 ys0_1.length).length c0_2)] s0_2, junk w0 hz]) ?_ ?_
        ·
          refine wp_block ?_
          obtain ⟨r1_1, hl1_1, hq0_2⟩ := bnd hq0_2
          refine wp_loopM _ (fun xs2_1 a w => Fr 48 [(7, (.slice p0_2 (copyL ys0_1 x_ 0 ys0_1.length).length c0_2)), (8, (.int .i64 (xs2_1.2)))] a ∧ Mem w0 hz0_1 w [ow (α := List (Sh hz0_1 Mfn)) [(.slice p0_2 (copyL ys0_1 x_ 0 ys0_1.length).length c0_2)] xs2_1.1, junk w0 hz]) hl1_1 ?_ ?_
          ·
            exact ⟨hf.sub ⟨rfl, rfl, trivial⟩, hm.pick [0, 1] (by decide) rfl⟩
          ·
            clear hf hm
            rintro xs2_1 a w q1_1 ⟨hf, hm⟩ hb1_1 ho1_1
            refine wp_seq ?_
            refine wp_seq ?_
            refine wp_region_lit ?_
            refine st_y hf rfl rfl rfl (y_move rfl rfl) ?_
            clear hf a; intro a hf
            refine st_y hf rfl rfl rfl (y_move rfl rfl) ?_
            clear hf a; intro a hf
            have hl2_1 := rep_len (sh_read (Heap.le_trans (Heap.le_refl _) hm.lez) (hm.ow_rep 0 rfl))
            refine st_y hf rfl rfl rfl (y_len_slice st_97.und rfl rfl) ?_
            clear hf a; intro a hf
            refine st_y hf rfl rfl rfl (y_lss rfl rfl rfl) ?_
            clear hf a; intro a hf
            refine st_end ?_
            refine x_then_n ?_
            rcases bcases (decide (xs2_1.2 < (((copyL ys0_1 x_ 0 ys0_1.length).length : Int)))) with h2_1 | h2_1
            ·
              replace hb1_1 := (ite_t h2_1).symm.trans hb1_1
              have h2_2 := of_decide_eq_true h2_1
              refine cond_t hf rfl h2_1 ?_
              refine wp_skip ?_
              refine x_then_n ?_
              refine wp_block ?_
              refine wp_tree (.p 0 (.p 1 (.p 2 (.p 3 (.p 4 (.p 5 (.p 6 (.e 7 (.p 8 (.p 9 .fin)) .nil)))))))) [] [0, 1, 2, 3, 4, 5, 6, 8, 9] (fun w => Mem w0 hz0_1 w [ow (α := List (Sh hz0_1 Mfn)) [(.slice p0_2 (copyL ys0_1 x_ 0 ys0_1.length).length c0_2)] xs2_1.1, junk w0 hz]) (by kernel_rfl) (by kernel_rfl) (fun _ _ _ h => h.2) ?_
              replace hm := hm.drew
              have hS : Mem w0 hz0_1 _ [ow (α := List (Sh hz0_1 Mfn)) [(.slice p0_2 (copyL ys0_1 x_ 0 ys0_1.length).length c0_2)] xs2_1.1, junk w0 hz] := hm.pick [0, 1] (by decide) rfl
              refine td_p hf rfl rfl rfl rfl (fun w => y_move rfl rfl) ?_
              clear hf a; intro a hf
              refine td_p hf rfl rfl rfl rfl (fun w => y_move rfl rfl) ?_
              clear hf a; intro a hf
              refine td_p hf rfl rfl rfl rfl (fun w => y_move rfl rfl) ?_
              clear hf a; intro a hf
              obtain ⟨x2_1, hx2_1, hb1_1⟩ := bnd hb1_1
              obtain ⟨h2_3, h2_3e⟩ := subM_some.1 hx2_1
              have hr2_1 := (sh_read (Heap.le_trans (Heap.le_refl _) hm.lez) (hm.ow_rep 0 rfl))
              obtain ⟨v2_1, hy2_1⟩ : ∃ nv, nv = subV (GT.sz (Mfn)) (.slice p0_2 (copyL ys0_1 x_ 0 ys0_1.length).length c0_2) (xs2_1.2 : Int).toNat ((xs2_1.1.length : Int) : Int).toNat := ⟨_, rfl⟩
              refine td_p hf rfl rfl rfl rfl (fun w => yl_eq hy2_1 (y_slcL (α := Mfn) st_97 hr2_1 rfl rfl rfl h2_3 _)) ?_
              clear hf a; intro a hf
              refine td_p hf rfl rfl rfl rfl (fun w => y_move rfl rfl) ?_
              clear hf a; intro a hf
              refine td_p hf rfl rfl rfl rfl (fun w => y_move rfl rfl) ?_
              clear hf a; intro a hf
              obtain ⟨x2_2, hx2_2, hb1_1⟩ := bnd hb1_1
              obtain ⟨h2_5, h2_5e⟩ := subM_some.1 hx2_2
              have hr2_2 := (sh_read (Heap.le_trans (Heap.le_refl _) hm.lez) (hm.ow_rep 0 rfl))
              obtain ⟨v2_2, hy2_2⟩ : ∃ nv, nv = subV (GT.sz (Mfn)) (.slice p0_2 (copyL ys0_1 x_ 0 ys0_1.length).length c0_2) (0 : Int).toNat (xs2_1.2 : Int).toNat := ⟨_, rfl⟩
              refine td_p hf rfl rfl rfl rfl (fun w => yl_eq hy2_2 (y_slcH (α := Mfn) st_97 hr2_2 rfl rfl rfl h2_5 _)) ?_
              clear hf a; intro a hf
              refine te_one ?_
              have hb0 := h2_3
              refine td_ef hf rfl rfl rfl rfl (e_copySh (α := Mfn) (xs := xs2_1.1) (ys := x2_2) (lo := (xs2_1.2).toNat) (hi := ((xs2_1.1.length : Int)).toNat) 0 st_97 (show 0 < 3 from by decide) hf hm rfl (sh_view (α := Mfn) hy2_2 h2_5e h2_5 (hm.ow_rep 0 rfl)) rfl (by rw [hy2_1]; rfl) rfl (by omega) (by omega)) ?_
              clear hf a; rintro _ w2_1 a ⟨rfl, hm⟩ hf
              refine ⟨fun h => absurd h (by decide), ?_⟩
              refine td_p hf rfl rfl rfl rfl (fun w => y_addw rfl rfl rfl) ?_
              clear hf a; intro a hf
              refine td_p hf rfl rfl rfl rfl (fun w => y_assign rfl rfl) ?_
              clear hf a; intro a hf
              clear hS; refine td_end ?_
              refine x_blk_n ?_
              refine x_then_n ?_
              obtain rfl := Option.some.inj hb1_1
              exact ⟨_, rfl, hf.sub ⟨rfl, rfl, trivial⟩, hm.pick [0, 1] (by decide) rfl⟩
            ·
              replace hb1_1 := (ite_f h2_1).symm.trans hb1_1
              have h2_7 := of_decide_eq_false h2_1
              refine cond_f hf rfl h2_1 ?_
              refine wp_exit ?_
              refine x_then_exit ?_
              refine x_then_exit ?_
              refine x_blk_hit ?_
              refine x_then_n ?_
              obtain rfl := Option.some.inj hb1_1
              obtain rfl := ho1_1 _ rfl
              obtain rfl := Option.some.inj hq0_2
              exact ⟨hf.sub ⟨rfl, trivial⟩, hm.pick [0, 1] (by decide) rfl⟩
        ·
          clear hf hm
          rintro a w ⟨hf, hm⟩
          refine x_then_n ?_
          refine wp_seq ?_
          refine wp_region_lit ?_
          refine st_y hf rfl rfl rfl (y_move rfl rfl) ?_
          clear hf a; intro a hf
          refine st_y hf rfl rfl rfl (y_assign rfl rfl) ?_
          clear hf a; intro a hf
          refine st_end ?_
          refine x_then_n ?_
          refine wp_ret ?_
          obtain rfl := Option.some.inj hq
          refine ret_tmp hf Tryd.results69 rfl ?_
          exact ⟨(.slice p0_2 (copyL ys0_1 x_ 0 ys0_1.length).length c0_2), hz0_1, rfl, hle0_1, hm.pick [1, 0] (by decide) rfl⟩

theorem impl_minsOk_ok (w0 : World) (m : Mach) (v1 : Value) (h1 : GT.rep (hp w0) [v1] m.fns) (k_ : Int) (x_ : Mins) (hG0 : GT.rep (hp w0) [.slice (some ⟨0, 0, none⟩) 23 23] glob_impl_forms) (r : Bool) (hq : impl_minsOk m k_ x_ = some r) :
    Con Tryd.prog 82 [(.agg #[v1]), (.int .i64 (k_)), (.agg #[(.int .i64 (x_.op)), (.int .i64 (x_.a_)), (.int .i64 (x_.b)), (.int .i64 (x_.c)), (.int .i64 (x_.n_))])] w0 (fun v w' => v = (.bool (r)) ∧ Below w0.heap.size w0 w') := by
  unfold impl_minsOk at hq
  refine con_body (l := [(0, (.agg #[v1])), (1, (.int .i64 (k_))), (2, (.agg #[(.int .i64 (x_.op)), (.int .i64 (x_.a_)), (.int .i64 (x_.b)), (.int .i64 (x_.c)), (.int .i64 (x_.n_))]))]) Tryd.func82 rfl Tryd.ntmps82 (Args.get ⟨rfl, rfl, rfl, trivial⟩) rfl ?_
  intro a hf
  have hm := Mem.start w0
  refine wp_seq ?_
  refine wp_region_lit ?_
  refine st_ef hf rfl rfl rfl (e_box hf hm rfl rfl rfl) ?_
  clear hf a; rintro _ w0_1 a ⟨b0_1, rfl, hm⟩ hf
  refine st_ef hf rfl rfl rfl (e_box hf hm rfl rfl rfl) ?_
  clear hf a; rintro _ w0_2 a ⟨b0_2, rfl, hm⟩ hf
  refine st_y hf rfl rfl rfl (y_assign rfl rfl) ?_
  clear hf a; intro a hf
  refine st_end ?_
  refine x_then_n ?_
  refine wp_seq ?_
  refine wp_region_lit ?_
  refine st_y hf rfl rfl rfl (y_loadN (cs := [(.int .i64 (x_.op)), (.int .i64 (x_.a_)), (.int .i64 (x_.b)), (.int .i64 (x_.c)), (.int .i64 (x_.n_))]) Tryd.isAgg27 Tryd.sizeOf27 rfl rfl (hm.blk_at 0 rfl)) ?_
  clear hf a; intro a hf
  obtain ⟨r0_1, hx0_1, hq⟩ := bnd hq
  refine st_ef hf rfl rfl rfl (e_call hf rfl Tryd.call41 rfl (impl_formOf_ok _ x_ (hm.now hG0) _ hx0_1)) ?_
  clear hf a; rintro v0_1 w0_3 a ho0_1 hf
  obtain ⟨rfl, hB⟩ := ho0_1
  replace hm := hm.below' hB; clear hB
  refine st_y hf rfl rfl rfl (y_move rfl rfl) ?_
  clear hf a; intro a hf
  refine st_y hf rfl rfl rfl (y_extract rfl rfl rfl) ?_
  clear hf a; intro a hf
  refine st_y hf rfl rfl rfl (y_extract rfl rfl rfl) ?_
  clear hf a; intro a hf
  refine st_ef hf rfl rfl rfl (e_alloc hm Tryd.zeroValue62 rfl rfl) ?_
  clear hf a; rintro _ w0_4 a ⟨b0_3, rfl, hm⟩ hf
  refine st_ef0 hf rfl rfl (e_storeN 0 hf hm rfl Tryd.sizeOf62 rfl rfl rfl (one_cons rfl (one_cons rfl one_nil)) rfl rfl) ?_
  clear hf a; rintro _ w0_5 a hm hf
  refine st_y hf rfl rfl rfl (y_assign rfl rfl) ?_
  clear hf a; intro a hf
  refine st_end ?_
  refine x_then_n ?_
  refine wp_seq ?_
  refine wp_seq ?_
  obtain ⟨s0_1, hq0_1, hq⟩ := bnd hq
  refine code_cut (K := fun a w => Fr 83 [(1, (.int .i64 (k_))), (3, (.pointer (some ⟨b0_1, 0, none⟩))), (5, (.pointer (some ⟨b0_2, 0, none⟩))), (7, (.pointer (some ⟨b0_3, 0, none⟩))), (34, (.bool (s0_1)))] a ∧ Mem w0 (hp w0) w [blk b0_1 [v1] 99, blk b0_2 [(.int .i64 (x_.op)), (.int .i64 (x_.a_)), (.int .i64 (x_.b)), (.int .i64 (x_.c)), (.int .i64 (x_.n_))] 27, blk b0_3 [(.string ⟨(r0_1.1.name).b.toArray⟩), (.int .i64 (r0_1.1.fields))] 62]) ?_ ?_
  ·
    refine wp_region_lit ?_
    refine st_y hf rfl rfl rfl (y_move rfl rfl) ?_
    clear hf a; intro a hf
    refine st_y hf rfl rfl rfl (y_not rfl rfl) ?_
    clear hf a; intro a hf
    refine st_y hf rfl rfl rfl (y_move rfl rfl) ?_
    clear hf a; intro a hf
    rcases bcases (!(r0_1.2)) with h1_1 | h1_1
    ·
      replace hq0_1 := (ite_t h1_1).symm.trans hq0_1
      have h1_2 := bnot_t' h1_1
      refine st_no hf rfl rfl (lk_b rfl h1_1) rfl rfl rfl ?_
      clear hf a; intro a hf
      refine st_no hf rfl rfl (lk_b rfl h1_1) rfl rfl rfl ?_
      clear hf a; intro a hf
      refine st_no hf rfl rfl (lk_b rfl h1_1) rfl rfl rfl ?_
      clear hf a; intro a hf
      refine st_no hf rfl rfl (lk_b rfl h1_1) rfl rfl rfl ?_
      clear hf a; intro a hf
      refine st_y hf rfl rfl rfl (y_pick_t rfl (ev_b rfl h1_1) rfl) ?_
      clear hf a; intro a hf
      refine st_y hf rfl rfl rfl (y_move rfl rfl) ?_
      clear hf a; intro a hf
      refine st_no hf rfl rfl (lk_b rfl rfl) rfl rfl rfl ?_
      clear hf a; intro a hf
      refine st_no hf rfl rfl (lk_b rfl rfl) rfl rfl rfl ?_
      clear hf a; intro a hf
      refine st_no hf rfl rfl (lk_b rfl rfl) rfl rfl rfl ?_
      clear hf a; intro a hf
      refine st_no hf rfl rfl (lk_b rfl rfl) rfl rfl rfl ?_
      clear hf a; intro a hf
      refine st_y hf rfl rfl rfl (y_pick_t rfl (ev_b rfl rfl) rfl) ?_
      clear hf a; intro a hf
      refine st_y hf rfl rfl rfl (y_move rfl rfl) ?_
      clear hf a; intro a hf
      refine st_no hf rfl rfl (lk_b rfl rfl) rfl rfl rfl ?_
      clear hf a; intro a hf
      refine st_no hf rfl rfl (lk_b rfl rfl) rfl rfl rfl ?_
      clear hf a; intro a hf
      refine st_no hf rfl rfl (lk_b rfl rfl) rfl rfl rfl ?_
      clear hf a; intro a hf
      refine st_no hf rfl rfl (lk_b rfl rfl) rfl rfl rfl ?_
      clear hf a; intro a hf
      refine st_y hf rfl rfl rfl (y_pick_t rfl (ev_b rfl rfl) rfl) ?_
      clear hf a; intro a hf
      refine st_end ?_
      refine x_then_n ?_
      obtain rfl := Option.some.inj hq0_1
      exact ⟨hf.sub ⟨rfl, rfl, rfl, rfl, rfl, trivial⟩, hm.pick [2, 1, 0] (by decide) rfl⟩
    ·
      replace hq0_1 := (ite_f h1_1).symm.trans hq0_1
      have h1_3 := bnot_f' h1_1
      refine st_yg hf rfl rfl (lk_b rfl h1_1) rfl rfl (y_fieldAddr fo_27_1 rfl rfl) ?_
      clear hf a; intro a hf
      refine st_yg hf rfl rfl (lk_b rfl h1_1) rfl rfl (y_load1 Tryd.isAgg3 rfl rfl (hm.blk_cell 1 rfl rfl)) ?_
      clear hf a; intro a hf
      obtain ⟨r1_1, hx1_1, hq0_1⟩ := bnd hq0_1
      refine st_efg hf rfl rfl (lk_b rfl h1_1) rfl rfl (e_call hf rfl Tryd.call43 rfl (impl_within_ok _ x_.a_ 0 7 _ hx1_1)) ?_
      clear hf a; rintro v1_1 w1_1 a ho1_1 hf
      obtain ⟨rfl, hB⟩ := ho1_1
      replace hm := hm.below' hB; clear hB
      refine st_yg hf rfl rfl (lk_b rfl h1_1) rfl rfl (y_not rfl rfl) ?_
      clear hf a; intro a hf
      refine st_y hf rfl rfl rfl (y_pick_f rfl (ev_b rfl h1_1) rfl) ?_
      clear hf a; intro a hf
      refine st_y hf rfl rfl rfl (y_move rfl rfl) ?_
      clear hf a; intro a hf
      rcases bcases (!(r1_1)) with h1_4 | h1_4
      ·
        replace hq0_1 := (ite_t h1_4).symm.trans hq0_1
        have h1_5 := bnot_t' h1_4
        refine st_no hf rfl rfl (lk_b rfl h1_4) rfl rfl rfl ?_
        clear hf a; intro a hf
        refine st_no hf rfl rfl (lk_b rfl h1_4) rfl rfl rfl ?_
        clear hf a; intro a hf
        refine st_no hf rfl rfl (lk_b rfl h1_4) rfl rfl rfl ?_
        clear hf a; intro a hf
        refine st_no hf rfl rfl (lk_b rfl h1_4) rfl rfl rfl ?_
        clear hf a; intro a hf
        refine st_y hf rfl rfl rfl (y_pick_t rfl (ev_b rfl h1_4) rfl) ?_
        clear hf a; intro a hf
        refine st_y hf rfl rfl rfl (y_move rfl rfl) ?_
        clear hf a; intro a hf
        refine st_no hf rfl rfl (lk_b rfl rfl) rfl rfl rfl ?_
        clear hf a; intro a hf
        refine st_no hf rfl rfl (lk_b rfl rfl) rfl rfl rfl ?_
        clear hf a; intro a hf
        refine st_no hf rfl rfl (lk_b rfl rfl) rfl rfl rfl ?_
        clear hf a; intro a hf
        refine st_no hf rfl rfl (lk_b rfl rfl) rfl rfl rfl ?_
        clear hf a; intro a hf
        refine st_y hf rfl rfl rfl (y_pick_t rfl (ev_b rfl rfl) rfl) ?_
        clear hf a; intro a hf
        refine st_end ?_
        refine x_then_n ?_
        obtain rfl := Option.some.inj hq0_1
        exact ⟨hf.sub ⟨rfl, rfl, rfl, rfl, rfl, trivial⟩, hm.pick [2, 1, 0] (by decide) rfl⟩
      ·
        replace hq0_1 := (ite_f h1_4).symm.trans hq0_1
        have h1_6 := bnot_f' h1_4
        refine st_yg hf rfl rfl (lk_b rfl h1_4) rfl rfl (y_fieldAddr fo_27_2 rfl rfl) ?_
        clear hf a; intro a hf
        refine st_yg hf rfl rfl (lk_b rfl h1_4) rfl rfl (y_load1 Tryd.isAgg3 rfl rfl (hm.blk_cell 1 rfl rfl)) ?_
        clear hf a; intro a hf
        obtain ⟨r1_2, hx1_2, hq0_1⟩ := bnd hq0_1
        refine st_efg hf rfl rfl (lk_b rfl h1_4) rfl rfl (e_call hf rfl Tryd.call43 rfl (impl_within_ok _ x_.b 0 7 _ hx1_2)) ?_
        clear hf a; rintro v1_2 w1_2 a ho1_2 hf
        obtain ⟨rfl, hB⟩ := ho1_2
        replace hm := hm.below' hB; clear hB
        refine st_yg hf rfl rfl (lk_b rfl h1_4) rfl rfl (y_not rfl rfl) ?_
        clear hf a; intro a hf
        refine st_y hf rfl rfl rfl (y_pick_f rfl (ev_b rfl h1_4) rfl) ?_
        clear hf a; intro a hf
        refine st_y hf rfl rfl rfl (y_move rfl rfl) ?_
        clear hf a; intro a hf
        rcases bcases (!(r1_2)) with h1_7 | h1_7
        ·
          replace hq0_1 := (ite_t h1_7).symm.trans hq0_1
          have h1_8 := bnot_t' h1_7
          refine st_no hf rfl rfl (lk_b rfl h1_7) rfl rfl rfl ?_
          clear hf a; intro a hf
          refine st_no hf rfl rfl (lk_b rfl h1_7) rfl rfl rfl ?_
          clear hf a; intro a hf
          refine st_no hf rfl rfl (lk_b rfl h1_7) rfl rfl rfl ?_
          clear hf a; intro a hf
          refine st_no hf rfl rfl (lk_b rfl h1_7) rfl rfl rfl ?_
          clear hf a; intro a hf
          refine st_y hf rfl rfl rfl (y_pick_t rfl (ev_b rfl h1_7) rfl) ?_
          clear hf a; intro a hf
          refine st_end ?_
          refine x_then_n ?_
          obtain rfl := Option.some.inj hq0_1
          exact ⟨hf.sub ⟨rfl, rfl, rfl, rfl, rfl, trivial⟩, hm.pick [2, 1, 0] (by decide) rfl⟩
        ·
          replace hq0_1 := (ite_f h1_7).symm.trans hq0_1
          have h1_9 := bnot_f' h1_7
          refine st_yg hf rfl rfl (lk_b rfl h1_7) rfl rfl (y_fieldAddr fo_27_3 rfl rfl) ?_
          clear hf a; intro a hf
          refine st_yg hf rfl rfl (lk_b rfl h1_7) rfl rfl (y_load1 Tryd.isAgg3 rfl rfl (hm.blk_cell 1 rfl rfl)) ?_
          clear hf a; intro a hf
          obtain ⟨r1_3, hx1_3, hq0_1⟩ := bnd hq0_1
          refine st_efg hf rfl rfl (lk_b rfl h1_7) rfl rfl (e_call hf rfl Tryd.call43 rfl (impl_within_ok _ x_.c 0 7 _ hx1_3)) ?_
          clear hf a; rintro v1_3 w1_3 a ho1_3 hf
          obtain ⟨rfl, hB⟩ := ho1_3
          replace hm := hm.below' hB; clear hB
          refine st_yg hf rfl rfl (lk_b rfl h1_7) rfl rfl (y_not rfl rfl) ?_
          clear hf a; intro a hf
          refine st_y hf rfl rfl rfl (y_pick_f rfl (ev_b rfl h1_7) rfl) ?_
          clear hf a; intro a hf
          refine st_end ?_
          refine x_then_n ?_
          obtain rfl := Option.some.inj hq0_1
          exact ⟨hf.sub ⟨rfl, rfl, rfl, rfl, rfl, trivial⟩, hm.pick [2, 1, 0] (by decide) rfl⟩
  ·
    clear hf hm
    rintro a w ⟨hf, hm⟩
    refine x_then_n ?_
    rcases bcases (s0_1) with h0_1 | h0_1
    ·
      replace hq := (ite_t h0_1).symm.trans hq
      refine cond_t hf rfl h0_1 ?_
      refine wp_seq ?_
      refine wp_region_lit ?_
      refine st_y hf rfl rfl rfl (y_assign rfl rfl) ?_
      clear hf a; intro a hf
      refine st_end ?_
      refine x_then_n ?_
      refine wp_ret ?_
      refine x_then_ret ?_
      obtain rfl := Option.some.inj hq
      refine ret_tmp hf Tryd.results82 rfl ?_
      exact ⟨rfl, hm.below⟩
    ·
      replace hq := (ite_f h0_1).symm.trans hq
      refine cond_f hf rfl h0_1 ?_
      refine wp_skip ?_
      refine x_then_n ?_
      refine wp_seq ?_
      refine wp_region_lit ?_
      refine st_y hf rfl rfl rfl (y_assign rfl rfl) ?_
      clear hf a; intro a hf
      refine st_end ?_
      refine x_then_n ?_
      refine wp_seq ?_
      refine wp_seq ?_
      refine wp_region_lit ?_
      refine st_y hf rfl rfl rfl (y_fieldAddr fo_27_0 rfl rfl) ?_
      clear hf a; intro a hf
      refine st_y hf rfl rfl rfl (y_load1 Tryd.isAgg3 rfl rfl (hm.blk_cell 1 rfl rfl)) ?_
      clear hf a; intro a hf
      refine st_end ?_
      refine x_then_n ?_
      obtain ⟨s0_2, hq0_2, hq⟩ := bnd hq
      refine code_cut (K := fun a w => Fr 83 [(5, (.pointer (some ⟨b0_2, 0, none⟩))), (7, (.pointer (some ⟨b0_3, 0, none⟩))), (9, (.int .i64 (s0_2)))] a ∧ Mem w0 (hp w0) w [blk b0_2 [(.int .i64 (x_.op)), (.int .i64 (x_.a_)), (.int .i64 (x_.b)), (.int .i64 (x_.c)), (.int .i64 (x_.n_))] 27, blk b0_3 [(.string ⟨(r0_1.1.name).b.toArray⟩), (.int .i64 (r0_1.1.fields))] 62]) ?_ ?_
      ·
        refine wp_block ?_
        refine wp_seq ?_
        refine wp_region_lit ?_
        refine st_y hf rfl rfl rfl (y_eql rfl rfl rfl) ?_
        clear hf a; intro a hf
        refine st_y hf rfl rfl rfl (y_assign rfl rfl) ?_
        clear hf a; intro a hf
        refine st_end ?_
        refine x_then_n ?_
        obtain ⟨s1_1, hq1_1, hq0_2⟩ := bnd hq0_2
        refine code_cut (K := fun a w => Fr 83 [(5, (.pointer (some ⟨b0_2, 0, none⟩))), (7, (.pointer (some ⟨b0_3, 0, none⟩))), (9, (.int .i64 (s1_1)))] a ∧ Mem w0 (hp w0) w [blk b0_2 [(.int .i64 (x_.op)), (.int .i64 (x_.a_)), (.int .i64 (x_.b)), (.int .i64 (x_.c)), (.int .i64 (x_.n_))] 27, blk b0_3 [(.string ⟨(r0_1.1.name).b.toArray⟩), (.int .i64 (r0_1.1.fields))] 62]) ?_ ?_
        ·
          rcases bcases (decide (x_.op = 14)) with h2_1 | h2_1
          ·
            replace hq1_1 := (ite_t h2_1).symm.trans hq1_1
            have h2_2 := of_decide_eq_true h2_1
            refine cond_t hf rfl h2_1 ?_
            refine wp_region_lit ?_
            refine st_y hf rfl rfl rfl (y_move rfl rfl) ?_
            clear hf a; intro a hf
            refine st_y hf rfl rfl rfl (y_subw rfl rfl rfl) ?_
            clear hf a; intro a hf
            refine st_y hf rfl rfl rfl (y_assign rfl rfl) ?_
            clear hf a; intro a hf
            refine st_end ?_
            refine x_then_n ?_
            obtain rfl := Option.some.inj hq1_1
            exact ⟨hf.sub ⟨rfl, rfl, rfl, trivial⟩, hm.pick [1, 2] (by decide) rfl⟩
          ·
            replace hq1_1 := (ite_f h2_1).symm.trans hq1_1
            have h2_3 := of_decide_eq_false h2_1
            refine cond_f hf rfl h2_1 ?_
            refine wp_seq ?_
            refine wp_seq ?_
            refine wp_region_lit ?_
            refine st_y hf rfl rfl rfl (y_eql rfl rfl rfl) ?_
            clear hf a; intro a hf
            refine st_y hf rfl rfl rfl (y_assign rfl rfl) ?_
            clear hf a; intro a hf
            refine st_end ?_
            refine x_then_n ?_
            obtain ⟨s2_1, hq2_1, hq1_1⟩ := bnd hq1_1
            refine code_cut (K := fun a w => Fr 83 [(1, (.int .i64 (k_))), (3, (.pointer (some ⟨b0_1, 0, none⟩))), (5, (.pointer (some ⟨b0_2, 0, none⟩))), (7, (.pointer (some ⟨b0_3, 0, none⟩))), (9, (.int .i64 (255))), (36, (.int .i64 (x_.op))), (41, (.bool (s2_1)))] a ∧ Mem w0 (hp w0) w [blk b0_1 [v1] 99, blk b0_2 [(.int .i64 (x_.op)), (.int .i64 (x_.a_)), (.int .i64 (x_.b)), (.int .i64 (x_.c)), (.int .i64 (x_.n_))] 27, blk b0_3 [(.string ⟨(r0_1.1.name).b.toArray⟩), (.int .i64 (r0_1.1.fields))] 62]) ?_ ?_
            ·
              rcases bcases (decide (x_.op = 15)) with h3_1 | h3_1
              ·
                replace hq2_1 := (ite_t h3_1).symm.trans hq2_1
                have h3_2 := of_decide_eq_true h3_1
                refine cond_t hf rfl h3_1 ?_
                refine wp_skip ?_
                refine x_then_n ?_
                obtain rfl := Option.some.inj hq2_1
                exact ⟨hf.sub ⟨rfl, rfl, rfl, rfl, rfl, rfl, rfl, trivial⟩, hm.pick [0, 1, 2] (by decide) rfl⟩
              ·
                replace hq2_1 := (ite_f h3_1).symm.trans hq2_1
                have h3_3 := of_decide_eq_false h3_1
                refine cond_f hf rfl h3_1 ?_
                refine wp_region_lit ?_
                refine st_y hf rfl rfl rfl (y_eql rfl rfl rfl) ?_
                clear hf a; intro a hf
                refine st_y hf rfl rfl rfl (y_assign rfl rfl) ?_
                clear hf a; intro a hf
                refine st_end ?_
                refine x_then_n ?_
                obtain rfl := Option.some.inj hq2_1
                exact ⟨hf.sub ⟨rfl, rfl, rfl, rfl, rfl, rfl, rfl, trivial⟩, hm.pick [0, 1, 2] (by decide) rfl⟩
            ·
              clear hf hm
              rintro a w ⟨hf, hm⟩
              refine x_then_n ?_
              obtain ⟨s2_2, hq2_2, hq1_1⟩ := bnd hq1_1
              refine code_cut (K := fun a w => Fr 83 [(5, (.pointer (some ⟨b0_2, 0, none⟩))), (7, (.pointer (some ⟨b0_3, 0, none⟩))), (9, (.int .i64 (s2_2)))] a ∧ Mem w0 (hp w0) w [blk b0_2 [(.int .i64 (x_.op)), (.int .i64 (x_.a_)), (.int .i64 (x_.b)), (.int .i64 (x_.c)), (.int .i64 (x_.n_))] 27, blk b0_3 [(.string ⟨(r0_1.1.name).b.toArray⟩), (.int .i64 (r0_1.1.fields))] 62]) ?_ ?_
              ·
                rcases bcases (s2_1) with h3_4 | h3_4
                ·
                  replace hq2_2 := (ite_t h3_4).symm.trans hq2_2
                  refine cond_t hf rfl h3_4 ?_
                  refine wp_region_lit ?_
                  refine st_y hf rfl rfl rfl (y_fieldAddr fo_99_0 rfl rfl) ?_
                  clear hf a; intro a hf
                  refine st_y hf rfl rfl rfl (y_load1 Tryd.isAgg97 rfl rfl (hm.blk_cell 0 rfl rfl)) ?_
                  clear hf a; intro a hf
                  refine st_y hf rfl rfl rfl (y_move rfl rfl) ?_
                  clear hf a; intro a hf
                  obtain ⟨x3_1, hx3_1, hq2_2⟩ := bnd hq2_2
                  obtain ⟨h3_5, hx3_2⟩ := getI_some.1 hx3_1
                  obtain ⟨b3_1, o3_1, c3_1, he⟩ := idx_form' h1 hx3_2
                  subst he
                  obtain ⟨_, _, hc3_1, hr3_1⟩ := ro_get' h1 hx3_2
                  obtain ⟨_, _, rfl, rfl, _, _, rfl, rfl, h3_6⟩ := hr3_1
                  obtain ⟨v3_1, rfl, -⟩ := id h3_6
                  replace h3_6 : GT.rep (hp w0) [v3_1] x3_1.ins := h3_6
                  replace hc3_1 : CellsAt (hp w0) b3_1 (o3_1 + (k_).toNat * 3) [(.int .i64 (x3_1.params)), (.int .i64 (x3_1.slots)), v3_1] := hc3_1
                  refine st_y hf rfl rfl rfl (y_indexAddr st_97 rfl rfl rfl h3_5 (idx_lt hx3_2)) ?_
                  clear hf a; intro a hf
                  refine st_y hf rfl rfl rfl (y_fieldAddr fo_35_1 rfl rfl) ?_
                  clear hf a; intro a hf
                  refine st_y hf rfl rfl rfl (y_load1 Tryd.isAgg3 rfl rfl ((hc3_1.mono hm.lez).cell (j := 1) rfl)) ?_
                  clear hf a; intro a hf
                  refine st_y hf rfl rfl rfl (y_subw rfl rfl rfl) ?_
                  clear hf a; intro a hf
                  refine st_y hf rfl rfl rfl (y_assign rfl rfl) ?_
                  clear hf a; intro a hf
                  refine st_end ?_
                  refine x_then_n ?_
                  obtain rfl := Option.some.inj hq2_2
                  exact ⟨hf.sub ⟨rfl, rfl, rfl, trivial⟩, hm.pick [1, 2] (by decide) rfl⟩
                ·
                  replace hq2_2 := (ite_f h3_4).symm.trans hq2_2
                  refine cond_f hf rfl h3_4 ?_
                  refine wp_seq ?_
                  refine wp_region_lit ?_
                  refine st_y hf rfl rfl rfl (y_eql rfl rfl rfl) ?_
                  clear hf a; intro a hf
                  refine st_y hf rfl rfl rfl (y_assign rfl rfl) ?_
                  clear hf a; intro a hf
                  refine st_end ?_
                  refine x_then_n ?_
                  obtain ⟨s3_1, hq3_1, hq2_2⟩ := bnd hq2_2
                  refine code_cut (K := fun a w => Fr 83 [(5, (.pointer (some ⟨b0_2, 0, none⟩))), (7, (.pointer (some ⟨b0_3, 0, none⟩))), (9, (.int .i64 (s3_1)))] a ∧ Mem w0 (hp w0) w [blk b0_2 [(.int .i64 (x_.op)), (.int .i64 (x_.a_)), (.int .i64 (x_.b)), (.int .i64 (x_.c)), (.int .i64 (x_.n_))] 27, blk b0_3 [(.string ⟨(r0_1.1.name).b.toArray⟩), (.int .i64 (r0_1.1.fields))] 62]) ?_ ?_
                  ·
                    rcases bcases (decide (x_.op = 17)) with h4_1 | h4_1
                    ·
                      replace hq3_1 := (ite_t h4_1).symm.trans hq3_1
                      have h4_2 := of_decide_eq_true h4_1
                      refine cond_t hf rfl h4_1 ?_
                      refine wp_region_lit ?_
                      refine st_y hf rfl rfl rfl (y_assign rfl rfl) ?_
                      clear hf a; intro a hf
                      refine st_end ?_
                      refine x_then_n ?_
                      obtain rfl := Option.some.inj hq3_1
                      exact ⟨hf.sub ⟨rfl, rfl, rfl, trivial⟩, hm.pick [1, 2] (by decide) rfl⟩
                    ·
                      replace hq3_1 := (ite_f h4_1).symm.trans hq3_1
                      have h4_3 := of_decide_eq_false h4_1
                      refine cond_f hf rfl h4_1 ?_
                      refine wp_seq ?_
                      refine wp_region_lit ?_
                      refine st_y hf rfl rfl rfl (y_eql rfl rfl rfl) ?_
                      clear hf a; intro a hf
                      refine st_y hf rfl rfl rfl (y_assign rfl rfl) ?_
                      clear hf a; intro a hf
                      refine st_end ?_
                      refine x_then_n ?_
                      obtain ⟨s4_1, hq4_1, hq3_1⟩ := bnd hq3_1
                      refine code_cut (K := fun a w => Fr 83 [(5, (.pointer (some ⟨b0_2, 0, none⟩))), (7, (.pointer (some ⟨b0_3, 0, none⟩))), (9, (.int .i64 (s4_1)))] a ∧ Mem w0 (hp w0) w [blk b0_2 [(.int .i64 (x_.op)), (.int .i64 (x_.a_)), (.int .i64 (x_.b)), (.int .i64 (x_.c)), (.int .i64 (x_.n_))] 27, blk b0_3 [(.string ⟨(r0_1.1.name).b.toArray⟩), (.int .i64 (r0_1.1.fields))] 62]) ?_ ?_
                      ·
                        rcases bcases (decide (x_.op = 18)) with h5_1 | h5_1
                        ·
                          replace hq4_1 := (ite_t h5_1).symm.trans hq4_1
                          have h5_2 := of_decide_eq_true h5_1
                          refine cond_t hf rfl h5_1 ?_
                          refine wp_region_lit ?_
                          refine st_y hf rfl rfl rfl (y_fieldAddr fo_99_0 rfl rfl) ?_
                          clear hf a; intro a hf
                          refine st_y hf rfl rfl rfl (y_load1 Tryd.isAgg97 rfl rfl (hm.blk_cell 0 rfl rfl)) ?_
                          clear hf a; intro a hf
                          refine st_y hf rfl rfl rfl (y_move rfl rfl) ?_
                          clear hf a; intro a hf
                          obtain ⟨x5_1, hx5_1, hq4_1⟩ := bnd hq4_1
                          obtain ⟨h5_3, hx5_2⟩ := getI_some.1 hx5_1
                          obtain ⟨b5_1, o5_1, c5_1, he⟩ := idx_form' h1 hx5_2
                          subst he
                          obtain ⟨_, _, hc5_1, hr5_1⟩ := ro_get' h1 hx5_2
                          obtain ⟨_, _, rfl, rfl, _, _, rfl, rfl, h5_4⟩ := hr5_1
                          obtain ⟨v5_1, rfl, -⟩ := id h5_4
                          replace h5_4 : GT.rep (hp w0) [v5_1] x5_1.ins := h5_4
                          replace hc5_1 : CellsAt (hp w0) b5_1 (o5_1 + (k_).toNat * 3) [(.int .i64 (x5_1.params)), (.int .i64 (x5_1.slots)), v5_1] := hc5_1
                          refine st_y hf rfl rfl rfl (y_indexAddr st_97 rfl rfl rfl h5_3 (idx_lt hx5_2)) ?_
                          clear hf a; intro a hf
                          refine st_y hf rfl rfl rfl (y_fieldAddr fo_35_0 rfl rfl) ?_
                          clear hf a; intro a hf
                          refine st_y hf rfl rfl rfl (y_load1 Tryd.isAgg3 rfl rfl ((hc5_1.mono hm.lez).cell (j := 0) rfl)) ?_
                          clear hf a; intro a hf
                          refine st_y hf rfl rfl rfl (y_subw rfl rfl rfl) ?_
                          clear hf a; intro a hf
                          refine st_y hf rfl rfl rfl (y_assign rfl rfl) ?_
                          clear hf a; intro a hf
                          refine st_end ?_
                          refine x_then_n ?_
                          obtain rfl := Option.some.inj hq4_1
                          exact ⟨hf.sub ⟨rfl, rfl, rfl, trivial⟩, hm.pick [1, 2] (by decide) rfl⟩
                        ·
                          replace hq4_1 := (ite_f h5_1).symm.trans hq4_1
                          have h5_5 := of_decide_eq_false h5_1
                          refine cond_f hf rfl h5_1 ?_
                          refine wp_seq ?_
                          refine wp_seq ?_
                          refine wp_region_lit ?_
                          refine st_y hf rfl rfl rfl (y_eql rfl rfl rfl) ?_
                          clear hf a; intro a hf
                          refine st_y hf rfl rfl rfl (y_assign rfl rfl) ?_
                          clear hf a; intro a hf
                          refine st_end ?_
                          refine x_then_n ?_
                          obtain ⟨s5_1, hq5_1, hq4_1⟩ := bnd hq4_1
                          refine code_cut (K := fun a w => Fr 83 [(1, (.int .i64 (k_))), (3, (.pointer (some ⟨b0_1, 0, none⟩))), (5, (.pointer (some ⟨b0_2, 0, none⟩))), (7, (.pointer (some ⟨b0_3, 0, none⟩))), (9, (.int .i64 (255))), (62, (.bool (s5_1)))] a ∧ Mem w0 (hp w0) w [blk b0_1 [v1] 99, blk b0_2 [(.int .i64 (x_.op)), (.int .i64 (x_.a_)), (.int .i64 (x_.b)), (.int .i64 (x_.c)), (.int .i64 (x_.n_))] 27, blk b0_3 [(.string ⟨(r0_1.1.name).b.toArray⟩), (.int .i64 (r0_1.1.fields))] 62]) ?_ ?_
                          ·
                            rcases bcases (decide (x_.op = 20)) with h6_1 | h6_1
                            ·
                              replace hq5_1 := (ite_t h6_1).symm.trans hq5_1
                              have h6_2 := of_decide_eq_true h6_1
                              refine cond_t hf rfl h6_1 ?_
                              refine wp_skip ?_
                              refine x_then_n ?_
                              obtain rfl := Option.some.inj hq5_1
                              exact ⟨hf.sub ⟨rfl, rfl, rfl, rfl, rfl, rfl, trivial⟩, hm.pick [0, 1, 2] (by decide) rfl⟩
                            ·
                              replace hq5_1 := (ite_f h6_1).symm.trans hq5_1
                              have h6_3 := of_decide_eq_false h6_1
                              refine cond_f hf rfl h6_1 ?_
                              refine wp_region_lit ?_
                              refine st_y hf rfl rfl rfl (y_eql rfl rfl rfl) ?_
                              clear hf a; intro a hf
                              refine st_y hf rfl rfl rfl (y_assign rfl rfl) ?_
                              clear hf a; intro a hf
                              refine st_end ?_
                              refine x_then_n ?_
                              obtain rfl := Option.some.inj hq5_1
                              exact ⟨hf.sub ⟨rfl, rfl, rfl, rfl, rfl, rfl, trivial⟩, hm.pick [0, 1, 2] (by decide) rfl⟩
                          ·
                            clear hf hm
                            rintro a w ⟨hf, hm⟩
                            refine x_then_n ?_
                            obtain ⟨s5_2, hq5_2, hq4_1⟩ := bnd hq4_1
                            refine code_cut (K := fun a w => s5_2 ≤ 140737488355327 ∧ Fr 83 [(5, (.pointer (some ⟨b0_2, 0, none⟩))), (7, (.pointer (some ⟨b0_3, 0, none⟩))), (9, (.int .i64 (s5_2)))] a ∧ Mem w0 (hp w0) w [blk b0_2 [(.int .i64 (x_.op)), (.int .i64 (x_.a_)), (.int .i64 (x_.b)), (.int .i64 (x_.c)), (.int .i64 (x_.n_))] 27, blk b0_3 [(.string ⟨(r0_1.1.name).b.toArray⟩), (.int .i64 (r0_1.1.fields))] 62]) ?_ ?_
                            ·
                              rcases bcases (s5_1) with h6_4 | h6_4
                              ·
                                replace hq5_2 := (ite_t h6_4).symm.trans hq5_2
                                refine cond_t hf rfl h6_4 ?_
                                refine wp_region_lit ?_
                                refine st_y hf rfl rfl rfl (y_fieldAddr fo_99_0 rfl rfl) ?_
                                clear hf a; intro a hf
                                refine st_y hf rfl rfl rfl (y_load1 Tryd.isAgg97 rfl rfl (hm.blk_cell 0 rfl rfl)) ?_
                                clear hf a; intro a hf
                                refine st_y hf rfl rfl rfl (y_move rfl rfl) ?_
                                clear hf a; intro a hf
                                obtain ⟨x6_1, hx6_1, hq5_2⟩ := bnd hq5_2
                                obtain ⟨h6_5, hx6_2⟩ := getI_some.1 hx6_1
                                obtain ⟨b6_1, o6_1, c6_1, he⟩ := idx_form' h1 hx6_2
                                subst he
                                obtain ⟨_, _, hc6_1, hr6_1⟩ := ro_get' h1 hx6_2
                                obtain ⟨_, _, rfl, rfl, _, _, rfl, rfl, h6_6⟩ := hr6_1
                                obtain ⟨v6_1, rfl, -⟩ := id h6_6
                                replace h6_6 : GT.rep (hp w0) [v6_1] x6_1.ins := h6_6
                                replace hc6_1 : CellsAt (hp w0) b6_1 (o6_1 + (k_).toNat * 3) [(.int .i64 (x6_1.params)), (.int .i64 (x6_1.slots)), v6_1] := hc6_1
                                refine st_y hf rfl rfl rfl (y_indexAddr st_97 rfl rfl rfl h6_5 (idx_lt hx6_2)) ?_
                                clear hf a; intro a hf
                                refine st_y hf rfl rfl rfl (y_fieldAddr fo_35_2 rfl rfl) ?_
                                clear hf a; intro a hf
                                refine st_y hf rfl rfl rfl (y_load1 Tryd.isAgg33 rfl rfl ((hc6_1.mono hm.lez).cell (j := 2) rfl)) ?_
                                clear hf a; intro a hf
                                obtain ⟨p6_1, c6_2, he, hl6_1⟩ := ro_slice h6_6
                                subst he
                                refine st_y hf rfl rfl rfl (y_len_slice st_33.und rfl rfl) ?_
                                clear hf a; intro a hf
                                refine st_y hf rfl rfl rfl (y_sub64 rfl rfl rfl (by omega) (by omega)) ?_
                                clear hf a; intro a hf
                                refine st_y hf rfl rfl rfl (y_assign rfl rfl) ?_
                                clear hf a; intro a hf
                                refine st_end ?_
                                refine x_then_n ?_
                                obtain rfl := Option.some.inj hq5_2
                                exact ⟨(by first | omega | (dsimp only; omega)), hf.sub ⟨rfl, rfl, rfl, trivial⟩, hm.pick [1, 2] (by decide) rfl⟩
                              ·
                                replace hq5_2 := (ite_f h6_4).symm.trans hq5_2
                                refine cond_f hf rfl h6_4 ?_
                                refine wp_skip ?_
                                refine x_then_n ?_
                                obtain rfl := Option.some.inj hq5_2
                                exact ⟨(by first | omega | (dsimp only; omega)), hf.sub ⟨rfl, rfl, rfl, trivial⟩, hm.pick [1, 2] (by decide) rfl⟩
                            ·
                              clear hf hm
                              rintro a w ⟨hn5_1, hf, hm⟩
                              refine x_then_n ?_
                              obtain rfl := Option.some.inj hq4_1
                              exact ⟨hf.sub ⟨rfl, rfl, rfl, trivial⟩, hm.pick [0, 1] (by decide) rfl⟩
                      ·
                        clear hf hm
                        rintro a w ⟨hf, hm⟩
                        refine x_then_n ?_
                        obtain rfl := Option.some.inj hq3_1
                        exact ⟨hf.sub ⟨rfl, rfl, rfl, trivial⟩, hm.pick [0, 1] (by decide) rfl⟩
                  ·
                    clear hf hm
                    rintro a w ⟨hf, hm⟩
                    refine x_then_n ?_
                    obtain rfl := Option.some.inj hq2_2
                    exact ⟨hf.sub ⟨rfl, rfl, rfl, trivial⟩, hm.pick [0, 1] (by decide) rfl⟩
              ·
                clear hf hm
                rintro a w ⟨hf, hm⟩
                refine x_then_n ?_
                obtain rfl := Option.some.inj hq1_1
                exact ⟨hf.sub ⟨rfl, rfl, rfl, trivial⟩, hm.pick [0, 1] (by decide) rfl⟩
        ·
          clear hf hm
          rintro a w ⟨hf, hm⟩
          refine x_blk_n ?_
          refine x_then_n ?_
          obtain rfl := Option.some.inj hq0_2
          exact ⟨hf.sub ⟨rfl, rfl, rfl, trivial⟩, hm.pick [0, 1] (by decide) rfl⟩
      ·
        clear hf hm
        rintro a w ⟨hf, hm⟩
        refine x_then_n ?_
        refine wp_seq ?_
        obtain ⟨s0_3, hq0_3, hq⟩ := bnd hq
        refine code_cut (K := fun a w => Fr 83 [(6, (.bool (s0_3)))] a ∧ Mem w0 (hp w0) w []) ?_ ?_
        ·
          refine wp_region_lit ?_
          refine st_y hf rfl rfl rfl (y_fieldAddr fo_62_1 rfl rfl) ?_
          clear hf a; intro a hf
          refine st_y hf rfl rfl rfl (y_load1 Tryd.isAgg3 rfl rfl (hm.blk_cell 1 rfl rfl)) ?_
          clear hf a; intro a hf
          refine st_y hf rfl rfl rfl (y_and rfl rfl rfl) ?_
          clear hf a; intro a hf
          refine st_y hf rfl rfl rfl (y_eql rfl rfl rfl) ?_
          clear hf a; intro a hf
          refine st_y hf rfl rfl rfl (y_move rfl rfl) ?_
          clear hf a; intro a hf
          rcases bcases (decide ((andI r0_1.1.fields 8) = 0)) with h1_10 | h1_10
          ·
            replace hq0_3 := (ite_t h1_10).symm.trans hq0_3
            have h1_11 := of_decide_eq_true h1_10
            refine st_no hf rfl rfl (lk_b rfl h1_10) rfl rfl rfl ?_
            clear hf a; intro a hf
            refine st_no hf rfl rfl (lk_b rfl h1_10) rfl rfl rfl ?_
            clear hf a; intro a hf
            refine st_no hf rfl rfl (lk_b rfl h1_10) rfl rfl rfl ?_
            clear hf a; intro a hf
            refine st_no hf rfl rfl (lk_b rfl h1_10) rfl rfl rfl ?_
            clear hf a; intro a hf
            refine st_y hf rfl rfl rfl (y_pick_t rfl (ev_b rfl h1_10) rfl) ?_
            clear hf a; intro a hf
            refine st_y hf rfl rfl rfl (y_assign rfl rfl) ?_
            clear hf a; intro a hf
            refine st_end ?_
            refine x_then_n ?_
            obtain rfl := Option.some.inj hq0_3
            exact ⟨hf.sub ⟨rfl, trivial⟩, hm.pick [] (by decide) rfl⟩
          ·
            replace hq0_3 := (ite_f h1_10).symm.trans hq0_3
            have h1_12 := of_decide_eq_false h1_10
            refine st_yg hf rfl rfl (lk_b rfl h1_10) rfl rfl (y_fieldAddr fo_27_4 rfl rfl) ?_
            clear hf a; intro a hf
            refine st_yg hf rfl rfl (lk_b rfl h1_10) rfl rfl (y_load1 Tryd.isAgg3 rfl rfl (hm.blk_cell 0 rfl rfl)) ?_
            clear hf a; intro a hf
            refine st_yg hf rfl rfl (lk_b rfl h1_10) rfl rfl (y_move rfl rfl) ?_
            clear hf a; intro a hf
            obtain ⟨r1_4, hx1_4, hq0_3⟩ := bnd hq0_3
            refine st_efg hf rfl rfl (lk_b rfl h1_10) rfl rfl (e_call hf rfl Tryd.call43 rfl (impl_within_ok _ x_.n_ 0 s0_2 _ hx1_4)) ?_
            clear hf a; rintro v1_4 w1_4 a ho1_4 hf
            obtain ⟨rfl, hB⟩ := ho1_4
            replace hm := hm.below' hB; clear hB
            refine st_y hf rfl rfl rfl (y_pick_f rfl (ev_b rfl h1_10) rfl) ?_
            clear hf a; intro a hf
            refine st_y hf rfl rfl rfl (y_assign rfl rfl) ?_
            clear hf a; intro a hf
            refine st_end ?_
            refine x_then_n ?_
            obtain rfl := Option.some.inj hq0_3
            exact ⟨hf.sub ⟨rfl, trivial⟩, hm.pick [] (by decide) rfl⟩
        ·
          clear hf hm
          rintro a w ⟨hf, hm⟩
          refine x_then_n ?_
          refine wp_ret ?_
          obtain rfl := Option.some.inj hq
          refine ret_tmp hf Tryd.results82 rfl ?_
          exact ⟨rfl, hm.below⟩

theorem impl_MachValid_1_ok (w0 : World) (x_ : Mins) (c0_ : Mach) (v1 : Value) (h1 : GT.rep (hp w0) [v1] c0_.fns) (bf0 : Nat) (hbf0 : w0.heap[bf0]? = some (.cells ([v1] : List Value).toArray 99 (0, 0))) (c1_ : Int) (bf1 : Nat) (hbf1 : w0.heap[bf1]? = some (.cells ([(.int .i64 (c1_))] : List Value).toArray 3 (0, 0))) (hG0 : GT.rep (hp w0) [.slice (some ⟨0, 0, none⟩) 23 23] glob_impl_forms) (r : Bool) (hq : impl_MachValid_1 x_ c0_ c1_ = some r) :
    Con Tryd.prog 81 [(.agg #[(.int .i64 (x_.op)), (.int .i64 (x_.a_)), (.int .i64 (x_.b)), (.int .i64 (x_.c)), (.int .i64 (x_.n_))]), (.pointer (some ⟨bf0, 0, none⟩)), (.pointer (some ⟨bf1, 0, none⟩))] w0 (fun v w' => v = (.bool (r)) ∧ Below w0.heap.size w0 w') := by
  unfold impl_MachValid_1 at hq
  refine con_body (l := [(0, (.agg #[(.int .i64 (x_.op)), (.int .i64 (x_.a_)), (.int .i64 (x_.b)), (.int .i64 (x_.c)), (.int .i64 (x_.n_))])), (1, (.pointer (some ⟨bf0, 0, none⟩))), (2, (.pointer (some ⟨bf1, 0, none⟩)))]) Tryd.func81 rfl Tryd.ntmps81 (Args.get ⟨rfl, rfl, rfl, trivial⟩) rfl ?_
  intro a hf
  have hm := Mem.start w0
  refine wp_seq ?_
  refine wp_region_lit ?_
  refine st_ef hf rfl rfl rfl (e_box hf hm rfl rfl rfl) ?_
  clear hf a; rintro _ w0_1 a ⟨b0_1, rfl, hm⟩ hf
  refine st_y hf rfl rfl rfl (y_assign rfl rfl) ?_
  clear hf a; intro a hf
  refine st_end ?_
  refine x_then_n ?_
  refine wp_seq ?_
  refine wp_region_lit ?_
  refine st_y hf rfl rfl rfl (y_loadN (cs := [v1]) Tryd.isAgg99 Tryd.sizeOf99 rfl rfl (hm.old_at hbf0)) ?_
  clear hf a; intro a hf
  refine st_y hf rfl rfl rfl (y_load1 Tryd.isAgg3 rfl rfl (hm.old_cell hbf1 rfl)) ?_
  clear hf a; intro a hf
  refine st_y hf rfl rfl rfl (y_loadN (cs := [(.int .i64 (x_.op)), (.int .i64 (x_.a_)), (.int .i64 (x_.b)), (.int .i64 (x_.c)), (.int .i64 (x_.n_))]) Tryd.isAgg27 Tryd.sizeOf27 rfl rfl (hm.blk_at 0 rfl)) ?_
  clear hf a; intro a hf
  obtain ⟨r0_1, hx0_1, hq⟩ := bnd hq
  refine st_ef hf rfl rfl rfl (e_call hf rfl Tryd.call82 rfl (impl_minsOk_ok _ c0_ v1 (hm.now h1) c1_ x_ (hm.now hG0) _ hx0_1)) ?_
  clear hf a; rintro v0_1 w0_2 a ho0_1 hf
  obtain ⟨rfl, hB⟩ := ho0_1
  replace hm := hm.below' hB; clear hB
  refine st_y hf rfl rfl rfl (y_not rfl rfl) ?_
  clear hf a; intro a hf
  refine st_y hf rfl rfl rfl (y_assign rfl rfl) ?_
  clear hf a; intro a hf
  refine st_end ?_
  refine x_then_n ?_
  refine wp_ret ?_
  obtain rfl := Option.some.inj hq
  refine ret_tmp hf Tryd.results81 rfl ?_
  exact ⟨rfl, hm.below⟩

theorem slices_IndexFunc_S_impl_Mins_impl_Mins_ok (w0 : World) (s_ : List Mins) (v1 : Value) (h1 : GT.rep (hp w0) [v1] s_) (f : Mins → Option Bool) (fv2 : Value) (hfn2 : ∀ (w : World) (y0 : Mins) (r : Bool), Below w0.heap.size w0 w → f y0 = some r → FnOk Tryd.prog fv2 [(.agg #[(.int .i64 (y0.op)), (.int .i64 (y0.a_)), (.int .i64 (y0.b)), (.int .i64 (y0.c)), (.int .i64 (y0.n_))])] w (fun v w' => v = (.bool (r)) ∧ Below w.heap.size w w')) (r : Int) (hq : slices_IndexFunc_S_impl_Mins_impl_Mins s_ f = some r) :
    Con Tryd.prog 87 [v1, fv2] w0 (fun v w' => v = (.int .i64 (r)) ∧ Below w0.heap.size w0 w') := by
  unfold slices_IndexFunc_S_impl_Mins_impl_Mins at hq
  refine con_body (l := [(0, v1), (1, fv2)]) Tryd.func87 rfl Tryd.ntmps87 (Args.get ⟨rfl, rfl, trivial⟩) rfl ?_
  intro a hf
  have hm := Mem.start w0
  refine wp_seq ?_
  refine wp_region_lit ?_
  refine st_y hf rfl rfl rfl (y_assign rfl rfl) ?_
  clear hf a; intro a hf
  refine st_end ?_
  refine x_then_n ?_
  refine wp_seq ?_
  refine wp_seq ?_
  refine wp_region_lit ?_
  refine st_y hf rfl rfl rfl (y_move rfl rfl) ?_
  clear hf a; intro a hf
  obtain ⟨p0_1, c0_1, he, hl0_1⟩ := ro_slice h1
  subst he
  refine st_y hf rfl rfl rfl (y_len_slice st_33.und rfl rfl) ?_
  clear hf a; intro a hf
  refine st_y hf rfl rfl rfl (y_move rfl rfl) ?_
  clear hf a; intro a hf
  refine st_end ?_
  refine x_then_n ?_
  refine wp_block ?_
  obtain ⟨r0_1, hl0_2, hq⟩ := bnd hq
  refine wp_forN _ (fun i1_1 xs1_1 a w => Fr 19 [(0, (.slice p0_1 s_.length c0_1)), (1, fv2), (7, (.int .i64 ((s_.length : Int)))), (8, (.int .i64 (i1_1)))] a ∧ Mem w0 (hp w0) w []) (0) ((s_.length : Int)) hl0_2 ?_ ?_ ?_
  ·
    exact ⟨hf.sub ⟨rfl, rfl, rfl, rfl, trivial⟩, hm.pick [] (by decide) rfl⟩
  ·
    clear hf hm
    rintro i1_1 xs1_1 a w ⟨hf, hm⟩ hi1_1 hi1_2 q0_1 hb0_1 ho0_1
    refine wp_seq ?_
    refine wp_region_lit ?_
    refine st_y hf rfl rfl rfl (y_lss rfl rfl rfl) ?_
    clear hf a; intro a hf
    refine st_end ?_
    refine x_then_n ?_
    refine wp_seq ?_
    refine cond_t hf rfl (decide_eq_true (by omega)) ?_
    refine wp_skip ?_
    refine x_then_n ?_
    refine wp_seq ?_
    refine wp_block ?_
    refine wp_seq ?_
    refine wp_region_lit ?_
    refine st_y hf rfl rfl rfl (y_move rfl rfl) ?_
    clear hf a; intro a hf
    refine st_y hf rfl rfl rfl (y_assign rfl rfl) ?_
    clear hf a; intro a hf
    refine st_end ?_
    refine x_then_n ?_
    refine wp_seq ?_
    refine wp_region_lit ?_
    refine st_y hf rfl rfl rfl (y_move rfl rfl) ?_
    clear hf a; intro a hf
    refine st_y hf rfl rfl rfl (y_move rfl rfl) ?_
    clear hf a; intro a hf
    refine st_y hf rfl rfl rfl (y_move rfl rfl) ?_
    clear hf a; intro a hf
    obtain ⟨x1_1, hx1_1, hb0_1⟩ := bnd hb0_1
    obtain ⟨h1_1, hx1_2⟩ := getI_some.1 hx1_1
    obtain ⟨b1_1, o1_1, c1_1, he⟩ := idx_form h1 hx1_2
    simp only [Value.slice.injEq, Option.some.injEq] at he; obtain ⟨rfl, _, rfl⟩ := he
    refine st_y hf rfl rfl rfl (y_indexAddr st_33 rfl rfl rfl h1_1 (idx_lt hx1_2)) ?_
    clear hf a; intro a hf
    refine st_y hf rfl rfl rfl (y_loadN (cs := [(.int .i64 (x1_1.op)), (.int .i64 (x1_1.a_)), (.int .i64 (x1_1.b)), (.int .i64 (x1_1.c)), (.int .i64 (x1_1.n_))]) Tryd.isAgg27 Tryd.sizeOf27 rfl rfl (flat_cells (cs := [(.int .i64 (x1_1.op)), (.int .i64 (x1_1.a_)), (.int .i64 (x1_1.b)), (.int .i64 (x1_1.c)), (.int .i64 (x1_1.n_))]) (hm.now h1) hx1_2 rfl)) ?_
    clear hf a; intro a hf
    obtain ⟨r1_1, hx1_3, hb0_1⟩ := bnd hb0_1
    refine st_ef hf rfl rfl rfl (e_callv hf rfl rfl rfl (hfn2 _ x1_1 _ hm.below hx1_3)) ?_
    clear hf a; rintro v1_1 w1_1 a ho1_1 hf
    obtain ⟨rfl, hB⟩ := ho1_1
    replace hm := hm.below' hB; clear hB
    refine st_end ?_
    refine x_then_n ?_
    rcases bcases (r1_1) with h1_2 | h1_2
    ·
      replace hb0_1 := (ite_t h1_2).symm.trans hb0_1
      refine cond_t hf rfl h1_2 ?_
      refine wp_seq ?_
      refine wp_region_lit ?_
      refine st_y hf rfl rfl rfl (y_move rfl rfl) ?_
      clear hf a; intro a hf
      refine st_y hf rfl rfl rfl (y_assign rfl rfl) ?_
      clear hf a; intro a hf
      refine st_end ?_
      refine x_then_n ?_
      refine wp_ret ?_
      refine x_blk_ret ?_
      refine x_then_ret ?_
      refine x_then_ret ?_
      refine x_blk_ret ?_
      refine x_then_ret ?_
      obtain rfl := Option.some.inj hb0_1
      obtain rfl := ho0_1 _ rfl
      replace hq := sum_r hq
      obtain rfl := Option.some.inj hq
      refine ret_tmp hf Tryd.results87 rfl ?_
      exact ⟨rfl, hm.below⟩
    ·
      replace hb0_1 := (ite_f h1_2).symm.trans hb0_1
      refine cond_f hf rfl h1_2 ?_
      refine wp_skip ?_
      refine x_blk_n ?_
      refine x_then_n ?_
      refine wp_region_lit ?_
      refine st_y hf rfl rfl rfl (y_add64 rfl rfl rfl (by omega) (by omega)) ?_
      clear hf a; intro a hf
      refine st_y hf rfl rfl rfl (y_move rfl rfl) ?_
      clear hf a; intro a hf
      refine st_end ?_
      refine x_then_n ?_
      obtain rfl := Option.some.inj hb0_1
      exact ⟨_, rfl, hf.sub ⟨rfl, rfl, rfl, rfl, trivial⟩, hm.pick [] (by decide) rfl⟩
  ·
    clear hf hm
    rintro i0_1 xs0_1 a w ⟨hf, hm⟩ hi0_1 hi0_2 rfl
    replace hq := sum_l hq
    refine wp_seq ?_
    refine wp_region_lit ?_
    refine st_y hf rfl rfl rfl (y_lss rfl rfl rfl) ?_
    clear hf a; intro a hf
    refine st_end ?_
    refine x_then_n ?_
    refine wp_seq ?_
    refine cond_f hf rfl (decide_eq_false (by omega)) ?_
    refine wp_exit ?_
    refine x_then_exit ?_
    refine x_then_exit ?_
    refine x_blk_hit ?_
    refine x_then_n ?_
    refine wp_seq ?_
    refine wp_region_lit ?_
    refine st_y hf rfl rfl rfl (y_assign rfl rfl) ?_
    clear hf a; intro a hf
    refine st_end ?_
    refine x_then_n ?_
    refine wp_ret ?_
    obtain rfl := Option.some.inj hq
    refine ret_tmp hf Tryd.results87 rfl ?_
    exact ⟨rfl, hm.below⟩

theorem slices_ContainsFunc_S_impl_Mins_impl_Mins_ok (w0 : World) (s_ : List Mins) (v1 : Value) (h1 : GT.rep (hp w0) [v1] s_) (f : Mins → Option Bool) (fv2 : Value) (hfn2 : ∀ (w : World) (y0 : Mins) (r : Bool), Below w0.heap.size w0 w → f y0 = some r → FnOk Tryd.prog fv2 [(.agg #[(.int .i64 (y0.op)), (.int .i64 (y0.a_)), (.int .i64 (y0.b)), (.int .i64 (y0.c)), (.int .i64 (y0.n_))])] w (fun v w' => v = (.bool (r)) ∧ Below w.heap.size w w')) (r : Bool) (hq : slices_ContainsFunc_S_impl_Mins_impl_Mins s_ f = some r) :
    Con Tryd.prog 80 [v1, fv2] w0 (fun v w' => v = (.bool (r)) ∧ Below w0.heap.size w0 w') := by
  unfold slices_ContainsFunc_S_impl_Mins_impl_Mins at hq
  refine con_body (l := [(0, v1), (1, fv2)]) Tryd.func80 rfl Tryd.ntmps80 (Args.get ⟨rfl, rfl, trivial⟩) rfl ?_
  intro a hf
  have hm := Mem.start w0
  refine wp_seq ?_
  refine wp_region_lit ?_
  refine st_y hf rfl rfl rfl (y_assign rfl rfl) ?_
  clear hf a; intro a hf
  refine st_end ?_
  refine x_then_n ?_
  refine wp_seq ?_
  refine wp_region_lit ?_
  refine st_y hf rfl rfl rfl (y_move rfl rfl) ?_
  clear hf a; intro a hf
  refine st_y hf rfl rfl rfl (y_move rfl rfl) ?_
  clear hf a; intro a hf
  obtain ⟨r0_1, hx0_1, hq⟩ := bnd hq
  refine st_ef hf rfl rfl rfl (e_call hf rfl Tryd.call87 rfl (slices_IndexFunc_S_impl_Mins_impl_Mins_ok _ s_ v1 (hm.now h1) f fv2 (fun w y0 r hB hq => hfn2 w y0 r (hm.below.trans (hB.mono hm.below.size)) hq) _ hx0_1)) ?_
  clear hf a; rintro v0_1 w0_1 a ho0_1 hf
  obtain ⟨rfl, hB⟩ := ho0_1
  replace hm := hm.below' hB; clear hB
  refine st_y hf rfl rfl rfl (y_geq rfl rfl rfl) ?_
  clear hf a; intro a hf
  refine st_y hf rfl rfl rfl (y_assign rfl rfl) ?_
  clear hf a; intro a hf
  refine st_end ?_
  refine x_then_n ?_
  refine wp_ret ?_
  obtain rfl := Option.some.inj hq
  refine ret_tmp hf Tryd.results80 rfl ?_
  exact ⟨rfl, hm.below⟩

theorem impl_MachValid_ok (w0 : World) (m : Mach) (v1 : Value) (h1 : GT.rep (hp w0) [v1] m.fns) (hG0 : GT.rep (hp w0) [.slice (some ⟨0, 0, none⟩) 23 23] glob_impl_forms) (r : Bool) (hq : impl_MachValid m = some r) :
    Con Tryd.prog 70 [(.agg #[v1])] w0 (fun v w' => v = (.bool (r)) ∧ Below w0.heap.size w0 w') := by
  unfold impl_MachValid at hq
  refine con_body (l := [(0, (.agg #[v1]))]) Tryd.func70 rfl Tryd.ntmps70 (Args.get ⟨rfl, trivial⟩) rfl ?_
  intro a hf
  have hm := Mem.start w0
  refine wp_seq ?_
  refine wp_region_lit ?_
  refine st_ef hf rfl rfl rfl (e_box hf hm rfl rfl rfl) ?_
  clear hf a; rintro _ w0_1 a ⟨b0_1, rfl, hm⟩ hf
  refine st_y hf rfl rfl rfl (y_assign rfl rfl) ?_
  clear hf a; intro a hf
  refine st_end ?_
  refine x_then_n ?_
  refine wp_seq ?_
  refine wp_seq ?_
  refine wp_region_lit ?_
  refine st_y hf rfl rfl rfl (y_fieldAddr fo_99_0 rfl rfl) ?_
  clear hf a; intro a hf
  refine st_y hf rfl rfl rfl (y_load1 Tryd.isAgg97 rfl rfl (hm.blk_cell 0 rfl rfl)) ?_
  clear hf a; intro a hf
  obtain ⟨p0_1, c0_1, he, hl0_1⟩ := ro_slice h1
  subst he
  refine st_y hf rfl rfl rfl (y_len_slice st_97.und rfl rfl) ?_
  clear hf a; intro a hf
  obtain ⟨r0_1, hx0_1, hq⟩ := bnd hq
  refine st_ef hf rfl rfl rfl (e_call hf rfl Tryd.call43 rfl (impl_within_ok _ (m.fns.length : Int) 1 4 _ hx0_1)) ?_
  clear hf a; rintro v0_1 w0_2 a ho0_1 hf
  obtain ⟨rfl, hB⟩ := ho0_1
  replace hm := hm.below' hB; clear hB
  refine st_y hf rfl rfl rfl (y_not rfl rfl) ?_
  clear hf a; intro a hf
  refine st_end ?_
  refine x_then_n ?_
  rcases bcases (!(r0_1)) with h0_1 | h0_1
  ·
    replace hq := (ite_t h0_1).symm.trans hq
    have h0_2 := bnot_t' h0_1
    refine cond_t hf rfl h0_1 ?_
    refine wp_seq ?_
    refine wp_region_lit ?_
    refine st_y hf rfl rfl rfl (y_assign rfl rfl) ?_
    clear hf a; intro a hf
    refine st_end ?_
    refine x_then_n ?_
    refine wp_ret ?_
    refine x_then_ret ?_
    obtain rfl := Option.some.inj hq
    refine ret_tmp hf Tryd.results70 rfl ?_
    exact ⟨rfl, hm.below⟩
  ·
    replace hq := (ite_f h0_1).symm.trans hq
    have h0_3 := bnot_f' h0_1
    refine cond_f hf rfl h0_1 ?_
    refine wp_skip ?_
    refine x_then_n ?_
    refine wp_seq ?_
    refine wp_region_lit ?_
    refine st_y hf rfl rfl rfl (y_assign rfl rfl) ?_
    clear hf a; intro a hf
    refine st_end ?_
    refine x_then_n ?_
    refine wp_seq ?_
    refine wp_seq ?_
    refine wp_region_lit ?_
    refine st_y hf rfl rfl rfl (y_fieldAddr fo_99_0 rfl rfl) ?_
    clear hf a; intro a hf
    refine st_y hf rfl rfl rfl (y_load1 Tryd.isAgg97 rfl rfl (hm.blk_cell 0 rfl rfl)) ?_
    clear hf a; intro a hf
    refine st_y hf rfl rfl rfl (y_len_slice st_97.und rfl rfl) ?_
    clear hf a; intro a hf
    refine st_y hf rfl rfl rfl (y_move rfl rfl) ?_
    clear hf a; intro a hf
    refine st_end ?_
    refine x_then_n ?_
    refine wp_block ?_
    obtain ⟨r0_2, hl0_2, hq⟩ := bnd hq
    refine wp_forN _ (fun i1_1 xs1_1 a w => Fr 63 [(1, (.pointer (some ⟨b0_1, 0, none⟩))), (3, (.int .i64 (xs1_1))), (13, (.slice p0_1 m.fns.length c0_1)), (14, (.int .i64 ((m.fns.length : Int)))), (15, (.int .i64 (i1_1)))] a ∧ Mem w0 (hp w0) w [blk b0_1 [(.slice p0_1 m.fns.length c0_1)] 99]) (0) ((m.fns.length : Int)) hl0_2 ?_ ?_ ?_
    ·
      exact ⟨hf.sub ⟨rfl, rfl, rfl, rfl, rfl, trivial⟩, hm.pick [0] (by decide) rfl⟩
    ·
      clear hf hm
      rintro i1_1 xs1_1 a w ⟨hf, hm⟩ hi1_1 hi1_2 q0_1 hb0_1 ho0_2
      refine wp_seq ?_
      refine wp_region_lit ?_
      refine st_y hf rfl rfl rfl (y_lss rfl rfl rfl) ?_
      clear hf a; intro a hf
      refine st_end ?_
      refine x_then_n ?_
      refine wp_seq ?_
      refine cond_t hf rfl (decide_eq_true (by omega)) ?_
      refine wp_skip ?_
      refine x_then_n ?_
      refine wp_seq ?_
      refine wp_block ?_
      refine wp_seq ?_
      refine wp_region_lit ?_
      refine st_y hf rfl rfl rfl (y_move rfl rfl) ?_
      clear hf a; intro a hf
      obtain ⟨x1_1, hx1_1, hb0_1⟩ := bnd hb0_1
      obtain ⟨h1_1, hx1_2⟩ := getI_some.1 hx1_1
      obtain ⟨b1_1, o1_1, c1_1, he⟩ := idx_form' h1 hx1_2
      simp only [Value.slice.injEq, Option.some.injEq] at he; obtain ⟨rfl, _, rfl⟩ := he
      obtain ⟨_, _, hc1_1, hr1_1⟩ := ro_get' h1 hx1_2
      obtain ⟨_, _, rfl, rfl, _, _, rfl, rfl, h1_2⟩ := hr1_1
      obtain ⟨v1_1, rfl, -⟩ := id h1_2
      replace h1_2 : GT.rep (hp w0) [v1_1] x1_1.ins := h1_2
      replace hc1_1 : CellsAt (hp w0) b1_1 (o1_1 + (i1_1).toNat * 3) [(.int .i64 (x1_1.params)), (.int .i64 (x1_1.slots)), v1_1] := hc1_1
      refine st_y hf rfl rfl rfl (y_indexAddr st_97 rfl rfl rfl h1_1 (idx_lt hx1_2)) ?_
      clear hf a; intro a hf
      refine st_y hf rfl rfl rfl (y_loadN (cs := [(.int .i64 (x1_1.params)), (.int .i64 (x1_1.slots)), v1_1]) Tryd.isAgg35 Tryd.sizeOf35 rfl rfl (hc1_1.mono hm.lez)) ?_
      clear hf a; intro a hf
      refine st_ef hf rfl rfl rfl (e_alloc hm Tryd.zeroValue3 rfl rfl) ?_
      clear hf a; rintro _ w1_1 a ⟨b1_2, rfl, hm⟩ hf
      refine st_ef hf rfl rfl rfl (e_alloc hm Tryd.zeroValue35 rfl rfl) ?_
      clear hf a; rintro _ w1_2 a ⟨b1_3, rfl, hm⟩ hf
      refine st_ef0 hf rfl rfl (e_store1 1 hf hm rfl Tryd.sizeOf3 rfl rfl rfl rfl rfl) ?_
      clear hf a; rintro _ w1_3 a hm hf
      refine st_ef0 hf rfl rfl (e_storeN 0 hf hm rfl Tryd.sizeOf35 rfl rfl rfl (one_cons rfl (one_cons rfl (one_cons (rep_one h1_2) one_nil))) rfl rfl) ?_
      clear hf a; rintro _ w1_4 a hm hf
      refine st_end ?_
      refine x_then_n ?_
      refine wp_seq ?_
      refine wp_region_lit ?_
      refine st_y hf rfl rfl rfl (y_move rfl rfl) ?_
      clear hf a; intro a hf
      refine st_y hf rfl rfl rfl (y_fieldAddr fo_35_2 rfl rfl) ?_
      clear hf a; intro a hf
      refine st_y hf rfl rfl rfl (y_load1 Tryd.isAgg33 rfl rfl (hm.blk_cell 0 rfl rfl)) ?_
      clear hf a; intro a hf
      obtain ⟨p1_1, c1_2, he, hl1_1⟩ := ro_slice h1_2
      subst he
      refine st_y hf rfl rfl rfl (y_len_slice st_33.und rfl rfl) ?_
      clear hf a; intro a hf
      refine st_y hf rfl rfl rfl (y_addw rfl rfl rfl) ?_
      clear hf a; intro a hf
      refine st_y hf rfl rfl rfl (y_assign rfl rfl) ?_
      clear hf a; intro a hf
      refine st_end ?_
      refine x_then_n ?_
      refine wp_seq ?_
      refine wp_seq ?_
      obtain ⟨s1_1, hq1_1, hb0_1⟩ := bnd hb0_1
      refine code_cut (K := fun a w => Fr 63 [(1, (.pointer (some ⟨b0_1, 0, none⟩))), (3, (.int .i64 (w64 (xs1_1 + ((x1_1.ins.length : Int)))))), (4, (.pointer (some ⟨b1_2, 0, none⟩))), (5, (.pointer (some ⟨b1_3, 0, none⟩))), (13, (.slice (some ⟨b1_1, o1_1, none⟩) m.fns.length c0_1)), (14, (.int .i64 ((m.fns.length : Int)))), (15, (.int .i64 (i1_1))), (40, (.bool (s1_1)))] a ∧ Mem w0 (hp w0) w [blk b0_1 [(.slice (some ⟨b1_1, o1_1, none⟩) m.fns.length c0_1)] 99, blk b1_2 [(.int .i64 (i1_1))] 3, blk b1_3 [(.int .i64 (x1_1.params)), (.int .i64 (x1_1.slots)), (.slice p1_1 x1_1.ins.length c1_2)] 35]) ?_ ?_
      ·
        refine wp_region_lit ?_
        refine st_y hf rfl rfl rfl (y_fieldAddr fo_35_0 rfl rfl) ?_
        clear hf a; intro a hf
        refine st_y hf rfl rfl rfl (y_load1 Tryd.isAgg3 rfl rfl (hm.blk_cell 0 rfl rfl)) ?_
        clear hf a; intro a hf
        obtain ⟨r2_1, hx2_1, hq1_1⟩ := bnd hq1_1
        refine st_ef hf rfl rfl rfl (e_call hf rfl Tryd.call43 rfl (impl_within_ok _ x1_1.params 0 3 _ hx2_1)) ?_
        clear hf a; rintro v2_1 w2_1 a ho2_1 hf
        obtain ⟨rfl, hB⟩ := ho2_1
        replace hm := hm.below' hB; clear hB
        refine st_y hf rfl rfl rfl (y_not rfl rfl) ?_
        clear hf a; intro a hf
        refine st_y hf rfl rfl rfl (y_move rfl rfl) ?_
        clear hf a; intro a hf
        rcases bcases (!(r2_1)) with h2_1 | h2_1
        ·
          replace hq1_1 := (ite_t h2_1).symm.trans hq1_1
          have h2_2 := bnot_t' h2_1
          refine st_no hf rfl rfl (lk_b rfl h2_1) rfl rfl rfl ?_
          clear hf a; intro a hf
          refine st_no hf rfl rfl (lk_b rfl h2_1) rfl rfl rfl ?_
          clear hf a; intro a hf
          refine st_no hf rfl rfl (lk_b rfl h2_1) rfl rfl rfl ?_
          clear hf a; intro a hf
          refine st_no hf rfl rfl (lk_b rfl h2_1) rfl rfl rfl ?_
          clear hf a; intro a hf
          refine st_y hf rfl rfl rfl (y_pick_t rfl (ev_b rfl h2_1) rfl) ?_
          clear hf a; intro a hf
          refine st_y hf rfl rfl rfl (y_move rfl rfl) ?_
          clear hf a; intro a hf
          refine st_no hf rfl rfl (lk_b rfl rfl) rfl rfl rfl ?_
          clear hf a; intro a hf
          refine st_no hf rfl rfl (lk_b rfl rfl) rfl rfl rfl ?_
          clear hf a; intro a hf
          refine st_no hf rfl rfl (lk_b rfl rfl) rfl rfl rfl ?_
          clear hf a; intro a hf
          refine st_no hf rfl rfl (lk_b rfl rfl) rfl rfl rfl ?_
          clear hf a; intro a hf
          refine st_y hf rfl rfl rfl (y_pick_t rfl (ev_b rfl rfl) rfl) ?_
          clear hf a; intro a hf
          refine st_end ?_
          refine x_then_n ?_
          obtain rfl := Option.some.inj hq1_1
          exact ⟨hf.sub ⟨rfl, rfl, rfl, rfl, rfl, rfl, rfl, rfl, trivial⟩, hm.pick [2, 1, 0] (by decide) rfl⟩
        ·
          replace hq1_1 := (ite_f h2_1).symm.trans hq1_1
          have h2_3 := bnot_f' h2_1
          refine st_yg hf rfl rfl (lk_b rfl h2_1) rfl rfl (y_fieldAddr fo_35_1 rfl rfl) ?_
          clear hf a; intro a hf
          refine st_yg hf rfl rfl (lk_b rfl h2_1) rfl rfl (y_load1 Tryd.isAgg3 rfl rfl (hm.blk_cell 0 rfl rfl)) ?_
          clear hf a; intro a hf
          obtain ⟨r2_2, hx2_2, hq1_1⟩ := bnd hq1_1
          refine st_efg hf rfl rfl (lk_b rfl h2_1) rfl rfl (e_call hf rfl Tryd.call43 rfl (impl_within_ok _ x1_1.slots 0 64 _ hx2_2)) ?_
          clear hf a; rintro v2_2 w2_2 a ho2_2 hf
          obtain ⟨rfl, hB⟩ := ho2_2
          replace hm := hm.below' hB; clear hB
          refine st_yg hf rfl rfl (lk_b rfl h2_1) rfl rfl (y_not rfl rfl) ?_
          clear hf a; intro a hf
          refine st_y hf rfl rfl rfl (y_pick_f rfl (ev_b rfl h2_1) rfl) ?_
          clear hf a; intro a hf
          refine st_y hf rfl rfl rfl (y_move rfl rfl) ?_
          clear hf a; intro a hf
          rcases bcases (!(r2_2)) with h2_4 | h2_4
          ·
            replace hq1_1 := (ite_t h2_4).symm.trans hq1_1
            have h2_5 := bnot_t' h2_4
            refine st_no hf rfl rfl (lk_b rfl h2_4) rfl rfl rfl ?_
            clear hf a; intro a hf
            refine st_no hf rfl rfl (lk_b rfl h2_4) rfl rfl rfl ?_
            clear hf a; intro a hf
            refine st_no hf rfl rfl (lk_b rfl h2_4) rfl rfl rfl ?_
            clear hf a; intro a hf
            refine st_no hf rfl rfl (lk_b rfl h2_4) rfl rfl rfl ?_
            clear hf a; intro a hf
            refine st_y hf rfl rfl rfl (y_pick_t rfl (ev_b rfl h2_4) rfl) ?_
            clear hf a; intro a hf
            refine st_end ?_
            refine x_then_n ?_
            obtain rfl := Option.some.inj hq1_1
            exact ⟨hf.sub ⟨rfl, rfl, rfl, rfl, rfl, rfl, rfl, rfl, trivial⟩, hm.pick [2, 1, 0] (by decide) rfl⟩
          ·
            replace hq1_1 := (ite_f h2_4).symm.trans hq1_1
            have h2_6 := bnot_f' h2_4
            refine st_yg hf rfl rfl (lk_b rfl h2_4) rfl rfl (y_fieldAddr fo_35_2 rfl rfl) ?_
            clear hf a; intro a hf
            refine st_yg hf rfl rfl (lk_b rfl h2_4) rfl rfl (y_load1 Tryd.isAgg33 rfl rfl (hm.blk_cell 0 rfl rfl)) ?_
            clear hf a; intro a hf
            refine st_yg hf rfl rfl (lk_b rfl h2_4) rfl rfl (y_len_slice st_33.und rfl rfl) ?_
            clear hf a; intro a hf
            refine st_yg hf rfl rfl (lk_b rfl h2_4) rfl rfl (y_eql rfl rfl rfl) ?_
            clear hf a; intro a hf
            refine st_y hf rfl rfl rfl (y_pick_f rfl (ev_b rfl h2_4) rfl) ?_
            clear hf a; intro a hf
            refine st_end ?_
            refine x_then_n ?_
            obtain rfl := Option.some.inj hq1_1
            exact ⟨hf.sub ⟨rfl, rfl, rfl, rfl, rfl, rfl, rfl, rfl, trivial⟩, hm.pick [2, 1, 0] (by decide) rfl⟩
      ·
        clear hf hm
        rintro a w ⟨hf, hm⟩
        refine x_then_n ?_
        rcases bcases (s1_1) with h1_3 | h1_3
        ·
          replace hb0_1 := (ite_t h1_3).symm.trans hb0_1
          refine cond_t hf rfl h1_3 ?_
          refine wp_seq ?_
          refine wp_region_lit ?_
          refine st_y hf rfl rfl rfl (y_assign rfl rfl) ?_
          clear hf a; intro a hf
          refine st_end ?_
          refine x_then_n ?_
          refine wp_ret ?_
          refine x_then_ret ?_
          refine x_blk_ret ?_
          refine x_then_ret ?_
          refine x_then_ret ?_
          refine x_blk_ret ?_
          refine x_then_ret ?_
          obtain rfl := Option.some.inj hb0_1
          obtain rfl := ho0_2 _ rfl
          replace hq := sum_r hq
          obtain rfl := Option.some.inj hq
          refine ret_tmp hf Tryd.results70 rfl ?_
          exact ⟨rfl, hm.below⟩
        ·
          replace hb0_1 := (ite_f h1_3).symm.trans hb0_1
          refine cond_f hf rfl h1_3 ?_
          refine wp_skip ?_
          refine x_then_n ?_
          refine wp_seq ?_
          refine wp_seq ?_
          refine wp_region_lit ?_
          refine st_y hf rfl rfl rfl (y_fieldAddr fo_35_2 rfl rfl) ?_
          clear hf a; intro a hf
          refine st_y hf rfl rfl rfl (y_load1 Tryd.isAgg33 rfl rfl (hm.blk_cell 2 rfl rfl)) ?_
          clear hf a; intro a hf
          refine st_y hf rfl rfl rfl (y_fieldAddr fo_35_2 rfl rfl) ?_
          clear hf a; intro a hf
          refine st_y hf rfl rfl rfl (y_load1 Tryd.isAgg33 rfl rfl (hm.blk_cell 2 rfl rfl)) ?_
          clear hf a; intro a hf
          refine st_y hf rfl rfl rfl (y_len_slice st_33.und rfl rfl) ?_
          clear hf a; intro a hf
          refine st_y hf rfl rfl rfl (y_sub64 rfl rfl rfl (by omega) (by omega)) ?_
          clear hf a; intro a hf
          obtain ⟨x1_2, hx1_3, hb0_1⟩ := bnd hb0_1
          obtain ⟨h1_4, hx1_4⟩ := getI_some.1 hx1_3
          obtain ⟨b1_4, o1_2, c1_3, he⟩ := idx_form h1_2 hx1_4
          simp only [Value.slice.injEq, Option.some.injEq] at he; obtain ⟨rfl, _, rfl⟩ := he
          refine st_y hf rfl rfl rfl (y_indexAddr st_33 rfl rfl rfl h1_4 (idx_lt hx1_4)) ?_
          clear hf a; intro a hf
          refine st_y hf rfl rfl rfl (y_fieldAddr fo_27_0 rfl rfl) ?_
          clear hf a; intro a hf
          refine st_y hf rfl rfl rfl (y_load1 Tryd.isAgg3 rfl rfl ((flat_cells (cs := [(.int .i64 (x1_2.op)), (.int .i64 (x1_2.a_)), (.int .i64 (x1_2.b)), (.int .i64 (x1_2.c)), (.int .i64 (x1_2.n_))]) (hm.now h1_2) hx1_4 rfl).cell (j := 0) rfl)) ?_
          clear hf a; intro a hf
          refine st_y hf rfl rfl rfl (y_assign rfl rfl) ?_
          clear hf a; intro a hf
          refine st_end ?_
          refine x_then_n ?_
          refine wp_seq ?_
          obtain ⟨s1_2, hq1_2, hb0_1⟩ := bnd hb0_1
          refine code_cut (K := fun a w => Fr 63 [(1, (.pointer (some ⟨b0_1, 0, none⟩))), (3, (.int .i64 (w64 (xs1_1 + ((x1_1.ins.length : Int)))))), (4, (.pointer (some ⟨b1_2, 0, none⟩))), (5, (.pointer (some ⟨b1_3, 0, none⟩))), (13, (.slice (some ⟨b1_1, o1_1, none⟩) m.fns.length c0_1)), (14, (.int .i64 ((m.fns.length : Int)))), (15, (.int .i64 (i1_1))), (55, (.bool (s1_2)))] a ∧ Mem w0 (hp w0) w [blk b0_1 [(.slice (some ⟨b1_1, o1_1, none⟩) m.fns.length c0_1)] 99, blk b1_2 [(.int .i64 (i1_1))] 3, blk b1_3 [(.int .i64 (x1_1.params)), (.int .i64 (x1_1.slots)), (.slice (some ⟨b1_4, o1_2, none⟩) x1_1.ins.length c1_2)] 35]) ?_ ?_
          ·
            refine wp_region_lit ?_
            refine st_y hf rfl rfl rfl (y_move rfl rfl) ?_
            clear hf a; intro a hf
            refine st_y hf rfl rfl rfl (y_neq rfl rfl rfl) ?_
            clear hf a; intro a hf
            refine st_y hf rfl rfl rfl (y_move rfl rfl) ?_
            clear hf a; intro a hf
            rcases bcases (decide (x1_2.op ≠ 20)) with h2_7 | h2_7
            ·
              replace hq1_2 := (ite_t h2_7).symm.trans hq1_2
              have h2_8 := of_decide_eq_true h2_7
              refine st_yg hf rfl rfl (lk_b rfl h2_7) rfl rfl (y_move rfl rfl) ?_
              clear hf a; intro a hf
              refine st_yg hf rfl rfl (lk_b rfl h2_7) rfl rfl (y_neq rfl rfl rfl) ?_
              clear hf a; intro a hf
              refine st_y hf rfl rfl rfl (y_pick_t rfl (ev_b rfl h2_7) rfl) ?_
              clear hf a; intro a hf
              refine st_end ?_
              refine x_then_n ?_
              obtain rfl := Option.some.inj hq1_2
              exact ⟨hf.sub ⟨rfl, rfl, rfl, rfl, rfl, rfl, rfl, rfl, trivial⟩, hm.pick [0, 1, 2] (by decide) rfl⟩
            ·
              replace hq1_2 := (ite_f h2_7).symm.trans hq1_2
              have h2_9 := of_decide_eq_false h2_7
              refine st_no hf rfl rfl (lk_b rfl h2_7) rfl rfl rfl ?_
              clear hf a; intro a hf
              refine st_no hf rfl rfl (lk_b rfl h2_7) rfl rfl rfl ?_
              clear hf a; intro a hf
              refine st_y hf rfl rfl rfl (y_pick_f rfl (ev_b rfl h2_7) rfl) ?_
              clear hf a; intro a hf
              refine st_end ?_
              refine x_then_n ?_
              obtain rfl := Option.some.inj hq1_2
              exact ⟨hf.sub ⟨rfl, rfl, rfl, rfl, rfl, rfl, rfl, rfl, trivial⟩, hm.pick [0, 1, 2] (by decide) rfl⟩
          ·
            clear hf hm
            rintro a w ⟨hf, hm⟩
            refine x_then_n ?_
            rcases bcases (s1_2) with h1_5 | h1_5
            ·
              replace hb0_1 := (ite_t h1_5).symm.trans hb0_1
              refine cond_t hf rfl h1_5 ?_
              refine wp_seq ?_
              refine wp_region_lit ?_
              refine st_y hf rfl rfl rfl (y_assign rfl rfl) ?_
              clear hf a; intro a hf
              refine st_end ?_
              refine x_then_n ?_
              refine wp_ret ?_
              refine x_then_ret ?_
              refine x_blk_ret ?_
              refine x_then_ret ?_
              refine x_then_ret ?_
              refine x_blk_ret ?_
              refine x_then_ret ?_
              obtain rfl := Option.some.inj hb0_1
              obtain rfl := ho0_2 _ rfl
              replace hq := sum_r hq
              obtain rfl := Option.some.inj hq
              refine ret_tmp hf Tryd.results70 rfl ?_
              exact ⟨rfl, hm.below⟩
            ·
              replace hb0_1 := (ite_f h1_5).symm.trans hb0_1
              refine cond_f hf rfl h1_5 ?_
              refine wp_skip ?_
              refine x_then_n ?_
              refine wp_seq ?_
              refine wp_region_lit ?_
              refine st_y hf rfl rfl rfl (y_fieldAddr fo_35_2 rfl rfl) ?_
              clear hf a; intro a hf
              refine st_y hf rfl rfl rfl (y_load1 Tryd.isAgg33 rfl rfl (hm.blk_cell 2 rfl rfl)) ?_
              clear hf a; intro a hf
              refine st_y hf rfl rfl rfl (y_makeFunc rfl rfl) ?_
              clear hf a; intro a hf
              obtain ⟨r1_1, hx1_5, hb0_1⟩ := bnd hb0_1
              refine st_ef hf rfl rfl rfl (e_call hf rfl Tryd.call80 rfl (slices_ContainsFunc_S_impl_Mins_impl_Mins_ok _ x1_1.ins (.slice (some ⟨b1_4, o1_2, none⟩) x1_1.ins.length c1_2) (hm.now h1_2) (fun y0 => impl_MachValid_1 y0 m i1_1) (.func (.func 81) #[] #[(.pointer (some ⟨b0_1, 0, none⟩)), (.pointer (some ⟨b1_2, 0, none⟩))]) (fun w y0 r hB hq => ⟨81, [(.pointer (some ⟨b0_1, 0, none⟩)), (.pointer (some ⟨b1_2, 0, none⟩))], rfl, Tryd.call81, impl_MachValid_1_ok w y0 m (.slice (some ⟨b1_1, o1_1, none⟩) m.fns.length c0_1) (rep_later (hm.now h1) hB) b0_1 (hm.blk_later 0 rfl hB) i1_1 b1_2 (hm.blk_later 1 rfl hB) (rep_later (hm.now hG0) hB) r hq⟩) _ hx1_5)) ?_
              clear hf a; rintro v1_2 w1_5 a ho1_1 hf
              obtain ⟨rfl, hB⟩ := ho1_1
              replace hm := hm.below' hB; clear hB
              refine st_end ?_
              refine x_then_n ?_
              rcases bcases (r1_1) with h1_6 | h1_6
              ·
                replace hb0_1 := (ite_t h1_6).symm.trans hb0_1
                refine cond_t hf rfl h1_6 ?_
                refine wp_seq ?_
                refine wp_region_lit ?_
                refine st_y hf rfl rfl rfl (y_assign rfl rfl) ?_
                clear hf a; intro a hf
                refine st_end ?_
                refine x_then_n ?_
                refine wp_ret ?_
                refine x_blk_ret ?_
                refine x_then_ret ?_
                refine x_then_ret ?_
                refine x_blk_ret ?_
                refine x_then_ret ?_
                obtain rfl := Option.some.inj hb0_1
                obtain rfl := ho0_2 _ rfl
                replace hq := sum_r hq
                obtain rfl := Option.some.inj hq
                refine ret_tmp hf Tryd.results70 rfl ?_
                exact ⟨rfl, hm.below⟩
              ·
                replace hb0_1 := (ite_f h1_6).symm.trans hb0_1
                refine cond_f hf rfl h1_6 ?_
                refine wp_skip ?_
                refine x_blk_n ?_
                refine x_then_n ?_
                refine wp_region_lit ?_
                refine st_y hf rfl rfl rfl (y_add64 rfl rfl rfl (by omega) (by omega)) ?_
                clear hf a; intro a hf
                refine st_y hf rfl rfl rfl (y_move rfl rfl) ?_
                clear hf a; intro a hf
                refine st_end ?_
                refine x_then_n ?_
                obtain rfl := Option.some.inj hb0_1
                exact ⟨_, rfl, hf.sub ⟨rfl, rfl, rfl, rfl, rfl, trivial⟩, hm.pick [0] (by decide) rfl⟩
    ·
      clear hf hm
      rintro i0_1 xs0_1 a w ⟨hf, hm⟩ hi0_1 hi0_2 rfl
      replace hq := sum_l hq
      refine wp_seq ?_
      refine wp_region_lit ?_
      refine st_y hf rfl rfl rfl (y_lss rfl rfl rfl) ?_
      clear hf a; intro a hf
      refine st_end ?_
      refine x_then_n ?_
      refine wp_seq ?_
      refine cond_f hf rfl (decide_eq_false (by omega)) ?_
      refine wp_exit ?_
      refine x_then_exit ?_
      refine x_then_exit ?_
      refine x_blk_hit ?_
      refine x_then_n ?_
      refine wp_seq ?_
      refine wp_region_lit ?_
      refine st_y hf rfl rfl rfl (y_move rfl rfl) ?_
      clear hf a; intro a hf
      refine st_y hf rfl rfl rfl (y_leq rfl rfl rfl) ?_
      clear hf a; intro a hf
      refine st_y hf rfl rfl rfl (y_assign rfl rfl) ?_
      clear hf a; intro a hf
      refine st_end ?_
      refine x_then_n ?_
      refine wp_ret ?_
      obtain rfl := Option.some.inj hq
      refine ret_tmp hf Tryd.results70 rfl ?_
      exact ⟨rfl, hm.below⟩

theorem pimpl_layout__settle_ok (w0 : World) (hz : Heap) (l_ : layout) (bp0 : Nat) (v1p : Value) (h1p : GT.rep hz [v1p] l_.f.ins) (v2p : Value) (v3p : Value) (v4p : Value) (hm0 : Mem w0 hz w0 [blk bp0 [(.int .i64 (l_.f.params)), (.int .i64 (l_.f.slots)), v1p, v2p, v3p, v4p, (.int .i64 (l_.size))] 70, ow [v2p] l_.long, ow [v3p] l_.sizes, ow [v4p] l_.places]) (r : layout) (hq : pimpl_layout__settle l_ = some r) :
    Con Tryd.prog 71 [(.pointer (some ⟨bp0, 0, none⟩))] w0 (fun v w' => ∃ (x2 : Value) (x3 : Value) (x4 : Value), v = (.tuple #[]) ∧ Mem w0 hz w' [blk bp0 [(.int .i64 (r.f.params)), (.int .i64 (r.f.slots)), v1p, x2, x3, x4, (.int .i64 (r.size))] 70, ow [x2] r.long, ow [x3] r.sizes, ow [x4] r.places]) := by
  unfold pimpl_layout__settle at hq
  refine con_body (l := [(0, (.pointer (some ⟨bp0, 0, none⟩)))]) Tryd.func71 rfl Tryd.ntmps71 (Args.get ⟨rfl, trivial⟩) rfl ?_
  intro a hf
  have hm := hm0
  refine wp_seq ?_
  refine wp_region_lit ?_
  refine st_y hf rfl rfl rfl (y_move rfl rfl) ?_
  clear hf a; intro a hf
  refine st_y hf rfl rfl rfl (y_move rfl rfl) ?_
  clear hf a; intro a hf
  refine st_y hf rfl rfl rfl (y_move rfl rfl) ?_
  clear hf a; intro a hf
  refine st_y hf rfl rfl rfl (y_nilptr rfl rfl) ?_
  clear hf a; intro a hf
  refine st_y hf rfl rfl rfl (y_fieldAddr fo_70_2 rfl rfl) ?_
  clear hf a; intro a hf
  refine st_ef0 hf rfl rfl (e_store1 0 hf hm rfl Tryd.sizeOf46 rfl rfl rfl rfl rfl) ?_
  clear hf a; rintro _ w0_1 a hm hf
  refine st_y hf rfl rfl rfl (y_nilptr rfl rfl) ?_
  clear hf a; intro a hf
  refine st_y hf rfl rfl rfl (y_fieldAddr fo_70_3 rfl rfl) ?_
  clear hf a; intro a hf
  refine st_ef0 hf rfl rfl (e_store1 0 hf hm rfl Tryd.sizeOf46 rfl rfl rfl rfl rfl) ?_
  clear hf a; rintro _ w0_2 a hm hf
  refine st_y hf rfl rfl rfl (y_nilptr rfl rfl) ?_
  clear hf a; intro a hf
  refine st_y hf rfl rfl rfl (y_fieldAddr fo_70_4 rfl rfl) ?_
  clear hf a; intro a hf
  refine st_ef0 hf rfl rfl (e_store1 0 hf hm rfl Tryd.sizeOf3 rfl rfl rfl rfl rfl) ?_
  clear hf a; rintro _ w0_3 a hm hf
  refine st_end ?_
  refine x_then_n ?_
  refine wp_seq ?_
  refine wp_region_lit ?_
  refine st_y hf rfl rfl rfl (y_move rfl rfl) ?_
  clear hf a; intro a hf
  refine st_y hf rfl rfl rfl (y_nilptr rfl rfl) ?_
  clear hf a; intro a hf
  refine st_y hf rfl rfl rfl (y_fieldAddr fo_70_0 rfl rfl) ?_
  clear hf a; intro a hf
  refine st_y hf rfl rfl rfl (y_fieldAddr fo_35_2 rfl rfl) ?_
  clear hf a; intro a hf
  refine st_y hf rfl rfl rfl (y_load1 Tryd.isAgg33 rfl rfl (hm.blk_cell 0 rfl rfl)) ?_
  clear hf a; intro a hf
  obtain ⟨p0_1, c0_1, he, hl0_1⟩ := ro_slice h1p
  subst he
  refine st_y hf rfl rfl rfl (y_len_slice st_33.und rfl rfl) ?_
  clear hf a; intro a hf
  refine st_y hf rfl rfl rfl (y_move rfl rfl) ?_
  clear hf a; intro a hf
  refine st_end ?_
  refine x_then_n ?_
  obtain ⟨p0_2, c0_2, he, hl0_2⟩ := ro_slice (hm.ow_rep 1 rfl)
  subst he
  refine wp_block ?_
  obtain ⟨r0_1, hl0_3, hq⟩ := bnd hq
  refine wp_forN _ (fun i1_1 xs1_1 a w => ∃ (v1_1 : Value) (v1_2 : Value), Fr 78 [(0, (.pointer (some ⟨bp0, 0, none⟩))), (18, (.slice p0_1 l_.f.ins.length c0_1)), (19, (.int .i64 ((l_.f.ins.length : Int)))), (20, (.int .i64 (i1_1)))] a ∧ Mem w0 hz w [blk bp0 [(.int .i64 (l_.f.params)), (.int .i64 (l_.f.slots)), (.slice p0_1 l_.f.ins.length c0_1), (.slice p0_2 l_.long.length c0_2), v1_1, v1_2, (.int .i64 (xs1_1.2.2))] 70, ow [(.slice p0_2 l_.long.length c0_2)] l_.long, ow [v1_1] xs1_1.1, ow [v1_2] xs1_1.2.1]) (0) ((l_.f.ins.length : Int)) hl0_3 ?_ ?_ ?_
  ·
    have hm := hm.nilow (α := Int)
    have hm := hm.nilow (α := Int)
    exact ⟨(.slice none 0 0), (.slice none 0 0), hf.sub ⟨rfl, rfl, rfl, rfl, trivial⟩, hm.pick [2, 3, 1, 0] (by decide) rfl⟩
  ·
    clear hf hm
    rintro i1_1 xs1_1 a w ⟨v1_1, v1_2, hf, hm⟩ hi1_1 hi1_2 q0_1 hb0_1 ho0_1
    refine wp_seq ?_
    refine wp_region_lit ?_
    refine st_y hf rfl rfl rfl (y_lss rfl rfl rfl) ?_
    clear hf a; intro a hf
    refine st_end ?_
    refine x_then_n ?_
    refine wp_seq ?_
    refine cond_t hf rfl (decide_eq_true (by omega)) ?_
    refine wp_skip ?_
    refine x_then_n ?_
    refine wp_seq ?_
    refine wp_block ?_
    refine wp_seq ?_
    refine wp_region_lit ?_
    refine st_y hf rfl rfl rfl (y_move rfl rfl) ?_
    clear hf a; intro a hf
    obtain ⟨x1_1, hx1_1, hb0_1⟩ := bnd hb0_1
    obtain ⟨h1_1, hx1_2⟩ := getI_some.1 hx1_1
    obtain ⟨b1_1, o1_1, c1_1, he⟩ := idx_form h1p hx1_2
    simp only [Value.slice.injEq, Option.some.injEq] at he; obtain ⟨rfl, _, rfl⟩ := he
    refine st_y hf rfl rfl rfl (y_indexAddr st_33 rfl rfl rfl h1_1 (idx_lt hx1_2)) ?_
    clear hf a; intro a hf
    refine st_y hf rfl rfl rfl (y_loadN (cs := [(.int .i64 (x1_1.op)), (.int .i64 (x1_1.a_)), (.int .i64 (x1_1.b)), (.int .i64 (x1_1.c)), (.int .i64 (x1_1.n_))]) Tryd.isAgg27 Tryd.sizeOf27 rfl rfl (flat_cells (cs := [(.int .i64 (x1_1.op)), (.int .i64 (x1_1.a_)), (.int .i64 (x1_1.b)), (.int .i64 (x1_1.c)), (.int .i64 (x1_1.n_))]) (hm.now h1p) hx1_2 rfl)) ?_
    clear hf a; intro a hf
    refine st_ef hf rfl rfl rfl (e_alloc hm Tryd.zeroValue27 rfl rfl) ?_
    clear hf a; rintro _ w1_1 a ⟨b1_2, rfl, hm⟩ hf
    refine st_y hf rfl rfl rfl (y_assign rfl rfl) ?_
    clear hf a; intro a hf
    refine st_ef0 hf rfl rfl (e_storeN 0 hf hm rfl Tryd.sizeOf27 rfl rfl rfl (one_cons rfl (one_cons rfl (one_cons rfl (one_cons rfl (one_cons rfl one_nil))))) rfl rfl) ?_
    clear hf a; rintro _ w1_2 a hm hf
    refine st_end ?_
    refine x_then_n ?_
    refine wp_seq ?_
    refine wp_region_lit ?_
    refine st_y hf rfl rfl rfl (y_assign rfl rfl) ?_
    clear hf a; intro a hf
    refine st_end ?_
    refine x_then_n ?_
    refine wp_seq ?_
    refine wp_seq ?_
    refine wp_region_lit ?_
    refine st_y hf rfl rfl rfl (y_fieldAddr fo_27_0 rfl rfl) ?_
    clear hf a; intro a hf
    refine st_y hf rfl rfl rfl (y_load1 Tryd.isAgg3 rfl rfl (hm.blk_cell 0 rfl rfl)) ?_
    clear hf a; intro a hf
    obtain ⟨r1_1, hx1_3, hb0_1⟩ := bnd hb0_1
    refine st_ef hf rfl rfl rfl (e_call hf rfl Tryd.call42 rfl (impl_jumpOp_ok _ x1_1.op _ hx1_3)) ?_
    clear hf a; rintro v1_3 w1_3 a ho1_1 hf
    obtain ⟨rfl, hB⟩ := ho1_1
    replace hm := hm.below' hB; clear hB
    refine st_y hf rfl rfl rfl (y_not rfl rfl) ?_
    clear hf a; intro a hf
    refine st_end ?_
    refine x_then_n ?_
    obtain ⟨s1_1, hq1_1, hb0_1⟩ := bnd hb0_1
    refine code_cut (K := fun a w => 0 ≤ s1_1 ∧ s1_1 ≤ 140737488355328 ∧ Fr 78 [(0, (.pointer (some ⟨bp0, 0, none⟩))), (4, (.int .i64 (s1_1))), (18, (.slice (some ⟨b1_1, o1_1, none⟩) l_.f.ins.length c0_1)), (19, (.int .i64 ((l_.f.ins.length : Int)))), (20, (.int .i64 (i1_1)))] a ∧ Mem w0 hz w [blk bp0 [(.int .i64 (l_.f.params)), (.int .i64 (l_.f.slots)), (.slice (some ⟨b1_1, o1_1, none⟩) l_.f.ins.length c0_1), (.slice p0_2 l_.long.length c0_2), v1_1, v1_2, (.int .i64 (xs1_1.2.2))] 70, ow [(.slice p0_2 l_.long.length c0_2)] l_.long, ow [v1_1] xs1_1.1, ow [v1_2] xs1_1.2.1]) ?_ ?_
    ·
      rcases bcases (!(r1_1)) with h2_1 | h2_1
      ·
        replace hq1_1 := (ite_t h2_1).symm.trans hq1_1
        have h2_2 := bnot_t' h2_1
        refine cond_t hf rfl h2_1 ?_
        refine wp_region_lit ?_
        refine st_y hf rfl rfl rfl (y_loadN (cs := [(.int .i64 (x1_1.op)), (.int .i64 (x1_1.a_)), (.int .i64 (x1_1.b)), (.int .i64 (x1_1.c)), (.int .i64 (x1_1.n_))]) Tryd.isAgg27 Tryd.sizeOf27 rfl rfl (hm.blk_at 0 rfl)) ?_
        clear hf a; intro a hf
        obtain ⟨r2_1, hx2_1, hq1_1⟩ := bnd hq1_1
        refine st_ef hf rfl rfl rfl (e_call hf rfl Tryd.call45 rfl (impl_encoded_ok _ x1_1 _ hx2_1)) ?_
        clear hf a; rintro v2_1 w2_1 a ho2_1 hf
        obtain ⟨_, rfl, hB⟩ := ho2_1
        replace hm := hm.give hB; clear hB
        obtain ⟨p2_1, c2_1, he, hl2_1⟩ := ro_slice (hm.ow_rep 0 rfl)
        subst he
        refine st_y hf rfl rfl rfl (y_len_slice st_24.und rfl rfl) ?_
        clear hf a; intro a hf
        refine st_y hf rfl rfl rfl (y_assign rfl rfl) ?_
        clear hf a; intro a hf
        refine st_end ?_
        refine x_then_n ?_
        obtain rfl := Option.some.inj hq1_1
        exact ⟨(by first | omega | (dsimp only; omega)), (by first | omega | (dsimp only; omega)), hf.sub ⟨rfl, rfl, rfl, rfl, rfl, trivial⟩, hm.pick [2, 3, 4, 5] (by decide) rfl⟩
      ·
        replace hq1_1 := (ite_f h2_1).symm.trans hq1_1
        have h2_3 := bnot_f' h2_1
        refine cond_f hf rfl h2_1 ?_
        refine wp_seq ?_
        refine wp_seq ?_
        refine wp_region_lit ?_
        refine st_y hf rfl rfl rfl (y_fieldAddr fo_27_0 rfl rfl) ?_
        clear hf a; intro a hf
        refine st_y hf rfl rfl rfl (y_load1 Tryd.isAgg3 rfl rfl (hm.blk_cell 0 rfl rfl)) ?_
        clear hf a; intro a hf
        refine st_y hf rfl rfl rfl (y_eql rfl rfl rfl) ?_
        clear hf a; intro a hf
        refine st_end ?_
        refine x_then_n ?_
        obtain ⟨s2_1, hq2_1, hq1_1⟩ := bnd hq1_1
        refine code_cut (K := fun a w => 0 ≤ s2_1 ∧ s2_1 ≤ 3 ∧ Fr 78 [(0, (.pointer (some ⟨bp0, 0, none⟩))), (2, (.int .i64 (i1_1))), (4, (.int .i64 (s2_1))), (18, (.slice (some ⟨b1_1, o1_1, none⟩) l_.f.ins.length c0_1)), (19, (.int .i64 ((l_.f.ins.length : Int)))), (20, (.int .i64 (i1_1)))] a ∧ Mem w0 hz w [blk bp0 [(.int .i64 (l_.f.params)), (.int .i64 (l_.f.slots)), (.slice (some ⟨b1_1, o1_1, none⟩) l_.f.ins.length c0_1), (.slice p0_2 l_.long.length c0_2), v1_1, v1_2, (.int .i64 (xs1_1.2.2))] 70, ow [(.slice p0_2 l_.long.length c0_2)] l_.long, ow [v1_1] xs1_1.1, ow [v1_2] xs1_1.2.1]) ?_ ?_
        ·
          rcases bcases (decide (x1_1.op = 21)) with h3_1 | h3_1
          ·
            replace hq2_1 := (ite_t h3_1).symm.trans hq2_1
            have h3_2 := of_decide_eq_true h3_1
            refine cond_t hf rfl h3_1 ?_
            refine wp_region_lit ?_
            refine st_y hf rfl rfl rfl (y_move rfl rfl) ?_
            clear hf a; intro a hf
            refine st_y hf rfl rfl rfl (y_add64 rfl rfl rfl (by omega) (by omega)) ?_
            clear hf a; intro a hf
            refine st_y hf rfl rfl rfl (y_assign rfl rfl) ?_
            clear hf a; intro a hf
            refine st_end ?_
            refine x_then_n ?_
            obtain rfl := Option.some.inj hq2_1
            exact ⟨(by first | omega | (dsimp only; omega)), (by first | omega | (dsimp only; omega)), hf.sub ⟨rfl, rfl, rfl, rfl, rfl, rfl, trivial⟩, hm.pick [1, 2, 3, 4] (by decide) rfl⟩
          ·
            replace hq2_1 := (ite_f h3_1).symm.trans hq2_1
            have h3_3 := of_decide_eq_false h3_1
            refine cond_f hf rfl h3_1 ?_
            refine wp_skip ?_
            refine x_then_n ?_
            obtain rfl := Option.some.inj hq2_1
            exact ⟨(by first | omega | (dsimp only; omega)), (by first | omega | (dsimp only; omega)), hf.sub ⟨rfl, rfl, rfl, rfl, rfl, rfl, trivial⟩, hm.pick [1, 2, 3, 4] (by decide) rfl⟩
        ·
          clear hf hm
          rintro a w ⟨hn2_1, hn2_2, hf, hm⟩
          refine x_then_n ?_
          refine wp_seq ?_
          refine wp_region_lit ?_
          refine st_y hf rfl rfl rfl (y_move rfl rfl) ?_
          clear hf a; intro a hf
          refine st_y hf rfl rfl rfl (y_nilptr rfl rfl) ?_
          clear hf a; intro a hf
          refine st_y hf rfl rfl rfl (y_fieldAddr fo_70_1 rfl rfl) ?_
          clear hf a; intro a hf
          refine st_y hf rfl rfl rfl (y_load1 Tryd.isAgg68 rfl rfl (hm.blk_cell 0 rfl rfl)) ?_
          clear hf a; intro a hf
          refine st_y hf rfl rfl rfl (y_move rfl rfl) ?_
          clear hf a; intro a hf
          obtain ⟨x2_1, hx2_2, hq1_1⟩ := bnd hq1_1
          obtain ⟨h2_4, hx2_3⟩ := getI_some.1 hx2_2
          obtain ⟨b2_1, o2_1, c2_2, he⟩ := idx_form (hm.ow_rep 1 rfl) hx2_3
          simp only [Value.slice.injEq, Option.some.injEq] at he; obtain ⟨rfl, _, rfl⟩ := he
          refine st_y hf rfl rfl rfl (y_indexAddr st_68 rfl rfl rfl h2_4 (idx_lt hx2_3)) ?_
          clear hf a; intro a hf
          refine st_y hf rfl rfl rfl (y_load1 Tryd.isAgg4 rfl rfl ((flat_cells (cs := [(.bool (x2_1))]) (hm.ow_rep 1 rfl) hx2_3 rfl).cell (j := 0) rfl)) ?_
          clear hf a; intro a hf
          refine st_end ?_
          refine x_then_n ?_
          obtain ⟨s2_2, hq2_2, hq1_1⟩ := bnd hq1_1
          refine code_cut (K := fun a w => 0 ≤ s2_2 ∧ s2_2 ≤ 4 ∧ Fr 78 [(0, (.pointer (some ⟨bp0, 0, none⟩))), (4, (.int .i64 (s2_2))), (18, (.slice (some ⟨b1_1, o1_1, none⟩) l_.f.ins.length c0_1)), (19, (.int .i64 ((l_.f.ins.length : Int)))), (20, (.int .i64 (i1_1)))] a ∧ Mem w0 hz w [blk bp0 [(.int .i64 (l_.f.params)), (.int .i64 (l_.f.slots)), (.slice (some ⟨b1_1, o1_1, none⟩) l_.f.ins.length c0_1), (.slice (some ⟨b2_1, o2_1, none⟩) l_.long.length c0_2), v1_1, v1_2, (.int .i64 (xs1_1.2.2))] 70, ow [(.slice (some ⟨b2_1, o2_1, none⟩) l_.long.length c0_2)] l_.long, ow [v1_1] xs1_1.1, ow [v1_2] xs1_1.2.1]) ?_ ?_
          ·
            rcases bcases (x2_1) with h3_4 | h3_4
            ·
              replace hq2_2 := (ite_t h3_4).symm.trans hq2_2
              refine cond_t hf rfl h3_4 ?_
              refine wp_region_lit ?_
              refine st_y hf rfl rfl rfl (y_move rfl rfl) ?_
              clear hf a; intro a hf
              refine st_y hf rfl rfl rfl (y_add64 rfl rfl rfl (by omega) (by omega)) ?_
              clear hf a; intro a hf
              refine st_y hf rfl rfl rfl (y_assign rfl rfl) ?_
              clear hf a; intro a hf
              refine st_end ?_
              refine x_then_n ?_
              obtain rfl := Option.some.inj hq2_2
              exact ⟨(by first | omega | (dsimp only; omega)), (by first | omega | (dsimp only; omega)), hf.sub ⟨rfl, rfl, rfl, rfl, rfl, trivial⟩, hm.pick [0, 1, 2, 3] (by decide) rfl⟩
            ·
              replace hq2_2 := (ite_f h3_4).symm.trans hq2_2
              refine cond_f hf rfl h3_4 ?_
              refine wp_skip ?_
              refine x_then_n ?_
              obtain rfl := Option.some.inj hq2_2
              exact ⟨(by first | omega | (dsimp only; omega)), (by first | omega | (dsimp only; omega)), hf.sub ⟨rfl, rfl, rfl, rfl, rfl, trivial⟩, hm.pick [0, 1, 2, 3] (by decide) rfl⟩
          ·
            clear hf hm
            rintro a w ⟨hn2_3, hn2_4, hf, hm⟩
            refine x_then_n ?_
            obtain rfl := Option.some.inj hq1_1
            exact ⟨(by first | omega | (dsimp only; omega)), (by first | omega | (dsimp only; omega)), hf.sub ⟨rfl, rfl, rfl, rfl, rfl, trivial⟩, hm.pick [0, 1, 2, 3] (by decide) rfl⟩
    ·
      clear hf hm
      rintro a w ⟨hn1_1, hn1_2, hf, hm⟩
      refine x_then_n ?_
      refine wp_seq ?_
      obtain ⟨s1_2, hq1_2, hb0_1⟩ := bnd hb0_1
      refine code_cut (K := fun a w => ∃ (v1_4 : Value) (v1_5 : Value), Fr 78 [(0, (.pointer (some ⟨bp0, 0, none⟩))), (4, (.int .i64 (s1_1))), (18, (.slice (some ⟨b1_1, o1_1, none⟩) l_.f.ins.length c0_1)), (19, (.int .i64 ((l_.f.ins.length : Int)))), (20, (.int .i64 (i1_1)))] a ∧ Mem w0 hz w [blk bp0 [(.int .i64 (l_.f.params)), (.int .i64 (l_.f.slots)), (.slice (some ⟨b1_1, o1_1, none⟩) l_.f.ins.length c0_1), (.slice p0_2 l_.long.length c0_2), v1_4, v1_5, (.int .i64 (xs1_1.2.2))] 70, ow [(.slice p0_2 l_.long.length c0_2)] l_.long, ow [v1_4] s1_2.1, ow [v1_5] s1_2.2]) ?_ ?_
      ·
        refine wp_tree (.p 0 (.p 1 (.p 2 (.p 3 (.p 4 (.p 6 (.p 9 (.p 10 (.p 11 (.p 13 (.p 14 (.p 15 (.q 5 (.q 12 (.q 16 (.e 7 (.e 8 (.e 17 (.e 18 (.p 19 (.p 20 (.e 21 (.p 22 (.p 23 (.e 24 .fin .nil))) .nil))) .nil) .nil) (.e 17 (.e 8 (.e 18 (.p 19 (.p 20 (.e 21 (.p 22 (.p 23 (.e 24 .fin .nil))) .nil))) .nil) .nil) .nil)) (.e 17 (.e 7 (.e 8 (.e 18 (.p 19 (.p 20 (.e 21 (.p 22 (.p 23 (.e 24 .fin .nil))) .nil))) .nil) .nil) .nil) .nil))))))))))))))))) [5, 7, 8, 12, 16, 17] [0, 1, 2, 3, 4, 6, 9, 10, 11, 13, 14, 15, 19, 20, 22, 23] (fun w => Mem w0 hz w [blk bp0 [(.int .i64 (l_.f.params)), (.int .i64 (l_.f.slots)), (.slice (some ⟨b1_1, o1_1, none⟩) l_.f.ins.length c0_1), (.slice p0_2 l_.long.length c0_2), v1_1, v1_2, (.int .i64 (xs1_1.2.2))] 70, ow [(.slice p0_2 l_.long.length c0_2)] l_.long, ow [v1_2] xs1_1.2.1]) (by kernel_rfl) (by kernel_rfl) (fun _ _ _ h => h.2) ?_
        replace hm := hm.drew
        have hS : Mem w0 hz _ [blk bp0 [(.int .i64 (l_.f.params)), (.int .i64 (l_.f.slots)), (.slice (some ⟨b1_1, o1_1, none⟩) l_.f.ins.length c0_1), (.slice p0_2 l_.long.length c0_2), v1_1, v1_2, (.int .i64 (xs1_1.2.2))] 70, ow [(.slice p0_2 l_.long.length c0_2)] l_.long, ow [v1_2] xs1_1.2.1] := hm.pick [0, 1, 3] (by decide) rfl
        refine td_p hf rfl rfl rfl rfl (fun w => y_move rfl rfl) ?_
        clear hf a; intro a hf
        refine td_p hf rfl rfl rfl rfl (fun w => y_move rfl rfl) ?_
        clear hf a; intro a hf
        refine td_p hf rfl rfl rfl rfl (fun w => y_move rfl rfl) ?_
        clear hf a; intro a hf
        refine td_p hf rfl rfl rfl rfl (fun w => y_nilptr rfl rfl) ?_
        clear hf a; intro a hf
        refine td_p hf rfl rfl rfl rfl (fun w => y_fieldAddr fo_70_2 rfl rfl) ?_
        clear hf a; intro a hf
        refine td_p hf rfl rfl rfl rfl (fun w => y_move rfl rfl) ?_
        clear hf a; intro a hf
        refine td_p hf rfl rfl rfl rfl (fun w => y_move rfl rfl) ?_
        clear hf a; intro a hf
        refine td_p hf rfl rfl rfl rfl (fun w => y_nilptr rfl rfl) ?_
        clear hf a; intro a hf
        refine td_p hf rfl rfl rfl rfl (fun w => y_fieldAddr fo_70_3 rfl rfl) ?_
        clear hf a; intro a hf
        refine td_p hf rfl rfl rfl rfl (fun w => y_move rfl rfl) ?_
        clear hf a; intro a hf
        refine td_p hf rfl rfl rfl rfl (fun w => y_nilptr rfl rfl) ?_
        clear hf a; intro a hf
        refine td_p hf rfl rfl rfl rfl (fun w => y_fieldAddr fo_70_4 rfl rfl) ?_
        clear hf a; intro a hf
        refine td_y hf rfl rfl rfl rfl hS (fun w hm => y_load1 Tryd.isAgg46 rfl rfl (hm.blk_cell 0 rfl rfl)) ?_
        clear hf a; intro a hf
        refine td_y hf rfl rfl rfl rfl hS (fun w hm => y_load1 Tryd.isAgg46 rfl rfl (hm.blk_cell 0 rfl rfl)) ?_
        clear hf a; intro a hf
        refine td_y hf rfl rfl rfl rfl hS (fun w hm => y_load1 Tryd.isAgg3 rfl rfl (hm.blk_cell 0 rfl rfl)) ?_
        clear hf a; intro a hf
        obtain ⟨pb2_1, hpb2_1, hq1_2⟩ := bnd hq1_2
        obtain ⟨pb2_2, hpb2_2, hq1_2⟩ := bnd hq1_2
        refine te_more ?_ ?_
        ·
          refine td_ef hf rfl rfl rfl rfl (e_build (vs := #[(0, (.int .i64 (s1_1)))]) (cs := [(.int .i64 (s1_1))]) et_46 hf hm rfl rfl (by kernel_rfl) rfl rfl) ?_
          clear hf a; rintro _ w2_2 a ⟨b2_2, rfl, hm⟩ hf
          replace hm := hm.lit (xs := ([s1_1] : List Int)) 0 rfl rfl rfl rfl
          clear hS
          have hS : Mem w0 hz _ [blk bp0 [(.int .i64 (l_.f.params)), (.int .i64 (l_.f.slots)), (.slice (some ⟨b1_1, o1_1, none⟩) l_.f.ins.length c0_1), (.slice p0_2 l_.long.length c0_2), v1_1, v1_2, (.int .i64 (xs1_1.2.2))] 70, ow [(.slice p0_2 l_.long.length c0_2)] l_.long, ow [v1_2] xs1_1.2.1] := hm.pick [1, 2, 4] (by decide) rfl
          refine ⟨fun _ => hS, ?_⟩
          refine te_more ?_ ?_
          ·
            obtain ⟨h2_5, h2_5e⟩ := appM_some.1 hpb2_1
            refine td_ef hf rfl rfl rfl rfl (e_append 3 et_46 hf hm rfl (hm.ow_rep 0 rfl) rfl rfl rfl h2_5) ?_
            clear hf a; rintro v2_3 w2_3 a hm hf
            rw [h2_5e] at hm
            clear hS
            have hS : Mem w0 hz _ [blk bp0 [(.int .i64 (l_.f.params)), (.int .i64 (l_.f.slots)), (.slice (some ⟨b1_1, o1_1, none⟩) l_.f.ins.length c0_1), (.slice p0_2 l_.long.length c0_2), v1_1, v1_2, (.int .i64 (xs1_1.2.2))] 70, ow [(.slice p0_2 l_.long.length c0_2)] l_.long, ow [v1_2] xs1_1.2.1] := hm.pick [1, 2, 4] (by decide) rfl
            refine ⟨fun _ => hS, ?_⟩
            refine te_one ?_
            refine td_ef hf rfl rfl rfl rfl (e_build (vs := #[(0, (.int .i64 (xs1_1.2.2)))]) (cs := [(.int .i64 (xs1_1.2.2))]) et_46 hf hm rfl rfl (by kernel_rfl) rfl rfl) ?_
            clear hf a; rintro _ w2_4 a ⟨b2_3, rfl, hm⟩ hf
            replace hm := hm.lit (xs := ([xs1_1.2.2] : List Int)) 0 rfl rfl rfl rfl
            clear hS
            have hS : Mem w0 hz _ [blk bp0 [(.int .i64 (l_.f.params)), (.int .i64 (l_.f.slots)), (.slice (some ⟨b1_1, o1_1, none⟩) l_.f.ins.length c0_1), (.slice p0_2 l_.long.length c0_2), v1_1, v1_2, (.int .i64 (xs1_1.2.2))] 70, ow [(.slice p0_2 l_.long.length c0_2)] l_.long, ow [v1_2] xs1_1.2.1] := hm.pick [2, 3, 5] (by decide) rfl
            refine ⟨fun _ => hS, ?_⟩
            refine te_one ?_
            obtain ⟨h2_6, h2_6e⟩ := appM_some.1 hpb2_2
            refine td_ef hf rfl rfl rfl rfl (e_append 5 et_46 hf hm rfl (hm.ow_rep 0 rfl) rfl rfl rfl h2_6) ?_
            clear hf a; rintro v2_4 w2_5 a hm hf
            rw [h2_6e] at hm
            refine ⟨fun h => absurd h (by decide), ?_⟩
            refine td_p hf rfl rfl rfl rfl (fun w => y_nilptr rfl rfl) ?_
            clear hf a; intro a hf
            refine td_p hf rfl rfl rfl rfl (fun w => y_fieldAddr fo_70_2 rfl rfl) ?_
            clear hf a; intro a hf
            refine te_one ?_
            refine td_ef0 hf rfl rfl rfl (e_store1 2 hf hm rfl Tryd.sizeOf46 rfl rfl rfl (rep_one (hm.ow_rep 4 rfl)) rfl) ?_
            clear hf a; rintro _ w2_6 a hm hf
            refine ⟨fun h => absurd h (by decide), ?_⟩
            refine td_p hf rfl rfl rfl rfl (fun w => y_nilptr rfl rfl) ?_
            clear hf a; intro a hf
            refine td_p hf rfl rfl rfl rfl (fun w => y_fieldAddr fo_70_3 rfl rfl) ?_
            clear hf a; intro a hf
            refine te_one ?_
            refine td_ef0 hf rfl rfl rfl (e_store1 2 hf hm rfl Tryd.sizeOf46 rfl rfl rfl (rep_one (hm.ow_rep 5 rfl)) rfl) ?_
            clear hf a; rintro _ w2_7 a hm hf
            refine ⟨fun h => absurd h (by decide), ?_⟩
            clear hS; refine td_end ?_
            refine x_then_n ?_
            obtain rfl := Option.some.inj hq1_2
            exact ⟨v2_3, v2_4, hf.sub ⟨rfl, rfl, rfl, rfl, rfl, trivial⟩, hm.pick [2, 3, 4, 5] (by decide) rfl⟩
          refine te_one ?_
          refine td_ef hf rfl rfl rfl rfl (e_build (vs := #[(0, (.int .i64 (xs1_1.2.2)))]) (cs := [(.int .i64 (xs1_1.2.2))]) et_46 hf hm rfl rfl (by kernel_rfl) rfl rfl) ?_
          clear hf a; rintro _ w2_8 a ⟨b2_4, rfl, hm⟩ hf
          replace hm := hm.lit (xs := ([xs1_1.2.2] : List Int)) 0 rfl rfl rfl rfl
          clear hS
          have hS : Mem w0 hz _ [blk bp0 [(.int .i64 (l_.f.params)), (.int .i64 (l_.f.slots)), (.slice (some ⟨b1_1, o1_1, none⟩) l_.f.ins.length c0_1), (.slice p0_2 l_.long.length c0_2), v1_1, v1_2, (.int .i64 (xs1_1.2.2))] 70, ow [(.slice p0_2 l_.long.length c0_2)] l_.long, ow [v1_2] xs1_1.2.1] := hm.pick [2, 3, 5] (by decide) rfl
          refine ⟨fun _ => hS, ?_⟩
          refine te_one ?_
          obtain ⟨h2_7, h2_7e⟩ := appM_some.1 hpb2_1
          refine td_ef hf rfl rfl rfl rfl (e_append 4 et_46 hf hm rfl (hm.ow_rep 1 rfl) rfl rfl rfl h2_7) ?_
          clear hf a; rintro v2_5 w2_9 a hm hf
          rw [h2_7e] at hm
          clear hS
          have hS : Mem w0 hz _ [blk bp0 [(.int .i64 (l_.f.params)), (.int .i64 (l_.f.slots)), (.slice (some ⟨b1_1, o1_1, none⟩) l_.f.ins.length c0_1), (.slice p0_2 l_.long.length c0_2), v1_1, v1_2, (.int .i64 (xs1_1.2.2))] 70, ow [(.slice p0_2 l_.long.length c0_2)] l_.long, ow [v1_2] xs1_1.2.1] := hm.pick [2, 3, 5] (by decide) rfl
          refine ⟨fun _ => hS, ?_⟩
          refine te_one ?_
          obtain ⟨h2_8, h2_8e⟩ := appM_some.1 hpb2_2
          refine td_ef hf rfl rfl rfl rfl (e_append 5 et_46 hf hm rfl (hm.ow_rep 0 rfl) rfl rfl rfl h2_8) ?_
          clear hf a; rintro v2_6 w2_10 a hm hf
          rw [h2_8e] at hm
          refine ⟨fun h => absurd h (by decide), ?_⟩
          refine td_p hf rfl rfl rfl rfl (fun w => y_nilptr rfl rfl) ?_
          clear hf a; intro a hf
          refine td_p hf rfl rfl rfl rfl (fun w => y_fieldAddr fo_70_2 rfl rfl) ?_
          clear hf a; intro a hf
          refine te_one ?_
          refine td_ef0 hf rfl rfl rfl (e_store1 2 hf hm rfl Tryd.sizeOf46 rfl rfl rfl (rep_one (hm.ow_rep 4 rfl)) rfl) ?_
          clear hf a; rintro _ w2_11 a hm hf
          refine ⟨fun h => absurd h (by decide), ?_⟩
          refine td_p hf rfl rfl rfl rfl (fun w => y_nilptr rfl rfl) ?_
          clear hf a; intro a hf
          refine td_p hf rfl rfl rfl rfl (fun w => y_fieldAddr fo_70_3 rfl rfl) ?_
          clear hf a; intro a hf
          refine te_one ?_
          refine td_ef0 hf rfl rfl rfl (e_store1 2 hf hm rfl Tryd.sizeOf46 rfl rfl rfl (rep_one (hm.ow_rep 5 rfl)) rfl) ?_
          clear hf a; rintro _ w2_12 a hm hf
          refine ⟨fun h => absurd h (by decide), ?_⟩
          clear hS; refine td_end ?_
          refine x_then_n ?_
          obtain rfl := Option.some.inj hq1_2
          exact ⟨v2_5, v2_6, hf.sub ⟨rfl, rfl, rfl, rfl, rfl, trivial⟩, hm.pick [2, 3, 4, 5] (by decide) rfl⟩
        refine te_one ?_
        refine td_ef hf rfl rfl rfl rfl (e_build (vs := #[(0, (.int .i64 (xs1_1.2.2)))]) (cs := [(.int .i64 (xs1_1.2.2))]) et_46 hf hm rfl rfl (by kernel_rfl) rfl rfl) ?_
        clear hf a; rintro _ w2_13 a ⟨b2_5, rfl, hm⟩ hf
        replace hm := hm.lit (xs := ([xs1_1.2.2] : List Int)) 0 rfl rfl rfl rfl
        clear hS
        have hS : Mem w0 hz _ [blk bp0 [(.int .i64 (l_.f.params)), (.int .i64 (l_.f.slots)), (.slice (some ⟨b1_1, o1_1, none⟩) l_.f.ins.length c0_1), (.slice p0_2 l_.long.length c0_2), v1_1, v1_2, (.int .i64 (xs1_1.2.2))] 70, ow [(.slice p0_2 l_.long.length c0_2)] l_.long, ow [v1_2] xs1_1.2.1] := hm.pick [1, 2, 4] (by decide) rfl
        refine ⟨fun _ => hS, ?_⟩
        refine te_one ?_
        refine td_ef hf rfl rfl rfl rfl (e_build (vs := #[(0, (.int .i64 (s1_1)))]) (cs := [(.int .i64 (s1_1))]) et_46 hf hm rfl rfl (by kernel_rfl) rfl rfl) ?_
        clear hf a; rintro _ w2_14 a ⟨b2_6, rfl, hm⟩ hf
        replace hm := hm.lit (xs := ([s1_1] : List Int)) 0 rfl rfl rfl rfl
        clear hS
        have hS : Mem w0 hz _ [blk bp0 [(.int .i64 (l_.f.params)), (.int .i64 (l_.f.slots)), (.slice (some ⟨b1_1, o1_1, none⟩) l_.f.ins.length c0_1), (.slice p0_2 l_.long.length c0_2), v1_1, v1_2, (.int .i64 (xs1_1.2.2))] 70, ow [(.slice p0_2 l_.long.length c0_2)] l_.long, ow [v1_2] xs1_1.2.1] := hm.pick [2, 3, 5] (by decide) rfl
        refine ⟨fun _ => hS, ?_⟩
        refine te_one ?_
        obtain ⟨h2_9, h2_9e⟩ := appM_some.1 hpb2_1
        refine td_ef hf rfl rfl rfl rfl (e_append 4 et_46 hf hm rfl (hm.ow_rep 0 rfl) rfl rfl rfl h2_9) ?_
        clear hf a; rintro v2_7 w2_15 a hm hf
        rw [h2_9e] at hm
        clear hS
        have hS : Mem w0 hz _ [blk bp0 [(.int .i64 (l_.f.params)), (.int .i64 (l_.f.slots)), (.slice (some ⟨b1_1, o1_1, none⟩) l_.f.ins.length c0_1), (.slice p0_2 l_.long.length c0_2), v1_1, v1_2, (.int .i64 (xs1_1.2.2))] 70, ow [(.slice p0_2 l_.long.length c0_2)] l_.long, ow [v1_2] xs1_1.2.1] := hm.pick [2, 3, 5] (by decide) rfl
        refine ⟨fun _ => hS, ?_⟩
        refine te_one ?_
        obtain ⟨h2_10, h2_10e⟩ := appM_some.1 hpb2_2
        refine td_ef hf rfl rfl rfl rfl (e_append 5 et_46 hf hm rfl (hm.ow_rep 1 rfl) rfl rfl rfl h2_10) ?_
        clear hf a; rintro v2_8 w2_16 a hm hf
        rw [h2_10e] at hm
        refine ⟨fun h => absurd h (by decide), ?_⟩
        refine td_p hf rfl rfl rfl rfl (fun w => y_nilptr rfl rfl) ?_
        clear hf a; intro a hf
        refine td_p hf rfl rfl rfl rfl (fun w => y_fieldAddr fo_70_2 rfl rfl) ?_
        clear hf a; intro a hf
        refine te_one ?_
        refine td_ef0 hf rfl rfl rfl (e_store1 2 hf hm rfl Tryd.sizeOf46 rfl rfl rfl (rep_one (hm.ow_rep 4 rfl)) rfl) ?_
        clear hf a; rintro _ w2_17 a hm hf
        refine ⟨fun h => absurd h (by decide), ?_⟩
        refine td_p hf rfl rfl rfl rfl (fun w => y_nilptr rfl rfl) ?_
        clear hf a; intro a hf
        refine td_p hf rfl rfl rfl rfl (fun w => y_fieldAddr fo_70_3 rfl rfl) ?_
        clear hf a; intro a hf
        refine te_one ?_
        refine td_ef0 hf rfl rfl rfl (e_store1 2 hf hm rfl Tryd.sizeOf46 rfl rfl rfl (rep_one (hm.ow_rep 5 rfl)) rfl) ?_
        clear hf a; rintro _ w2_18 a hm hf
        refine ⟨fun h => absurd h (by decide), ?_⟩
        clear hS; refine td_end ?_
        refine x_then_n ?_
        obtain rfl := Option.some.inj hq1_2
        exact ⟨v2_7, v2_8, hf.sub ⟨rfl, rfl, rfl, rfl, rfl, trivial⟩, hm.pick [2, 3, 4, 5] (by decide) rfl⟩
      ·
        clear hf hm
        rintro a w ⟨v1_4, v1_5, hf, hm⟩
        refine x_then_n ?_
        refine wp_region_lit ?_
        refine st_y hf rfl rfl rfl (y_move rfl rfl) ?_
        clear hf a; intro a hf
        refine st_y hf rfl rfl rfl (y_nilptr rfl rfl) ?_
        clear hf a; intro a hf
        refine st_y hf rfl rfl rfl (y_fieldAddr fo_70_4 rfl rfl) ?_
        clear hf a; intro a hf
        refine st_y hf rfl rfl rfl (y_load1 Tryd.isAgg3 rfl rfl (hm.blk_cell 0 rfl rfl)) ?_
        clear hf a; intro a hf
        refine st_y hf rfl rfl rfl (y_move rfl rfl) ?_
        clear hf a; intro a hf
        refine st_y hf rfl rfl rfl (y_addw rfl rfl rfl) ?_
        clear hf a; intro a hf
        refine st_y hf rfl rfl rfl (y_nilptr rfl rfl) ?_
        clear hf a; intro a hf
        refine st_y hf rfl rfl rfl (y_fieldAddr fo_70_4 rfl rfl) ?_
        clear hf a; intro a hf
        refine st_ef0 hf rfl rfl (e_store1 0 hf hm rfl Tryd.sizeOf3 rfl rfl rfl rfl rfl) ?_
        clear hf a; rintro _ w1_4 a hm hf
        refine st_end ?_
        refine x_blk_n ?_
        refine x_then_n ?_
        refine wp_region_lit ?_
        refine st_y hf rfl rfl rfl (y_add64 rfl rfl rfl (by omega) (by omega)) ?_
        clear hf a; intro a hf
        refine st_y hf rfl rfl rfl (y_move rfl rfl) ?_
        clear hf a; intro a hf
        refine st_end ?_
        refine x_then_n ?_
        obtain rfl := Option.some.inj hb0_1
        exact ⟨_, rfl, v1_4, v1_5, hf.sub ⟨rfl, rfl, rfl, rfl, trivial⟩, hm.pick [0, 1, 2, 3] (by decide) rfl⟩
  ·
    clear hf hm
    rintro i0_1 xs0_1 a w ⟨v0_1, v0_2, hf, hm⟩ hi0_1 hi0_2 rfl
    replace hq := sum_l hq
    refine wp_seq ?_
    refine wp_region_lit ?_
    refine st_y hf rfl rfl rfl (y_lss rfl rfl rfl) ?_
    clear hf a; intro a hf
    refine st_end ?_
    refine x_then_n ?_
    refine wp_seq ?_
    refine cond_f hf rfl (decide_eq_false (by omega)) ?_
    refine wp_exit ?_
    refine x_then_exit ?_
    refine x_then_exit ?_
    refine x_blk_hit ?_
    obtain rfl := Option.some.inj hq
    refine ret_end hf Tryd.results71 ?_
    exact ⟨(.slice p0_2 l_.long.length c0_2), v0_1, v0_2, rfl, hm.pick [0, 1, 2, 3] (by decide) rfl⟩

theorem pimpl_layout__offset_ok (w0 : World) (l_ : layout) (bp0 : Nat) (v1p : Value) (h1p : GT.rep (hp w0) [v1p] l_.f.ins) (v2p : Value) (h2p : GT.rep (hp w0) [v2p] l_.long) (v3p : Value) (h3p : GT.rep (hp w0) [v3p] l_.sizes) (v4p : Value) (h4p : GT.rep (hp w0) [v4p] l_.places) (hbbp0 : (hp w0) bp0 = some (.cells ([(.int .i64 (l_.f.params)), (.int .i64 (l_.f.slots)), v1p, v2p, v3p, v4p, (.int .i64 (l_.size))] : List Value).toArray 70 (0, 0))) (i_ : Int) (r : Int) (hq : pimpl_layout__offset l_ i_ = some r) :
    Con Tryd.prog 48 [(.pointer (some ⟨bp0, 0, none⟩)), (.int .i64 (i_))] w0 (fun v w' => v = (.int .i64 (r)) ∧ Below w0.heap.size w0 w') := by
  unfold pimpl_layout__offset at hq
  refine con_body (l := [(0, (.pointer (some ⟨bp0, 0, none⟩))), (1, (.int .i64 (i_)))]) Tryd.func48 rfl Tryd.ntmps48 (Args.get ⟨rfl, rfl, trivial⟩) rfl ?_
  intro a hf
  have hm := Mem.start w0
  refine wp_seq ?_
  refine wp_region_lit ?_
  refine st_y hf rfl rfl rfl (y_assign rfl rfl) ?_
  clear hf a; intro a hf
  refine st_end ?_
  refine x_then_n ?_
  refine wp_seq ?_
  refine wp_tree (.p 0 (.p 1 (.p 2 (.p 4 (.p 5 (.p 6 (.p 7 (.p 9 (.p 15 (.p 16 (.p 17 (.p 19 (.p 23 (.p 24 (.p 25 (.p 27 (.q 3 (.q 8 (.p 10 (.p 11 (.q 12 (.p 13 (.q 14 (.q 18 (.p 20 (.q 21 (.p 22 (.e 26 (.p 28 (.e 29 (.p 30 (.p 31 .fin)) .nil)) .nil)))))))))))))))))))))))))))) [3, 8, 12, 14, 18, 21, 26, 29] [0, 1, 2, 4, 5, 6, 7, 9, 10, 11, 13, 15, 16, 17, 19, 20, 22, 23, 24, 25, 27, 28, 30, 31] (fun w => Mem w0 (hp w0) w []) (by kernel_rfl) (by kernel_rfl) (fun _ _ _ h => h.2) ?_
  replace hm := hm.drew
  have hS : Mem w0 (hp w0) _ [] := hm.pick [] (by decide) rfl
  refine td_p hf rfl rfl rfl rfl (fun w => y_move rfl rfl) ?_
  clear hf a; intro a hf
  refine td_p hf rfl rfl rfl rfl (fun w => y_nilptr rfl rfl) ?_
  clear hf a; intro a hf
  refine td_p hf rfl rfl rfl rfl (fun w => y_fieldAddr fo_70_3 rfl rfl) ?_
  clear hf a; intro a hf
  refine td_p hf rfl rfl rfl rfl (fun w => y_move rfl rfl) ?_
  clear hf a; intro a hf
  refine td_p hf rfl rfl rfl rfl (fun w => y_nilptr rfl rfl) ?_
  clear hf a; intro a hf
  refine td_p hf rfl rfl rfl rfl (fun w => y_fieldAddr fo_70_0 rfl rfl) ?_
  clear hf a; intro a hf
  refine td_p hf rfl rfl rfl rfl (fun w => y_fieldAddr fo_35_2 rfl rfl) ?_
  clear hf a; intro a hf
  refine td_p hf rfl rfl rfl rfl (fun w => y_move rfl rfl) ?_
  clear hf a; intro a hf
  refine td_p hf rfl rfl rfl rfl (fun w => y_move rfl rfl) ?_
  clear hf a; intro a hf
  refine td_p hf rfl rfl rfl rfl (fun w => y_nilptr rfl rfl) ?_
  clear hf a; intro a hf
  refine td_p hf rfl rfl rfl rfl (fun w => y_fieldAddr fo_70_3 rfl rfl) ?_
  clear hf a; intro a hf
  refine td_p hf rfl rfl rfl rfl (fun w => y_move rfl rfl) ?_
  clear hf a; intro a hf
  refine td_p hf rfl rfl rfl rfl (fun w => y_move rfl rfl) ?_
  clear hf a; intro a hf
  refine td_p hf rfl rfl rfl rfl (fun w => y_nilptr rfl rfl) ?_
  clear hf a; intro a hf
  refine td_p hf rfl rfl rfl rfl (fun w => y_fieldAddr fo_70_2 rfl rfl) ?_
  clear hf a; intro a hf
  refine td_p hf rfl rfl rfl rfl (fun w => y_move rfl rfl) ?_
  clear hf a; intro a hf
  refine td_y hf rfl rfl rfl rfl hS (fun w hm => y_load1 Tryd.isAgg46 rfl rfl (hm.hz_cell hbbp0 rfl)) ?_
  clear hf a; intro a hf
  refine td_y hf rfl rfl rfl rfl hS (fun w hm => y_load1 Tryd.isAgg33 rfl rfl (hm.hz_cell hbbp0 rfl)) ?_
  clear hf a; intro a hf
  obtain ⟨x0_1, hx0_1, hq⟩ := bnd hq
  obtain ⟨h0_1, hx0_2⟩ := getI_some.1 hx0_1
  obtain ⟨b0_1, o0_1, c0_1, he⟩ := idx_form h1p hx0_2
  subst he
  refine td_p hf rfl rfl rfl rfl (fun w => y_indexAddr st_33 rfl rfl rfl h0_1 (idx_lt hx0_2)) ?_
  clear hf a; intro a hf
  refine td_p hf rfl rfl rfl rfl (fun w => y_fieldAddr fo_27_4 rfl rfl) ?_
  clear hf a; intro a hf
  refine td_y hf rfl rfl rfl rfl hS (fun w hm => y_load1 Tryd.isAgg3 rfl rfl ((flat_cells (cs := [(.int .i64 (x0_1.op)), (.int .i64 (x0_1.a_)), (.int .i64 (x0_1.b)), (.int .i64 (x0_1.c)), (.int .i64 (x0_1.n_))]) (hm.now h1p) hx0_2 rfl).cell (j := 4) rfl)) ?_
  clear hf a; intro a hf
  obtain ⟨x0_2, hx0_3, hq⟩ := bnd hq
  obtain ⟨h0_2, hx0_4⟩ := getI_some.1 hx0_3
  obtain ⟨b0_2, o0_2, c0_2, he⟩ := idx_form h4p hx0_4
  subst he
  refine td_p hf rfl rfl rfl rfl (fun w => y_indexAddr st_46 rfl rfl rfl h0_2 (idx_lt hx0_4)) ?_
  clear hf a; intro a hf
  refine td_y hf rfl rfl rfl rfl hS (fun w hm => y_load1 Tryd.isAgg3 rfl rfl ((flat_cells (cs := [(.int .i64 (x0_2))]) (hm.now h4p) hx0_4 rfl).cell (j := 0) rfl)) ?_
  clear hf a; intro a hf
  refine td_y hf rfl rfl rfl rfl hS (fun w hm => y_load1 Tryd.isAgg46 rfl rfl (hm.hz_cell hbbp0 rfl)) ?_
  clear hf a; intro a hf
  obtain ⟨x0_3, hx0_5, hq⟩ := bnd hq
  obtain ⟨h0_3, hx0_6⟩ := getI_some.1 hx0_5
  refine td_p hf rfl rfl rfl rfl (fun w => y_indexAddr st_46 rfl rfl rfl h0_3 (idx_lt hx0_6)) ?_
  clear hf a; intro a hf
  refine td_y hf rfl rfl rfl rfl hS (fun w hm => y_load1 Tryd.isAgg3 rfl rfl ((flat_cells (cs := [(.int .i64 (x0_3))]) (hm.now h4p) hx0_6 rfl).cell (j := 0) rfl)) ?_
  clear hf a; intro a hf
  refine td_p hf rfl rfl rfl rfl (fun w => y_subw rfl rfl rfl) ?_
  clear hf a; intro a hf
  refine te_one ?_
  refine td_ef hf rfl rfl rfl rfl (ef_y hf (y_load1 Tryd.isAgg46 rfl rfl (hm.hz_cell hbbp0 rfl))) ?_
  clear hf a; rintro _ _ a ⟨rfl, rfl⟩ hf
  refine ⟨fun _ => hS, ?_⟩
  obtain ⟨x0_4, hx0_7, hq⟩ := bnd hq
  obtain ⟨h0_4, hx0_8⟩ := getI_some.1 hx0_7
  obtain ⟨b0_3, o0_3, c0_3, he⟩ := idx_form h3p hx0_8
  subst he
  refine td_p hf rfl rfl rfl rfl (fun w => y_indexAddr st_46 rfl rfl rfl h0_4 (idx_lt hx0_8)) ?_
  clear hf a; intro a hf
  refine te_one ?_
  refine td_ef hf rfl rfl rfl rfl (ef_y hf (y_load1 Tryd.isAgg3 rfl rfl ((flat_cells (cs := [(.int .i64 (x0_4))]) (hm.now h3p) hx0_8 rfl).cell (j := 0) rfl))) ?_
  clear hf a; rintro _ _ a ⟨rfl, rfl⟩ hf
  refine ⟨fun _ => hS, ?_⟩
  refine td_p hf rfl rfl rfl rfl (fun w => y_subw rfl rfl rfl) ?_
  clear hf a; intro a hf
  refine td_p hf rfl rfl rfl rfl (fun w => y_assign rfl rfl) ?_
  clear hf a; intro a hf
  clear hS; refine td_end ?_
  refine x_then_n ?_
  refine wp_ret ?_
  obtain rfl := Option.some.inj hq
  refine ret_tmp hf Tryd.results48 rfl ?_
  exact ⟨rfl, hm.below⟩

end Go.Proofs.YtmhjfaoefcdelaaDoor
