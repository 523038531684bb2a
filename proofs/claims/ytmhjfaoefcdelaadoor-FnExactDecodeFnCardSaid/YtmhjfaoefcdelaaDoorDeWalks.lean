/- A part of the proof of FnExactDecodeFnCardSaid. -/
import Derived.Test.YtmhjfaoefcdelaaDoorDeWalksC
namespace Go.Proofs.YtmhjfaoefcdelaaDoor
open Go Go.Wk Go.RowKit
set_option maxRecDepth 4000
set_option maxHeartbeats 4000000

theorem impl_EncodeFn_ok (w0 : World) (f : Mfn) (v1 : Value) (h1 : GT.rep (hp w0) [v1] f.ins) (hG0 : GT.rep (hp w0) [.slice (some ⟨0, 0, none⟩) 23 23] glob_impl_forms) (r : (List UInt8) × Bool) (hq : impl_EncodeFn f = some r) :
    Con Tryd.prog 17 [(.agg #[(.int .i64 (f.params)), (.int .i64 (f.slots)), v1])] w0 (fun v w' => ∃ (x1 : Value), v = (.tuple #[x1, (.bool (r.2))]) ∧ Mem w0 (hp w0) w' [ow [x1] r.1]) := by
  unfold impl_EncodeFn at hq
  refine con_body (l := [(0, (.agg #[(.int .i64 (f.params)), (.int .i64 (f.slots)), v1]))]) Tryd.func17 rfl Tryd.ntmps17 (Args.get ⟨rfl, trivial⟩) rfl ?_
  intro a hf
  have hm := Mem.start w0
  refine wp_seq ?_
  refine wp_region_lit ?_
  refine st_ef hf rfl rfl rfl (e_box hf hm rfl rfl rfl) ?_
  clear hf a; rintro _ w0_1 a ⟨b0_1, rfl, hm⟩ hf
  refine st_y hf rfl rfl rfl (y_assign rfl rfl) ?_
  clear hf a; intro a hf
  refine st_y hf rfl rfl rfl (y_assign rfl rfl) ?_
  clear hf a; intro a hf
  refine st_end ?_
  refine x_then_n ?_
  refine wp_seq ?_
  refine wp_region_lit ?_
  refine st_y hf rfl rfl rfl (y_loadN (cs := [(.int .i64 (f.params)), (.int .i64 (f.slots)), v1]) Tryd.isAgg35 Tryd.sizeOf35 rfl rfl (hm.blk_at 0 rfl)) ?_
  clear hf a; intro a hf
  obtain ⟨r0_1, hx0_1, hq⟩ := bnd hq
  refine st_ef hf rfl rfl rfl (e_call hf rfl Tryd.call47 rfl (impl_layoutOf_ok _ _ hm.lez f v1 h1 hG0 _ hx0_1)) ?_
  clear hf a; rintro rv0_1 w0_2 a ho0_1 hf
  rcases ho0_1 with ⟨rfl, rfl, hB⟩ | ⟨q0_1, rfl, ho0_1⟩
  ·
    replace hq := opt_n hq
    replace hm := hm.below' hB; clear hB
    refine st_y hf rfl rfl rfl (y_assign rfl rfl) ?_
    clear hf a; intro a hf
    refine st_end ?_
    refine x_then_n ?_
    refine wp_seq ?_
    refine wp_seq ?_
    refine wp_region_lit ?_
    refine st_y hf rfl rfl rfl (y_move rfl rfl) ?_
    clear hf a; intro a hf
    refine st_y hf rfl rfl rfl (y_eqlp Tryd.underlying66 rfl rfl rfl) ?_
    clear hf a; intro a hf
    refine st_end ?_
    refine x_then_n ?_
    refine cond_t hf rfl rfl ?_
    refine wp_seq ?_
    refine wp_region_lit ?_
    refine st_y hf rfl rfl rfl (y_assign rfl rfl) ?_
    clear hf a; intro a hf
    refine st_y hf rfl rfl rfl (y_assign rfl rfl) ?_
    clear hf a; intro a hf
    refine st_end ?_
    refine x_then_n ?_
    refine wp_ret ?_
    refine x_then_ret ?_
    obtain rfl := Option.some.inj hq
    have hm := hm.nilow (α := UInt8)
    refine ret_tmp2 hf Tryd.results17 rfl rfl ?_
    exact ⟨(.slice none 0 0), rfl, hm.pick [0] (by decide) rfl⟩
  ·
    replace hq := opt_s hq
    obtain ⟨b0_2, v0_1, v0_2, v0_3, v0_4, hz0_1, rfl, hle0_1, h0_1, hB⟩ := ho0_1
    replace hm := Mem.giveA hm hle0_1 hB; clear hB
    refine st_y hf rfl rfl rfl (y_assign rfl rfl) ?_
    clear hf a; intro a hf
    refine st_end ?_
    refine x_then_n ?_
    refine wp_seq ?_
    refine wp_seq ?_
    refine wp_region_lit ?_
    refine st_y hf rfl rfl rfl (y_move rfl rfl) ?_
    clear hf a; intro a hf
    refine st_y hf rfl rfl rfl (y_eqlp Tryd.underlying66 rfl rfl rfl) ?_
    clear hf a; intro a hf
    refine st_end ?_
    refine x_then_n ?_
    refine cond_f hf rfl rfl ?_
    refine wp_skip ?_
    refine x_then_n ?_
    refine wp_seq ?_
    refine wp_region_lit ?_
    refine st_y hf rfl rfl rfl (y_assign rfl rfl) ?_
    clear hf a; intro a hf
    refine st_end ?_
    refine x_then_n ?_
    refine wp_seq ?_
    refine wp_seq ?_
    refine wp_region_lit ?_
    refine st_y hf rfl rfl rfl (y_fieldAddr fo_35_2 rfl rfl) ?_
    clear hf a; intro a hf
    refine st_y hf rfl rfl rfl (y_load1 Tryd.isAgg33 rfl rfl (hm.blk_cell 4 rfl rfl)) ?_
    clear hf a; intro a hf
    obtain ⟨p0_1, c0_1, he, hl0_1⟩ := ro_slice h1
    subst he
    refine st_y hf rfl rfl rfl (y_len_slice st_33.und rfl rfl) ?_
    clear hf a; intro a hf
    refine st_y hf rfl rfl rfl (y_move rfl rfl) ?_
    clear hf a; intro a hf
    refine st_end ?_
    refine x_then_n ?_
    obtain ⟨p0_2, c0_2, he, hl0_2⟩ := ro_slice (hm.ow_rep 1 rfl)
    subst he
    obtain ⟨p0_3, c0_3, he, hl0_3⟩ := ro_slice (hm.ow_rep 2 rfl)
    subst he
    obtain ⟨p0_4, c0_4, he, hl0_4⟩ := ro_slice (hm.ow_rep 3 rfl)
    subst he
    refine wp_block ?_
    obtain ⟨r0_2, hl0_5, hq⟩ := bnd hq
    refine wp_forN _ (fun i1_1 xs1_1 a w => ∃ (v1_1 : Value), Fr 88 [(4, (.pointer (some ⟨b0_2, 0, none⟩))), (5, v1_1), (15, (.slice p0_1 f.ins.length c0_1)), (16, (.int .i64 ((f.ins.length : Int)))), (17, (.int .i64 (i1_1)))] a ∧ Mem w0 hz0_1 w [blk b0_2 [(.int .i64 (q0_1.f.params)), (.int .i64 (q0_1.f.slots)), v0_1, (.slice p0_2 q0_1.long.length c0_2), (.slice p0_3 q0_1.sizes.length c0_3), (.slice p0_4 q0_1.places.length c0_4), (.int .i64 (q0_1.size))] 70, ow [(.slice p0_2 q0_1.long.length c0_2)] q0_1.long, ow [(.slice p0_3 q0_1.sizes.length c0_3)] q0_1.sizes, ow [(.slice p0_4 q0_1.places.length c0_4)] q0_1.places, ow [v1_1] xs1_1]) (0) ((f.ins.length : Int)) hl0_5 ?_ ?_ ?_
    ·
      have hm := hm.nilow (α := UInt8)
      exact ⟨(.slice none 0 0), hf.sub ⟨rfl, rfl, rfl, rfl, rfl, trivial⟩, hm.pick [1, 2, 3, 4, 0] (by decide) rfl⟩
    ·
      clear hf hm
      rintro i1_1 xs1_1 a w ⟨v1_1, hf, hm⟩ hi1_1 hi1_2 q0_2 hb0_1 ho0_2
      refine wp_seq ?_
      refine wp_region_lit ?_
      refine st_y hf rfl rfl rfl (y_lss rfl rfl rfl) ?_
      clear hf a; intro a hf
      refine st_end ?_
      refine x_then_n ?_
      refine wp_seq ?_
      refine cond_t hf rfl (decide_eq_true (by omega)) ?_
      refine wp_skip ?_
      refine x_then_n ?_
      refine wp_seq ?_
      obtain ⟨s1_1, hq1_1, hb0_1⟩ := bnd hb0_1
      refine code_cut (K := fun a w => ∃ (v1_2 : Value), Fr 88 [(4, (.pointer (some ⟨b0_2, 0, none⟩))), (5, v1_2), (15, (.slice p0_1 f.ins.length c0_1)), (16, (.int .i64 ((f.ins.length : Int)))), (17, (.int .i64 (i1_1)))] a ∧ Mem w0 hz0_1 w [blk b0_2 [(.int .i64 (q0_1.f.params)), (.int .i64 (q0_1.f.slots)), v0_1, (.slice p0_2 q0_1.long.length c0_2), (.slice p0_3 q0_1.sizes.length c0_3), (.slice p0_4 q0_1.places.length c0_4), (.int .i64 (q0_1.size))] 70, ow [(.slice p0_2 q0_1.long.length c0_2)] q0_1.long, ow [(.slice p0_3 q0_1.sizes.length c0_3)] q0_1.sizes, ow [(.slice p0_4 q0_1.places.length c0_4)] q0_1.places, ow [v1_2] s1_1]) ?_ ?_
      ·
        refine wp_block ?_
        refine wp_seq ?_
        refine wp_region_lit ?_
        refine st_y hf rfl rfl rfl (y_move rfl rfl) ?_
        clear hf a; intro a hf
        obtain ⟨x2_1, hx2_1, hq1_1⟩ := bnd hq1_1
        obtain ⟨h2_1, hx2_2⟩ := getI_some.1 hx2_1
        obtain ⟨b2_1, o2_1, c2_1, he⟩ := idx_form h1 hx2_2
        simp only [Value.slice.injEq, Option.some.injEq] at he; obtain ⟨rfl, _, rfl⟩ := he
        refine st_y hf rfl rfl rfl (y_indexAddr st_33 rfl rfl rfl h2_1 (idx_lt hx2_2)) ?_
        clear hf a; intro a hf
        refine st_y hf rfl rfl rfl (y_loadN (cs := [(.int .i64 (x2_1.op)), (.int .i64 (x2_1.a_)), (.int .i64 (x2_1.b)), (.int .i64 (x2_1.c)), (.int .i64 (x2_1.n_))]) Tryd.isAgg27 Tryd.sizeOf27 rfl rfl (flat_cells (cs := [(.int .i64 (x2_1.op)), (.int .i64 (x2_1.a_)), (.int .i64 (x2_1.b)), (.int .i64 (x2_1.c)), (.int .i64 (x2_1.n_))]) (hm.now (GT.mono hle0_1 h1)) hx2_2 rfl)) ?_
        clear hf a; intro a hf
        refine st_ef hf rfl rfl rfl (e_alloc hm Tryd.zeroValue27 rfl rfl) ?_
        clear hf a; rintro _ w2_1 a ⟨b2_2, rfl, hm⟩ hf
        refine st_y hf rfl rfl rfl (y_assign rfl rfl) ?_
        clear hf a; intro a hf
        refine st_ef0 hf rfl rfl (e_storeN 0 hf hm rfl Tryd.sizeOf27 rfl rfl rfl (one_cons rfl (one_cons rfl (one_cons rfl (one_cons rfl (one_cons rfl one_nil))))) rfl rfl) ?_
        clear hf a; rintro _ w2_2 a hm hf
        refine st_end ?_
        refine x_then_n ?_
        refine wp_seq ?_
        refine wp_seq ?_
        refine wp_region_lit ?_
        refine st_y hf rfl rfl rfl (y_fieldAddr fo_27_0 rfl rfl) ?_
        clear hf a; intro a hf
        refine st_y hf rfl rfl rfl (y_load1 Tryd.isAgg3 rfl rfl (hm.blk_cell 0 rfl rfl)) ?_
        clear hf a; intro a hf
        obtain ⟨r2_1, hx2_3, hq1_1⟩ := bnd hq1_1
        refine st_ef hf rfl rfl rfl (e_call hf rfl Tryd.call42 rfl (impl_jumpOp_ok _ x2_1.op _ hx2_3)) ?_
        clear hf a; rintro v2_1 w2_3 a ho2_1 hf
        obtain ⟨rfl, hB⟩ := ho2_1
        replace hm := hm.below' hB; clear hB
        refine st_y hf rfl rfl rfl (y_not rfl rfl) ?_
        clear hf a; intro a hf
        refine st_end ?_
        refine x_then_n ?_
        rcases bcases (!(r2_1)) with h2_2 | h2_2
        ·
          replace hq1_1 := (ite_t h2_2).symm.trans hq1_1
          have h2_3 := bnot_t' h2_2
          refine cond_t hf rfl h2_2 ?_
          refine wp_seq ?_
          refine wp_region_lit ?_
          refine st_y hf rfl rfl rfl (y_move rfl rfl) ?_
          clear hf a; intro a hf
          refine st_y hf rfl rfl rfl (y_loadN (cs := [(.int .i64 (x2_1.op)), (.int .i64 (x2_1.a_)), (.int .i64 (x2_1.b)), (.int .i64 (x2_1.c)), (.int .i64 (x2_1.n_))]) Tryd.isAgg27 Tryd.sizeOf27 rfl rfl (hm.blk_at 0 rfl)) ?_
          clear hf a; intro a hf
          obtain ⟨r2_2, hx2_4, hq1_1⟩ := bnd hq1_1
          refine st_ef hf rfl rfl rfl (e_call hf rfl Tryd.call45 rfl (impl_encoded_ok _ x2_1 _ hx2_4)) ?_
          clear hf a; rintro v2_2 w2_4 a ho2_2 hf
          obtain ⟨_, rfl, hB⟩ := ho2_2
          replace hm := hm.give hB; clear hB
          obtain ⟨ys2_1, hx2_5, hq1_1⟩ := bnd hq1_1
          obtain ⟨h2_4, h2_4e⟩ := appM_some.1 hx2_5
          refine st_ef hf rfl rfl rfl (e_append 6 et_24 hf hm rfl (hm.ow_rep 0 rfl) rfl rfl rfl h2_4) ?_
          clear hf a; rintro v2_4 w2_5 a hm hf
          rw [h2_4e] at hm
          refine st_y hf rfl rfl rfl (y_assign rfl rfl) ?_
          clear hf a; intro a hf
          refine st_end ?_
          refine x_then_n ?_
          refine wp_exit ?_
          refine x_then_exit ?_
          refine x_blk_hit ?_
          refine x_then_n ?_
          obtain rfl := Option.some.inj hq1_1
          exact ⟨v2_4, hf.sub ⟨rfl, rfl, rfl, rfl, rfl, trivial⟩, hm.pick [2, 3, 4, 5, 6] (by decide) rfl⟩
        ·
          replace hq1_1 := (ite_f h2_2).symm.trans hq1_1
          have h2_5 := bnot_f' h2_2
          refine cond_f hf rfl h2_2 ?_
          refine wp_skip ?_
          refine x_then_n ?_
          refine wp_seq ?_
          refine wp_region_lit ?_
          refine st_y hf rfl rfl rfl (y_fieldAddr fo_27_0 rfl rfl) ?_
          clear hf a; intro a hf
          refine st_y hf rfl rfl rfl (y_load1 Tryd.isAgg3 rfl rfl (hm.blk_cell 0 rfl rfl)) ?_
          clear hf a; intro a hf
          refine st_y hf rfl rfl rfl (y_conv8 Tryd.underlying3 Tryd.underlying5 rfl rfl) ?_
          clear hf a; intro a hf
          refine st_y hf rfl rfl rfl (y_assign rfl rfl) ?_
          clear hf a; intro a hf
          refine st_end ?_
          refine x_then_n ?_
          refine wp_seq ?_
          refine wp_seq ?_
          refine wp_region_lit ?_
          refine st_y hf rfl rfl rfl (y_move rfl rfl) ?_
          clear hf a; intro a hf
          refine st_y hf rfl rfl rfl (y_nilptr rfl rfl) ?_
          clear hf a; intro a hf
          refine st_y hf rfl rfl rfl (y_fieldAddr fo_70_1 rfl rfl) ?_
          clear hf a; intro a hf
          refine st_y hf rfl rfl rfl (y_load1 Tryd.isAgg68 rfl rfl (hm.blk_cell 1 rfl rfl)) ?_
          clear hf a; intro a hf
          refine st_y hf rfl rfl rfl (y_move rfl rfl) ?_
          clear hf a; intro a hf
          obtain ⟨x2_2, hx2_6, hq1_1⟩ := bnd hq1_1
          obtain ⟨h2_6, hx2_7⟩ := getI_some.1 hx2_6
          obtain ⟨b2_3, o2_2, c2_2, he⟩ := idx_form (hm.ow_rep 2 rfl) hx2_7
          simp only [Value.slice.injEq, Option.some.injEq] at he; obtain ⟨rfl, _, rfl⟩ := he
          refine st_y hf rfl rfl rfl (y_indexAddr st_68 rfl rfl rfl h2_6 (idx_lt hx2_7)) ?_
          clear hf a; intro a hf
          refine st_y hf rfl rfl rfl (y_load1 Tryd.isAgg4 rfl rfl ((flat_cells (cs := [(.bool (x2_2))]) (hm.ow_rep 2 rfl) hx2_7 rfl).cell (j := 0) rfl)) ?_
          clear hf a; intro a hf
          refine st_end ?_
          refine x_then_n ?_
          obtain ⟨s2_1, hq2_1, hq1_1⟩ := bnd hq1_1
          refine code_cut (K := fun a w => Fr 88 [(4, (.pointer (some ⟨b0_2, 0, none⟩))), (5, v1_1), (6, (.int .i64 (i1_1))), (7, (.pointer (some ⟨b2_2, 0, none⟩))), (8, (.int .u8 ((s2_1).toNat : Int))), (15, (.slice (some ⟨b2_1, o2_1, none⟩) f.ins.length c0_1)), (16, (.int .i64 ((f.ins.length : Int)))), (17, (.int .i64 (i1_1)))] a ∧ Mem w0 hz0_1 w [blk b0_2 [(.int .i64 (q0_1.f.params)), (.int .i64 (q0_1.f.slots)), v0_1, (.slice (some ⟨b2_3, o2_2, none⟩) q0_1.long.length c0_2), (.slice p0_3 q0_1.sizes.length c0_3), (.slice p0_4 q0_1.places.length c0_4), (.int .i64 (q0_1.size))] 70, ow [(.slice (some ⟨b2_3, o2_2, none⟩) q0_1.long.length c0_2)] q0_1.long, ow [(.slice p0_3 q0_1.sizes.length c0_3)] q0_1.sizes, ow [(.slice p0_4 q0_1.places.length c0_4)] q0_1.places, ow [v1_1] xs1_1, blk b2_2 [(.int .i64 (x2_1.op)), (.int .i64 (x2_1.a_)), (.int .i64 (x2_1.b)), (.int .i64 (x2_1.c)), (.int .i64 (x2_1.n_))] 27]) ?_ ?_
          ·
            rcases bcases (x2_2) with h3_1 | h3_1
            ·
              replace hq2_1 := (ite_t h3_1).symm.trans hq2_1
              refine cond_t hf rfl h3_1 ?_
              refine wp_region_lit ?_
              refine st_y hf rfl rfl rfl (y_move rfl rfl) ?_
              clear hf a; intro a hf
              refine st_y hf rfl rfl rfl (y_add8 (b := (byteI x2_1.op)) (c := (128 : UInt8)) rfl rfl rfl) ?_
              clear hf a; intro a hf
              refine st_y hf rfl rfl rfl (y_assign rfl rfl) ?_
              clear hf a; intro a hf
              refine st_end ?_
              refine x_then_n ?_
              obtain rfl := Option.some.inj hq2_1
              exact ⟨hf.sub ⟨rfl, rfl, rfl, rfl, rfl, rfl, rfl, rfl, trivial⟩, hm.pick [1, 2, 3, 4, 5, 0] (by decide) rfl⟩
            ·
              replace hq2_1 := (ite_f h3_1).symm.trans hq2_1
              refine cond_f hf rfl h3_1 ?_
              refine wp_skip ?_
              refine x_then_n ?_
              obtain rfl := Option.some.inj hq2_1
              exact ⟨hf.sub ⟨rfl, rfl, rfl, rfl, rfl, rfl, rfl, rfl, trivial⟩, hm.pick [1, 2, 3, 4, 5, 0] (by decide) rfl⟩
          ·
            clear hf hm
            rintro a w ⟨hf, hm⟩
            refine x_then_n ?_
            refine wp_seq ?_
            refine wp_region_lit ?_
            refine st_y hf rfl rfl rfl (y_move rfl rfl) ?_
            clear hf a; intro a hf
            refine st_y hf rfl rfl rfl (y_move rfl rfl) ?_
            clear hf a; intro a hf
            refine st_ef hf rfl rfl rfl (e_build (vs := #[(0, (.int .u8 ((s2_1).toNat : Int)))]) (cs := [(.int .u8 ((s2_1).toNat : Int))]) et_24 hf hm rfl rfl (by kernel_rfl) rfl rfl) ?_
            clear hf a; rintro _ w2_6 a ⟨b2_4, rfl, hm⟩ hf
            replace hm := hm.lit (xs := ([s2_1] : List UInt8)) 0 rfl rfl rfl rfl
            obtain ⟨ys2_2, hx2_8, hq1_1⟩ := bnd hq1_1
            obtain ⟨h2_7, h2_7e⟩ := appM_some.1 hx2_8
            refine st_ef hf rfl rfl rfl (e_append 5 et_24 hf hm rfl (hm.ow_rep 0 rfl) rfl rfl rfl h2_7) ?_
            clear hf a; rintro v2_5 w2_7 a hm hf
            rw [h2_7e] at hm
            refine st_y hf rfl rfl rfl (y_assign rfl rfl) ?_
            clear hf a; intro a hf
            refine st_end ?_
            refine x_then_n ?_
            refine wp_seq ?_
            refine wp_seq ?_
            refine wp_region_lit ?_
            refine st_y hf rfl rfl rfl (y_fieldAddr fo_27_0 rfl rfl) ?_
            clear hf a; intro a hf
            refine st_y hf rfl rfl rfl (y_load1 Tryd.isAgg3 rfl rfl (hm.blk_cell 6 rfl rfl)) ?_
            clear hf a; intro a hf
            refine st_y hf rfl rfl rfl (y_eql rfl rfl rfl) ?_
            clear hf a; intro a hf
            refine st_end ?_
            refine x_then_n ?_
            obtain ⟨s2_2, hq2_2, hq1_1⟩ := bnd hq1_1
            refine code_cut (K := fun a w => ∃ (v2_6 : Value), Fr 88 [(4, (.pointer (some ⟨b0_2, 0, none⟩))), (5, v2_6), (6, (.int .i64 (i1_1))), (7, (.pointer (some ⟨b2_2, 0, none⟩))), (15, (.slice (some ⟨b2_1, o2_1, none⟩) f.ins.length c0_1)), (16, (.int .i64 ((f.ins.length : Int)))), (17, (.int .i64 (i1_1)))] a ∧ Mem w0 hz0_1 w [blk b0_2 [(.int .i64 (q0_1.f.params)), (.int .i64 (q0_1.f.slots)), v0_1, (.slice (some ⟨b2_3, o2_2, none⟩) q0_1.long.length c0_2), (.slice p0_3 q0_1.sizes.length c0_3), (.slice p0_4 q0_1.places.length c0_4), (.int .i64 (q0_1.size))] 70, ow [(.slice (some ⟨b2_3, o2_2, none⟩) q0_1.long.length c0_2)] q0_1.long, ow [(.slice p0_3 q0_1.sizes.length c0_3)] q0_1.sizes, ow [(.slice p0_4 q0_1.places.length c0_4)] q0_1.places, ow [v2_6] s2_2, blk b2_2 [(.int .i64 (x2_1.op)), (.int .i64 (x2_1.a_)), (.int .i64 (x2_1.b)), (.int .i64 (x2_1.c)), (.int .i64 (x2_1.n_))] 27]) ?_ ?_
            ·
              rcases bcases (decide (x2_1.op = 21)) with h3_2 | h3_2
              ·
                replace hq2_2 := (ite_t h3_2).symm.trans hq2_2
                have h3_3 := of_decide_eq_true h3_2
                refine cond_t hf rfl h3_2 ?_
                refine wp_region_lit ?_
                refine st_y hf rfl rfl rfl (y_move rfl rfl) ?_
                clear hf a; intro a hf
                refine st_y hf rfl rfl rfl (y_fieldAddr fo_27_1 rfl rfl) ?_
                clear hf a; intro a hf
                refine st_y hf rfl rfl rfl (y_load1 Tryd.isAgg3 rfl rfl (hm.blk_cell 6 rfl rfl)) ?_
                clear hf a; intro a hf
                refine st_y hf rfl rfl rfl (y_conv8 Tryd.underlying3 Tryd.underlying5 rfl rfl) ?_
                clear hf a; intro a hf
                refine st_ef hf rfl rfl rfl (e_build (vs := #[(0, (.int .u8 (((byteI x2_1.a_)).toNat : Int)))]) (cs := [(.int .u8 (((byteI x2_1.a_)).toNat : Int))]) et_24 hf hm rfl rfl (by kernel_rfl) rfl rfl) ?_
                clear hf a; rintro _ w3_1 a ⟨b3_1, rfl, hm⟩ hf
                replace hm := hm.lit (xs := ([(byteI x2_1.a_)] : List UInt8)) 0 rfl rfl rfl rfl
                obtain ⟨ys3_1, hx3_1, hq2_2⟩ := bnd hq2_2
                obtain ⟨h3_4, h3_4e⟩ := appM_some.1 hx3_1
                refine st_ef hf rfl rfl rfl (e_append 6 et_24 hf hm rfl (hm.ow_rep 0 rfl) rfl rfl rfl h3_4) ?_
                clear hf a; rintro v3_1 w3_2 a hm hf
                rw [h3_4e] at hm
                refine st_y hf rfl rfl rfl (y_assign rfl rfl) ?_
                clear hf a; intro a hf
                refine st_end ?_
                refine x_then_n ?_
                obtain rfl := Option.some.inj hq2_2
                exact ⟨v3_1, hf.sub ⟨rfl, rfl, rfl, rfl, rfl, rfl, rfl, trivial⟩, hm.pick [2, 3, 4, 5, 6, 7] (by decide) rfl⟩
              ·
                replace hq2_2 := (ite_f h3_2).symm.trans hq2_2
                have h3_5 := of_decide_eq_false h3_2
                refine cond_f hf rfl h3_2 ?_
                refine wp_skip ?_
                refine x_then_n ?_
                obtain rfl := Option.some.inj hq2_2
                exact ⟨v2_5, hf.sub ⟨rfl, rfl, rfl, rfl, rfl, rfl, rfl, trivial⟩, hm.pick [1, 2, 3, 4, 5, 6] (by decide) rfl⟩
            ·
              clear hf hm
              rintro a w ⟨v2_6, hf, hm⟩
              refine x_then_n ?_
              refine wp_seq ?_
              refine wp_tree (.p 0 (.p 1 (.p 2 (.p 4 (.q 3 (.e 5 (.p 6 (.e 7 (.p 8 .fin) .nil)) .nil)))))) [5] [0, 1, 2, 4, 6, 8] (fun w => Mem w0 hz0_1 w [blk b0_2 [(.int .i64 (q0_1.f.params)), (.int .i64 (q0_1.f.slots)), v0_1, (.slice (some ⟨b2_3, o2_2, none⟩) q0_1.long.length c0_2), (.slice p0_3 q0_1.sizes.length c0_3), (.slice p0_4 q0_1.places.length c0_4), (.int .i64 (q0_1.size))] 70, ow [(.slice (some ⟨b2_3, o2_2, none⟩) q0_1.long.length c0_2)] q0_1.long, ow [(.slice p0_3 q0_1.sizes.length c0_3)] q0_1.sizes, ow [(.slice p0_4 q0_1.places.length c0_4)] q0_1.places, ow [v2_6] s2_2, blk b2_2 [(.int .i64 (x2_1.op)), (.int .i64 (x2_1.a_)), (.int .i64 (x2_1.b)), (.int .i64 (x2_1.c)), (.int .i64 (x2_1.n_))] 27]) (by kernel_rfl) (by kernel_rfl) (fun _ _ _ h => h.2) ?_
              replace hm := hm.drew
              have hS : Mem w0 hz0_1 _ [blk b0_2 [(.int .i64 (q0_1.f.params)), (.int .i64 (q0_1.f.slots)), v0_1, (.slice (some ⟨b2_3, o2_2, none⟩) q0_1.long.length c0_2), (.slice p0_3 q0_1.sizes.length c0_3), (.slice p0_4 q0_1.places.length c0_4), (.int .i64 (q0_1.size))] 70, ow [(.slice (some ⟨b2_3, o2_2, none⟩) q0_1.long.length c0_2)] q0_1.long, ow [(.slice p0_3 q0_1.sizes.length c0_3)] q0_1.sizes, ow [(.slice p0_4 q0_1.places.length c0_4)] q0_1.places, ow [v2_6] s2_2, blk b2_2 [(.int .i64 (x2_1.op)), (.int .i64 (x2_1.a_)), (.int .i64 (x2_1.b)), (.int .i64 (x2_1.c)), (.int .i64 (x2_1.n_))] 27] := hm.pick [0, 1, 2, 3, 4, 5] (by decide) rfl
              refine td_p hf rfl rfl rfl rfl (fun w => y_move rfl rfl) ?_
              clear hf a; intro a hf
              refine td_p hf rfl rfl rfl rfl (fun w => y_nilptr rfl rfl) ?_
              clear hf a; intro a hf
              refine td_p hf rfl rfl rfl rfl (fun w => y_fieldAddr fo_70_3 rfl rfl) ?_
              clear hf a; intro a hf
              refine td_p hf rfl rfl rfl rfl (fun w => y_fieldAddr fo_27_4 rfl rfl) ?_
              clear hf a; intro a hf
              refine td_y hf rfl rfl rfl rfl hS (fun w hm => y_load1 Tryd.isAgg46 rfl rfl (hm.blk_cell 0 rfl rfl)) ?_
              clear hf a; intro a hf
              refine te_one ?_
              refine td_ef hf rfl rfl rfl rfl (ef_y hf (y_load1 Tryd.isAgg3 rfl rfl (hm.blk_cell 5 rfl rfl))) ?_
              clear hf a; rintro _ _ a ⟨rfl, rfl⟩ hf
              refine ⟨fun _ => hS, ?_⟩
              obtain ⟨x2_3, hx2_9, hq1_1⟩ := bnd hq1_1
              obtain ⟨h2_8, hx2_10⟩ := getI_some.1 hx2_9
              obtain ⟨b2_5, o2_3, c2_3, he⟩ := idx_form (hm.ow_rep 3 rfl) hx2_10
              simp only [Value.slice.injEq, Option.some.injEq] at he; obtain ⟨rfl, _, rfl⟩ := he
              refine td_p hf rfl rfl rfl rfl (fun w => y_indexAddr st_46 rfl rfl rfl h2_8 (idx_lt hx2_10)) ?_
              clear hf a; intro a hf
              refine te_one ?_
              refine td_ef hf rfl rfl rfl rfl (ef_y hf (y_load1 Tryd.isAgg3 rfl rfl ((flat_cells (cs := [(.int .i64 (x2_3))]) (hm.ow_rep 3 rfl) hx2_10 rfl).cell (j := 0) rfl))) ?_
              clear hf a; rintro _ _ a ⟨rfl, rfl⟩ hf
              refine ⟨fun h => absurd h (by decide), ?_⟩
              refine td_p hf rfl rfl rfl rfl (fun w => y_assign rfl rfl) ?_
              clear hf a; intro a hf
              clear hS; refine td_end ?_
              refine x_then_n ?_
              refine wp_seq ?_
              refine wp_region_lit ?_
              refine st_y hf rfl rfl rfl (y_move rfl rfl) ?_
              clear hf a; intro a hf
              refine st_y hf rfl rfl rfl (y_nilptr rfl rfl) ?_
              clear hf a; intro a hf
              refine st_y hf rfl rfl rfl (y_fieldAddr fo_70_1 rfl rfl) ?_
              clear hf a; intro a hf
              refine st_y hf rfl rfl rfl (y_load1 Tryd.isAgg68 rfl rfl (hm.blk_cell 0 rfl rfl)) ?_
              clear hf a; intro a hf
              refine st_y hf rfl rfl rfl (y_move rfl rfl) ?_
              clear hf a; intro a hf
              obtain ⟨x2_4, hx2_11, hq1_1⟩ := bnd hq1_1
              obtain ⟨h2_9, hx2_12⟩ := getI_some.1 hx2_11
              refine st_y hf rfl rfl rfl (y_indexAddr st_68 rfl rfl rfl h2_9 (idx_lt hx2_12)) ?_
              clear hf a; intro a hf
              refine st_y hf rfl rfl rfl (y_load1 Tryd.isAgg4 rfl rfl ((flat_cells (cs := [(.bool (x2_4))]) (hm.ow_rep 1 rfl) hx2_12 rfl).cell (j := 0) rfl)) ?_
              clear hf a; intro a hf
              refine st_end ?_
              refine x_then_n ?_
              obtain ⟨s2_3, hq2_3, hq1_1⟩ := bnd hq1_1
              refine code_cut (K := fun a w => ∃ (v2_7 : Value), Fr 88 [(4, (.pointer (some ⟨b0_2, 0, none⟩))), (5, v2_7), (15, (.slice (some ⟨b2_1, o2_1, none⟩) f.ins.length c0_1)), (16, (.int .i64 ((f.ins.length : Int)))), (17, (.int .i64 (i1_1)))] a ∧ Mem w0 hz0_1 w [blk b0_2 [(.int .i64 (q0_1.f.params)), (.int .i64 (q0_1.f.slots)), v0_1, (.slice (some ⟨b2_3, o2_2, none⟩) q0_1.long.length c0_2), (.slice p0_3 q0_1.sizes.length c0_3), (.slice (some ⟨b2_5, o2_3, none⟩) q0_1.places.length c0_4), (.int .i64 (q0_1.size))] 70, ow [(.slice (some ⟨b2_3, o2_2, none⟩) q0_1.long.length c0_2)] q0_1.long, ow [(.slice p0_3 q0_1.sizes.length c0_3)] q0_1.sizes, ow [(.slice (some ⟨b2_5, o2_3, none⟩) q0_1.places.length c0_4)] q0_1.places, ow [v2_7] s2_3]) ?_ ?_
              ·
                rcases bcases (x2_4) with h3_6 | h3_6
                ·
                  replace hq2_3 := (ite_t h3_6).symm.trans hq2_3
                  refine cond_t hf rfl h3_6 ?_
                  refine wp_region_lit ?_
                  refine st_y hf rfl rfl rfl (y_move rfl rfl) ?_
                  clear hf a; intro a hf
                  refine st_y hf rfl rfl rfl (y_move rfl rfl) ?_
                  clear hf a; intro a hf
                  refine st_y hf rfl rfl rfl (y_rem rfl rfl rfl (by decide)) ?_
                  clear hf a; intro a hf
                  refine st_y hf rfl rfl rfl (y_conv8 Tryd.underlying3 Tryd.underlying5 rfl rfl) ?_
                  clear hf a; intro a hf
                  refine st_y hf rfl rfl rfl (y_move rfl rfl) ?_
                  clear hf a; intro a hf
                  refine st_y hf rfl rfl rfl (y_quo rfl rfl rfl (by decide)) ?_
                  clear hf a; intro a hf
                  refine st_y hf rfl rfl rfl (y_conv8 Tryd.underlying3 Tryd.underlying5 rfl rfl) ?_
                  clear hf a; intro a hf
                  refine st_ef hf rfl rfl rfl (e_build (vs := #[(0, (.int .u8 (((byteI (x2_3.tmod 256))).toNat : Int))), (1, (.int .u8 (((byteI (w64 (x2_3.tdiv 256)))).toNat : Int)))]) (cs := [(.int .u8 (((byteI (x2_3.tmod 256))).toNat : Int)), (.int .u8 (((byteI (w64 (x2_3.tdiv 256)))).toNat : Int))]) et_24 hf hm rfl rfl (by kernel_rfl) rfl rfl) ?_
                  clear hf a; rintro _ w3_3 a ⟨b3_2, rfl, hm⟩ hf
                  replace hm := hm.lit (xs := ([(byteI (x2_3.tmod 256)), (byteI (w64 (x2_3.tdiv 256)))] : List UInt8)) 0 rfl rfl rfl rfl
                  obtain ⟨ys3_2, hx3_2, hq2_3⟩ := bnd hq2_3
                  obtain ⟨h3_7, h3_7e⟩ := appM_some.1 hx3_2
                  refine st_ef hf rfl rfl rfl (e_append 5 et_24 hf hm rfl (hm.ow_rep 0 rfl) rfl rfl rfl h3_7) ?_
                  clear hf a; rintro v3_2 w3_4 a hm hf
                  rw [h3_7e] at hm
                  refine st_y hf rfl rfl rfl (y_assign rfl rfl) ?_
                  clear hf a; intro a hf
                  refine st_end ?_
                  refine x_then_n ?_
                  obtain rfl := Option.some.inj hq2_3
                  exact ⟨v3_2, hf.sub ⟨rfl, rfl, rfl, rfl, rfl, trivial⟩, hm.pick [1, 2, 3, 4, 5] (by decide) rfl⟩
                ·
                  replace hq2_3 := (ite_f h3_6).symm.trans hq2_3
                  refine cond_f hf rfl h3_6 ?_
                  refine wp_region_lit ?_
                  refine st_y hf rfl rfl rfl (y_move rfl rfl) ?_
                  clear hf a; intro a hf
                  refine st_y hf rfl rfl rfl (y_move rfl rfl) ?_
                  clear hf a; intro a hf
                  refine st_y hf rfl rfl rfl (y_move rfl rfl) ?_
                  clear hf a; intro a hf
                  obtain ⟨r3_1, hx3_3, hq2_3⟩ := bnd hq2_3
                  refine st_ef hf rfl rfl rfl (e_call hf rfl Tryd.call48 rfl (pimpl_layout__offset_ok _ q0_1 b0_2 v0_1 (hm.now h0_1) (.slice (some ⟨b2_3, o2_2, none⟩) q0_1.long.length c0_2) (hm.ow_rep 1 rfl) (.slice p0_3 q0_1.sizes.length c0_3) (hm.ow_rep 2 rfl) (.slice (some ⟨b2_5, o2_3, none⟩) q0_1.places.length c0_4) (hm.ow_rep 3 rfl) (hm.blk_cells 0 rfl).1 i1_1 _ hx3_3)) ?_
                  clear hf a; rintro v3_3 w3_5 a ho3_1 hf
                  obtain ⟨rfl, hB⟩ := ho3_1
                  replace hm := hm.below' hB; clear hB
                  refine st_y hf rfl rfl rfl (y_conv8 Tryd.underlying3 Tryd.underlying5 rfl rfl) ?_
                  clear hf a; intro a hf
                  refine st_ef hf rfl rfl rfl (e_build (vs := #[(0, (.int .u8 (((byteI r3_1)).toNat : Int)))]) (cs := [(.int .u8 (((byteI r3_1)).toNat : Int))]) et_24 hf hm rfl rfl (by kernel_rfl) rfl rfl) ?_
                  clear hf a; rintro _ w3_6 a ⟨b3_3, rfl, hm⟩ hf
                  replace hm := hm.lit (xs := ([(byteI r3_1)] : List UInt8)) 0 rfl rfl rfl rfl
                  obtain ⟨ys3_3, hx3_4, hq2_3⟩ := bnd hq2_3
                  obtain ⟨h3_8, h3_8e⟩ := appM_some.1 hx3_4
                  refine st_ef hf rfl rfl rfl (e_append 5 et_24 hf hm rfl (hm.ow_rep 0 rfl) rfl rfl rfl h3_8) ?_
                  clear hf a; rintro v3_4 w3_7 a hm hf
                  rw [h3_8e] at hm
                  refine st_y hf rfl rfl rfl (y_assign rfl rfl) ?_
                  clear hf a; intro a hf
                  refine st_end ?_
                  refine x_then_n ?_
                  obtain rfl := Option.some.inj hq2_3
                  exact ⟨v3_4, hf.sub ⟨rfl, rfl, rfl, rfl, rfl, trivial⟩, hm.pick [1, 2, 3, 4, 5] (by decide) rfl⟩
              ·
                clear hf hm
                rintro a w ⟨v2_7, hf, hm⟩
                refine x_blk_n ?_
                refine x_then_n ?_
                obtain rfl := Option.some.inj hq1_1
                exact ⟨v2_7, hf.sub ⟨rfl, rfl, rfl, rfl, rfl, trivial⟩, hm.pick [0, 1, 2, 3, 4] (by decide) rfl⟩
      ·
        clear hf hm
        rintro a w ⟨v1_2, hf, hm⟩
        refine x_then_n ?_
        refine wp_region_lit ?_
        refine st_y hf rfl rfl rfl (y_add64 rfl rfl rfl (by omega) (by omega)) ?_
        clear hf a; intro a hf
        refine st_y hf rfl rfl rfl (y_move rfl rfl) ?_
        clear hf a; intro a hf
        refine st_end ?_
        refine x_then_n ?_
        obtain rfl := Option.some.inj hb0_1
        exact ⟨_, rfl, v1_2, hf.sub ⟨rfl, rfl, rfl, rfl, rfl, trivial⟩, hm.pick [0, 1, 2, 3, 4] (by decide) rfl⟩
    ·
      clear hf hm
      rintro i0_1 xs0_1 a w ⟨v0_5, hf, hm⟩ hi0_1 hi0_2 rfl
      replace hq := sum_l hq
      refine wp_seq ?_
      refine wp_region_lit ?_
      refine st_y hf rfl rfl rfl (y_lss rfl rfl rfl) ?_
      clear hf a; intro a hf
      refine st_end ?_
      refine x_then_n ?_
      refine wp_seq ?_
      refine cond_f hf rfl (decide_eq_false (by omega)) ?_
      refine wp_exit ?_
      refine x_then_exit ?_
      refine x_then_exit ?_
      refine x_blk_hit ?_
      refine x_then_n ?_
      refine wp_seq ?_
      refine wp_region_lit ?_
      refine st_y hf rfl rfl rfl (y_move rfl rfl) ?_
      clear hf a; intro a hf
      refine st_y hf rfl rfl rfl (y_assign rfl rfl) ?_
      clear hf a; intro a hf
      refine st_y hf rfl rfl rfl (y_assign rfl rfl) ?_
      clear hf a; intro a hf
      refine st_end ?_
      refine x_then_n ?_
      refine wp_ret ?_
      obtain rfl := Option.some.inj hq
      replace hm := hm.thaw hle0_1
      refine ret_tmp2 hf Tryd.results17 rfl rfl ?_
      exact ⟨v0_5, rfl, hm.pick [4] (by decide) rfl⟩

theorem bytes_Equal_ok (w0 : World) (a_ : List UInt8) (v1 : Value) (h1 : GT.rep (hp w0) [v1] a_) (b_ : List UInt8) (v2 : Value) (h2 : GT.rep (hp w0) [v2] b_) (r : Bool) (hq : bytes_Equal a_ b_ = some r) :
    Con Tryd.prog 62 [v1, v2] w0 (fun v w' => v = (.bool (r)) ∧ Below w0.heap.size w0 w') := by
  unfold bytes_Equal at hq
  refine con_body (l := [(0, v1), (1, v2)]) Tryd.func62 rfl Tryd.ntmps62 (Args.get ⟨rfl, rfl, trivial⟩) rfl ?_
  intro a hf
  have hm := Mem.start w0
  refine wp_seq ?_
  refine wp_region_lit ?_
  refine st_y hf rfl rfl rfl (y_assign rfl rfl) ?_
  clear hf a; intro a hf
  refine st_end ?_
  refine x_then_n ?_
  refine wp_seq ?_
  refine wp_region_lit ?_
  refine st_y hf rfl rfl rfl (y_move rfl rfl) ?_
  clear hf a; intro a hf
  refine st_y hf rfl rfl rfl (y_bytesStr (xs := a_) Tryd.underlying24 Tryd.underlying5 Tryd.underlying9 rfl rfl (hm.now h1)) ?_
  clear hf a; intro a hf
  refine st_y hf rfl rfl rfl (y_move rfl rfl) ?_
  clear hf a; intro a hf
  refine st_y hf rfl rfl rfl (y_bytesStr (xs := b_) Tryd.underlying24 Tryd.underlying5 Tryd.underlying9 rfl rfl (hm.now h2)) ?_
  clear hf a; intro a hf
  refine st_y hf rfl rfl rfl (y_eqls (p := (strL a_)) (q := (strL b_)) rfl rfl rfl) ?_
  clear hf a; intro a hf
  refine st_y hf rfl rfl rfl (y_assign rfl rfl) ?_
  clear hf a; intro a hf
  refine st_end ?_
  refine x_then_n ?_
  refine wp_ret ?_
  obtain rfl := Option.some.inj hq
  refine ret_tmp hf Tryd.results62 rfl ?_
  exact ⟨rfl, hm.below⟩

theorem impl_DecodeFn_ok (w0 : World) (params : Int) (slots : Int) (code : List UInt8) (v1 : Value) (h1 : GT.rep (hp w0) [v1] code) (hG0 : GT.rep (hp w0) [.slice (some ⟨0, 0, none⟩) 23 23] glob_impl_forms) (r : Mfn × Bool) (hq : impl_DecodeFn params slots code = some r) :
    Con Tryd.prog 34 [(.int .i64 (params)), (.int .i64 (slots)), v1] w0 (fun v w' => ∃ (x1 : Value), v = (.tuple #[(.agg #[(.int .i64 (r.1.params)), (.int .i64 (r.1.slots)), x1]), (.bool (r.2))]) ∧ Mem w0 (hp w0) w' [ow [x1] r.1.ins]) := by
  unfold impl_DecodeFn at hq
  refine con_body (l := [(0, (.int .i64 (params))), (1, (.int .i64 (slots))), (2, v1)]) Tryd.func34 rfl Tryd.ntmps34 (Args.get ⟨rfl, rfl, rfl, trivial⟩) rfl ?_
  intro a hf
  have hm := Mem.start w0
  refine wp_seq ?_
  refine wp_region_lit ?_
  refine st_ef hf rfl rfl rfl (e_alloc hm Tryd.zeroValue35 rfl rfl) ?_
  clear hf a; rintro _ w0_1 a ⟨b0_1, rfl, hm⟩ hf
  refine st_y hf rfl rfl rfl (y_assign rfl rfl) ?_
  clear hf a; intro a hf
  refine st_end ?_
  refine x_then_n ?_
  refine wp_seq ?_
  refine wp_region_lit ?_
  refine st_y hf rfl rfl rfl (y_move rfl rfl) ?_
  clear hf a; intro a hf
  refine st_y hf rfl rfl rfl (y_move rfl rfl) ?_
  clear hf a; intro a hf
  refine st_y hf rfl rfl rfl (y_build (vs := [(0, (.int .i64 (params))), (1, (.int .i64 (slots)))]) (cs := #[(.int .i64 (params)), (.int .i64 (slots)), (.slice none 0 0)]) rfl rfl (by kernel_rfl)) ?_
  clear hf a; intro a hf
  refine st_ef hf rfl rfl rfl (e_alloc hm Tryd.zeroValue35 rfl rfl) ?_
  clear hf a; rintro _ w0_2 a ⟨b0_2, rfl, hm⟩ hf
  refine st_ef0 hf rfl rfl (e_storeN 0 hf hm rfl Tryd.sizeOf35 rfl rfl rfl (one_cons rfl (one_cons rfl (one_cons rfl one_nil))) rfl rfl) ?_
  clear hf a; rintro _ w0_3 a hm hf
  refine st_end ?_
  refine x_then_n ?_
  refine wp_seq ?_
  refine wp_region_lit ?_
  refine st_ef hf rfl rfl rfl (e_makeMap (κ := Int) (β := Int) (Value.int .i64) (Value.int .i64) hm rfl) ?_
  clear hf a; rintro _ w0_4 a ⟨b0_3, rfl, hm⟩ hf
  refine st_y hf rfl rfl rfl (y_assign rfl rfl) ?_
  clear hf a; intro a hf
  refine st_end ?_
  refine x_then_n ?_
  refine wp_seq ?_
  refine wp_seq ?_
  refine wp_region_lit ?_
  refine st_y hf rfl rfl rfl (y_assign rfl rfl) ?_
  clear hf a; intro a hf
  refine st_end ?_
  refine x_then_n ?_
  obtain ⟨c0_1, hq0_1, hq⟩ := bnd hq
  refine code_cut (K := fun a w => ∃ s0_1, c0_1 = .inl s0_1 ∧ ∃ (v0_1 : Value), Fr 93 [(2, v1), (6, (.pointer (some ⟨b0_1, 0, none⟩))), (8, (.pointer (some ⟨b0_2, 0, none⟩))), (9, (.map (some b0_3)))] a ∧ Mem w0 (hp w0) w [blk b0_1 [(.int .i64 (0)), (.int .i64 (0)), (.slice none 0 0)] 35, blk b0_2 [(.int .i64 (params)), (.int .i64 (slots)), v0_1] 35, ow [v0_1] s0_1.1, mapc (Value.int .i64) (Value.int .i64) b0_3 (s0_1.2 : List (Int × Int))]) ?_ ?_
  ·
    refine wp_block ?_
    obtain ⟨r1_1, hl1_1, hq0_1⟩ := bnd hq0_1
    refine wp_loopM _ (fun xs2_1 a w => ∃ (v2_1 : Value), Fr 93 [(2, v1), (6, (.pointer (some ⟨b0_1, 0, none⟩))), (8, (.pointer (some ⟨b0_2, 0, none⟩))), (9, (.map (some b0_3))), (10, (.int .i64 (xs2_1.2.2)))] a ∧ Mem w0 (hp w0) w [blk b0_1 [(.int .i64 (0)), (.int .i64 (0)), (.slice none 0 0)] 35, blk b0_2 [(.int .i64 (params)), (.int .i64 (slots)), v2_1] 35, ow [v2_1] xs2_1.1, mapc (Value.int .i64) (Value.int .i64) b0_3 (xs2_1.2.1 : List (Int × Int))]) hl1_1 ?_ ?_
    ·
      have hm := hm.nilow (α := Mins)
      exact ⟨(.slice none 0 0), hf.sub ⟨rfl, rfl, rfl, rfl, rfl, trivial⟩, hm.pick [3, 2, 0, 1] (by decide) rfl⟩
    ·
      clear hf hm
      rintro xs2_1 a w q1_1 ⟨v2_1, hf, hm⟩ hb1_1 ho1_1
      refine wp_seq ?_
      refine wp_seq ?_
      refine wp_region_lit ?_
      refine st_y hf rfl rfl rfl (y_move rfl rfl) ?_
      clear hf a; intro a hf
      refine st_y hf rfl rfl rfl (y_move rfl rfl) ?_
      clear hf a; intro a hf
      obtain ⟨p2_1, c2_1, he, hl2_1⟩ := ro_slice h1
      subst he
      refine st_y hf rfl rfl rfl (y_len_slice st_24.und rfl rfl) ?_
      clear hf a; intro a hf
      refine st_y hf rfl rfl rfl (y_lss rfl rfl rfl) ?_
      clear hf a; intro a hf
      refine st_end ?_
      refine x_then_n ?_
      rcases bcases (decide (xs2_1.2.2 < ((code.length : Int)))) with h2_1 | h2_1
      ·
        replace hb1_1 := (ite_t h2_1).symm.trans hb1_1
        have h2_2 := of_decide_eq_true h2_1
        refine cond_t hf rfl h2_1 ?_
        refine wp_skip ?_
        refine x_then_n ?_
        refine wp_block ?_
        refine wp_seq ?_
        refine wp_region_lit ?_
        refine st_y hf rfl rfl rfl (y_move rfl rfl) ?_
        clear hf a; intro a hf
        refine st_y hf rfl rfl rfl (y_move rfl rfl) ?_
        clear hf a; intro a hf
        obtain ⟨r2_1, hx2_1, hb1_1⟩ := bnd hb1_1
        refine st_ef hf rfl rfl rfl (e_call hf rfl Tryd.call61 rfl (impl_decoded_ok _ code (.slice p2_1 code.length c2_1) (hm.now h1) xs2_1.2.2 _ hx2_1)) ?_
        clear hf a; rintro v2_2 w2_1 a ho2_1 hf
        obtain ⟨rfl, hB⟩ := ho2_1
        replace hm := hm.below' hB; clear hB
        refine st_y hf rfl rfl rfl (y_move rfl rfl) ?_
        clear hf a; intro a hf
        refine st_y hf rfl rfl rfl (y_extract rfl rfl rfl) ?_
        clear hf a; intro a hf
        refine st_y hf rfl rfl rfl (y_extract rfl rfl rfl) ?_
        clear hf a; intro a hf
        refine st_ef hf rfl rfl rfl (e_alloc hm Tryd.zeroValue27 rfl rfl) ?_
        clear hf a; rintro _ w2_2 a ⟨b2_1, rfl, hm⟩ hf
        refine st_ef0 hf rfl rfl (e_storeN 0 hf hm rfl Tryd.sizeOf27 rfl rfl rfl (one_cons rfl (one_cons rfl (one_cons rfl (one_cons rfl (one_cons rfl one_nil))))) rfl rfl) ?_
        clear hf a; rintro _ w2_3 a hm hf
        refine st_y hf rfl rfl rfl (y_assign rfl rfl) ?_
        clear hf a; intro a hf
        refine st_end ?_
        refine x_then_n ?_
        refine wp_seq ?_
        refine wp_seq ?_
        refine wp_region_lit ?_
        refine st_y hf rfl rfl rfl (y_move rfl rfl) ?_
        clear hf a; intro a hf
        refine st_y hf rfl rfl rfl (y_eql rfl rfl rfl) ?_
        clear hf a; intro a hf
        refine st_end ?_
        refine x_then_n ?_
        rcases bcases (decide (r2_1.2 = 0)) with h2_3 | h2_3
        ·
          replace hb1_1 := (ite_t h2_3).symm.trans hb1_1
          have h2_4 := of_decide_eq_true h2_3
          refine cond_t hf rfl h2_3 ?_
          refine wp_seq ?_
          refine wp_region_lit ?_
          refine st_y hf rfl rfl rfl (y_build (vs := []) (cs := #[(.int .i64 (0)), (.int .i64 (0)), (.slice none 0 0)]) rfl rfl (by kernel_rfl)) ?_
          clear hf a; intro a hf
          refine st_ef0 hf rfl rfl (e_storeN 1 hf hm rfl Tryd.sizeOf35 rfl rfl rfl (one_cons rfl (one_cons rfl (one_cons rfl one_nil))) rfl rfl) ?_
          clear hf a; rintro _ w2_4 a hm hf
          refine st_y hf rfl rfl rfl (y_assign rfl rfl) ?_
          clear hf a; intro a hf
          refine st_end ?_
          refine x_then_n ?_
          refine wp_ret ?_
          refine x_then_ret ?_
          refine x_blk_ret ?_
          refine x_then_ret ?_
          refine x_blk_ret ?_
          refine x_then_ret ?_
          refine x_then_ret ?_
          obtain rfl := Option.some.inj hb1_1
          obtain rfl := ho1_1 _ rfl
          replace hq0_1 := sum_l hq0_1
          obtain rfl := Option.some.inj hq0_1
          replace hq := sum_r hq
          obtain rfl := Option.some.inj hq
          have hm := hm.nilow (α := Mins)
          refine ret_cell_tmp 2 hf Tryd.results34 hm rfl rfl Tryd.isAgg35 Tryd.sizeOf35 rfl ?_
          exact ⟨(.slice none 0 0), rfl, hm.pick [0] (by decide) rfl⟩
        ·
          replace hb1_1 := (ite_f h2_3).symm.trans hb1_1
          have h2_5 := of_decide_eq_false h2_3
          refine cond_f hf rfl h2_3 ?_
          refine wp_skip ?_
          refine x_then_n ?_
          refine wp_seq ?_
          refine wp_region_lit ?_
          refine st_y hf rfl rfl rfl (y_move rfl rfl) ?_
          clear hf a; intro a hf
          refine st_y hf rfl rfl rfl (y_move rfl rfl) ?_
          clear hf a; intro a hf
          refine st_y hf rfl rfl rfl (y_fieldAddr fo_35_2 rfl rfl) ?_
          clear hf a; intro a hf
          refine st_y hf rfl rfl rfl (y_load1 Tryd.isAgg33 rfl rfl (hm.blk_cell 2 rfl rfl)) ?_
          clear hf a; intro a hf
          obtain ⟨p2_2, c2_2, he, hl2_2⟩ := ro_slice (hm.ow_rep 3 rfl)
          subst he
          refine st_y hf rfl rfl rfl (y_len_slice st_33.und rfl rfl) ?_
          clear hf a; intro a hf
          refine st_ef0 hf rfl rfl (e_mapUpdate (key := xs2_1.2.2) (v := (xs2_1.1.length : Int)) (b := false) 4 (key_int Tryd.underlying3) Tryd.underlying85 hf hm rfl rfl rfl rfl rfl) ?_
          clear hf a; rintro _ w2_5 a hm hf
          refine st_end ?_
          refine x_then_n ?_
          refine wp_seq ?_
          refine wp_region_lit ?_
          refine st_y hf rfl rfl rfl (y_fieldAddr fo_35_2 rfl rfl) ?_
          clear hf a; intro a hf
          refine st_y hf rfl rfl rfl (y_load1 Tryd.isAgg33 rfl rfl (hm.blk_cell 2 rfl rfl)) ?_
          clear hf a; intro a hf
          refine st_y hf rfl rfl rfl (y_loadN (cs := [(.int .i64 (r2_1.1.op)), (.int .i64 (r2_1.1.a_)), (.int .i64 (r2_1.1.b)), (.int .i64 (r2_1.1.c)), (.int .i64 (r2_1.1.n_))]) Tryd.isAgg27 Tryd.sizeOf27 rfl rfl (hm.blk_at 0 rfl)) ?_
          clear hf a; intro a hf
          refine st_ef hf rfl rfl rfl (e_build (vs := #[(0, (.agg #[(.int .i64 (r2_1.1.op)), (.int .i64 (r2_1.1.a_)), (.int .i64 (r2_1.1.b)), (.int .i64 (r2_1.1.c)), (.int .i64 (r2_1.1.n_))]))]) (cs := [(.int .i64 (r2_1.1.op)), (.int .i64 (r2_1.1.a_)), (.int .i64 (r2_1.1.b)), (.int .i64 (r2_1.1.c)), (.int .i64 (r2_1.1.n_))]) et_33 hf hm rfl rfl (by kernel_rfl) rfl rfl) ?_
          clear hf a; rintro _ w2_6 a ⟨b2_2, rfl, hm⟩ hf
          replace hm := hm.lit (xs := ([r2_1.1] : List Mins)) 0 rfl rfl rfl rfl
          obtain ⟨ys2_1, hx2_2, hb1_1⟩ := bnd hb1_1
          obtain ⟨h2_6, h2_6e⟩ := appM_some.1 hx2_2
          refine st_ef hf rfl rfl rfl (e_append 4 et_33 hf hm rfl (hm.ow_rep 0 rfl) rfl rfl rfl h2_6) ?_
          clear hf a; rintro v2_3 w2_7 a hm hf
          rw [h2_6e] at hm
          refine st_y hf rfl rfl rfl (y_fieldAddr fo_35_2 rfl rfl) ?_
          clear hf a; intro a hf
          refine st_ef0 hf rfl rfl (e_store1 3 hf hm rfl Tryd.sizeOf33 rfl rfl rfl (rep_one (hm.ow_rep 4 rfl)) rfl) ?_
          clear hf a; rintro _ w2_8 a hm hf
          refine st_end ?_
          refine x_then_n ?_
          refine wp_region_lit ?_
          refine st_y hf rfl rfl rfl (y_move rfl rfl) ?_
          clear hf a; intro a hf
          refine st_y hf rfl rfl rfl (y_move rfl rfl) ?_
          clear hf a; intro a hf
          refine st_y hf rfl rfl rfl (y_addw rfl rfl rfl) ?_
          clear hf a; intro a hf
          refine st_y hf rfl rfl rfl (y_assign rfl rfl) ?_
          clear hf a; intro a hf
          refine st_end ?_
          refine x_blk_n ?_
          refine x_then_n ?_
          obtain rfl := Option.some.inj hb1_1
          exact ⟨_, rfl, v2_3, hf.sub ⟨rfl, rfl, rfl, rfl, rfl, trivial⟩, hm.pick [2, 3, 4, 5] (by decide) rfl⟩
      ·
        replace hb1_1 := (ite_f h2_1).symm.trans hb1_1
        have h2_7 := of_decide_eq_false h2_1
        refine cond_f hf rfl h2_1 ?_
        refine wp_exit ?_
        refine x_then_exit ?_
        refine x_then_exit ?_
        refine x_blk_hit ?_
        refine x_then_n ?_
        obtain rfl := Option.some.inj hb1_1
        obtain rfl := ho1_1 _ rfl
        replace hq0_1 := sum_r hq0_1
        obtain rfl := Option.some.inj hq0_1
        exact ⟨_, rfl, v2_1, hf.sub ⟨rfl, rfl, rfl, rfl, trivial⟩, hm.pick [0, 1, 2, 3] (by decide) rfl⟩
  ·
    clear hf hm
    rintro a w ⟨s0_1, rfl, v0_1, hf, hm⟩
    replace hq := sum_l hq
    refine x_then_n ?_
    refine wp_seq ?_
    refine wp_seq ?_
    refine wp_region_lit ?_
    refine st_y hf rfl rfl rfl (y_fieldAddr fo_35_2 rfl rfl) ?_
    clear hf a; intro a hf
    refine st_y hf rfl rfl rfl (y_load1 Tryd.isAgg33 rfl rfl (hm.blk_cell 1 rfl rfl)) ?_
    clear hf a; intro a hf
    obtain ⟨p0_1, c0_2, he, hl0_1⟩ := ro_slice (hm.ow_rep 2 rfl)
    subst he
    refine st_y hf rfl rfl rfl (y_len_slice st_33.und rfl rfl) ?_
    clear hf a; intro a hf
    refine st_y hf rfl rfl rfl (y_move rfl rfl) ?_
    clear hf a; intro a hf
    refine st_end ?_
    refine x_then_n ?_
    refine wp_block ?_
    obtain ⟨r0_1, hl0_2, hq⟩ := bnd hq
    refine wp_forN _ (fun i1_1 xs1_1 a w => Fr 93 [(2, v1), (6, (.pointer (some ⟨b0_1, 0, none⟩))), (8, (.pointer (some ⟨b0_2, 0, none⟩))), (9, (.map (some b0_3))), (51, (.slice p0_1 s0_1.1.length c0_2)), (52, (.int .i64 ((s0_1.1.length : Int)))), (53, (.int .i64 (i1_1)))] a ∧ Mem w0 (hp w0) w [blk b0_1 [(.int .i64 (0)), (.int .i64 (0)), (.slice none 0 0)] 35, blk b0_2 [(.int .i64 (params)), (.int .i64 (slots)), (.slice p0_1 s0_1.1.length c0_2)] 35, ow [(.slice p0_1 s0_1.1.length c0_2)] xs1_1, mapc (Value.int .i64) (Value.int .i64) b0_3 (s0_1.2 : List (Int × Int))]) (0) ((s0_1.1.length : Int)) hl0_2 ?_ ?_ ?_
    ·
      exact ⟨hf.sub ⟨rfl, rfl, rfl, rfl, rfl, rfl, rfl, trivial⟩, hm.pick [0, 1, 2, 3] (by decide) rfl⟩
    ·
      clear hf hm
      rintro i1_1 xs1_1 a w ⟨hf, hm⟩ hi1_1 hi1_2 q0_1 hb0_1 ho0_1
      refine wp_seq ?_
      refine wp_region_lit ?_
      refine st_y hf rfl rfl rfl (y_lss rfl rfl rfl) ?_
      clear hf a; intro a hf
      refine st_end ?_
      refine x_then_n ?_
      refine wp_seq ?_
      refine cond_t hf rfl (decide_eq_true (by omega)) ?_
      refine wp_skip ?_
      refine x_then_n ?_
      refine wp_seq ?_
      obtain ⟨c1_1, hq1_1, hb0_1⟩ := bnd hb0_1
      refine code_cut (K := fun a w => ∃ s1_1, c1_1 = .inl s1_1 ∧ Fr 93 [(2, v1), (6, (.pointer (some ⟨b0_1, 0, none⟩))), (8, (.pointer (some ⟨b0_2, 0, none⟩))), (9, (.map (some b0_3))), (51, (.slice p0_1 s0_1.1.length c0_2)), (52, (.int .i64 ((s0_1.1.length : Int)))), (53, (.int .i64 (i1_1)))] a ∧ Mem w0 (hp w0) w [blk b0_1 [(.int .i64 (0)), (.int .i64 (0)), (.slice none 0 0)] 35, blk b0_2 [(.int .i64 (params)), (.int .i64 (slots)), (.slice p0_1 s0_1.1.length c0_2)] 35, ow [(.slice p0_1 s0_1.1.length c0_2)] s1_1, mapc (Value.int .i64) (Value.int .i64) b0_3 (s0_1.2 : List (Int × Int))]) ?_ ?_
      ·
        refine wp_block ?_
        refine wp_seq ?_
        refine wp_region_lit ?_
        refine st_y hf rfl rfl rfl (y_move rfl rfl) ?_
        clear hf a; intro a hf
        obtain ⟨x2_1, hx2_3, hq1_1⟩ := bnd hq1_1
        obtain ⟨h2_8, hx2_4⟩ := getI_some.1 hx2_3
        obtain ⟨b2_3, o2_1, c2_3, he⟩ := idx_form (hm.ow_rep 2 rfl) hx2_4
        simp only [Value.slice.injEq, Option.some.injEq] at he; obtain ⟨rfl, _, rfl⟩ := he
        have hL2_1 := rep_slice_len (hm.ow_rep 2 rfl)
        refine st_y hf rfl rfl rfl (y_indexAddr st_33 rfl rfl rfl h2_8 (idx_lt2 hx2_4 hL2_1)) ?_
        clear hf a; intro a hf
        refine st_y hf rfl rfl rfl (y_loadN (cs := [(.int .i64 (x2_1.op)), (.int .i64 (x2_1.a_)), (.int .i64 (x2_1.b)), (.int .i64 (x2_1.c)), (.int .i64 (x2_1.n_))]) Tryd.isAgg27 Tryd.sizeOf27 rfl rfl (flat_cells (cs := [(.int .i64 (x2_1.op)), (.int .i64 (x2_1.a_)), (.int .i64 (x2_1.b)), (.int .i64 (x2_1.c)), (.int .i64 (x2_1.n_))]) (hm.ow_rep 2 rfl) hx2_4 rfl)) ?_
        clear hf a; intro a hf
        refine st_ef hf rfl rfl rfl (e_alloc hm Tryd.zeroValue27 rfl rfl) ?_
        clear hf a; rintro _ w2_9 a ⟨b2_4, rfl, hm⟩ hf
        refine st_y hf rfl rfl rfl (y_assign rfl rfl) ?_
        clear hf a; intro a hf
        refine st_ef0 hf rfl rfl (e_storeN 0 hf hm rfl Tryd.sizeOf27 rfl rfl rfl (one_cons rfl (one_cons rfl (one_cons rfl (one_cons rfl (one_cons rfl one_nil))))) rfl rfl) ?_
        clear hf a; rintro _ w2_10 a hm hf
        refine st_end ?_
        refine x_then_n ?_
        refine wp_seq ?_
        refine wp_region_lit ?_
        refine st_y hf rfl rfl rfl (y_fieldAddr fo_27_0 rfl rfl) ?_
        clear hf a; intro a hf
        refine st_y hf rfl rfl rfl (y_load1 Tryd.isAgg3 rfl rfl (hm.blk_cell 0 rfl rfl)) ?_
        clear hf a; intro a hf
        obtain ⟨r2_2, hx2_5, hq1_1⟩ := bnd hq1_1
        refine st_ef hf rfl rfl rfl (e_call hf rfl Tryd.call42 rfl (impl_jumpOp_ok _ x2_1.op _ hx2_5)) ?_
        clear hf a; rintro v2_4 w2_11 a ho2_2 hf
        obtain ⟨rfl, hB⟩ := ho2_2
        replace hm := hm.below' hB; clear hB
        refine st_end ?_
        refine x_then_n ?_
        obtain ⟨c2_4, hq2_1, hq1_1⟩ := bnd hq1_1
        refine code_cut (K := fun a w => ∃ s2_1, c2_4 = .inl s2_1 ∧ Fr 93 [(2, v1), (6, (.pointer (some ⟨b0_1, 0, none⟩))), (8, (.pointer (some ⟨b0_2, 0, none⟩))), (9, (.map (some b0_3))), (51, (.slice (some ⟨b2_3, o2_1, none⟩) s0_1.1.length c0_2)), (52, (.int .i64 ((s0_1.1.length : Int)))), (53, (.int .i64 (i1_1)))] a ∧ Mem w0 (hp w0) w [blk b0_1 [(.int .i64 (0)), (.int .i64 (0)), (.slice none 0 0)] 35, blk b0_2 [(.int .i64 (params)), (.int .i64 (slots)), (.slice (some ⟨b2_3, o2_1, none⟩) s0_1.1.length c0_2)] 35, ow [(.slice (some ⟨b2_3, o2_1, none⟩) s0_1.1.length c0_2)] s2_1, mapc (Value.int .i64) (Value.int .i64) b0_3 (s0_1.2 : List (Int × Int))]) ?_ ?_
        ·
          rcases bcases (r2_2) with h3_1 | h3_1
          ·
            replace hq2_1 := (ite_t h3_1).symm.trans hq2_1
            refine cond_t hf rfl h3_1 ?_
            refine wp_seq ?_
            refine wp_region_lit ?_
            refine st_y hf rfl rfl rfl (y_move rfl rfl) ?_
            clear hf a; intro a hf
            refine st_y hf rfl rfl rfl (y_fieldAddr fo_27_4 rfl rfl) ?_
            clear hf a; intro a hf
            refine st_y hf rfl rfl rfl (y_load1 Tryd.isAgg3 rfl rfl (hm.blk_cell 0 rfl rfl)) ?_
            clear hf a; intro a hf
            refine st_y hf rfl rfl rfl (y_lookup2 (key := x2_1.n_) 4 (key_int Tryd.underlying3) Tryd.underlying85 Tryd.zeroValue3 hm rfl rfl rfl rfl) ?_
            clear hf a; intro a hf
            rw [show (lookM (s0_1.2 : List (Int × Int)) x2_1.n_).elim (.int .i64 (0)) (Value.int .i64) = (.int .i64 (((lookM (s0_1.2 : List (Int × Int)) x2_1.n_).getD 0))) from elim_getD rfl] at hf
            refine st_y hf rfl rfl rfl (y_move rfl rfl) ?_
            clear hf a; intro a hf
            refine st_y hf rfl rfl rfl (y_extract rfl rfl rfl) ?_
            clear hf a; intro a hf
            refine st_y hf rfl rfl rfl (y_extract rfl rfl rfl) ?_
            clear hf a; intro a hf
            refine st_y hf rfl rfl rfl (y_assign rfl rfl) ?_
            clear hf a; intro a hf
            refine st_y hf rfl rfl rfl (y_assign rfl rfl) ?_
            clear hf a; intro a hf
            refine st_end ?_
            refine x_then_n ?_
            refine wp_seq ?_
            refine wp_seq ?_
            refine wp_region_lit ?_
            refine st_y hf rfl rfl rfl (y_move rfl rfl) ?_
            clear hf a; intro a hf
            refine st_y hf rfl rfl rfl (y_not rfl rfl) ?_
            clear hf a; intro a hf
            refine st_end ?_
            refine x_then_n ?_
            rcases bcases (!((lookM (s0_1.2 : List (Int × Int)) x2_1.n_).isSome)) with h3_2 | h3_2
            ·
              replace hq2_1 := (ite_t h3_2).symm.trans hq2_1
              have h3_3 := bnot_t' h3_2
              refine cond_t hf rfl h3_2 ?_
              refine wp_seq ?_
              refine wp_region_lit ?_
              refine st_y hf rfl rfl rfl (y_build (vs := []) (cs := #[(.int .i64 (0)), (.int .i64 (0)), (.slice none 0 0)]) rfl rfl (by kernel_rfl)) ?_
              clear hf a; intro a hf
              refine st_ef0 hf rfl rfl (e_storeN 1 hf hm rfl Tryd.sizeOf35 rfl rfl rfl (one_cons rfl (one_cons rfl (one_cons rfl one_nil))) rfl rfl) ?_
              clear hf a; rintro _ w3_1 a hm hf
              refine st_y hf rfl rfl rfl (y_assign rfl rfl) ?_
              clear hf a; intro a hf
              refine st_end ?_
              refine x_then_n ?_
              refine wp_ret ?_
              refine x_then_ret ?_
              refine x_then_ret ?_
              refine x_blk_ret ?_
              refine x_then_ret ?_
              refine x_then_ret ?_
              refine x_then_ret ?_
              refine x_blk_ret ?_
              refine x_then_ret ?_
              obtain rfl := Option.some.inj hq2_1
              replace hq1_1 := sum_r hq1_1
              obtain rfl := Option.some.inj hq1_1
              replace hb0_1 := sum_r hb0_1
              obtain rfl := Option.some.inj hb0_1
              obtain rfl := ho0_1 _ rfl
              replace hq := sum_r hq
              obtain rfl := Option.some.inj hq
              have hm := hm.nilow (α := Mins)
              refine ret_cell_tmp 2 hf Tryd.results34 hm rfl rfl Tryd.isAgg35 Tryd.sizeOf35 rfl ?_
              exact ⟨(.slice none 0 0), rfl, hm.pick [0] (by decide) rfl⟩
            ·
              replace hq2_1 := (ite_f h3_2).symm.trans hq2_1
              have h3_4 := bnot_f' h3_2
              refine cond_f hf rfl h3_2 ?_
              refine wp_skip ?_
              refine x_then_n ?_
              refine wp_region_lit ?_
              refine st_y hf rfl rfl rfl (y_fieldAddr fo_35_2 rfl rfl) ?_
              clear hf a; intro a hf
              refine st_y hf rfl rfl rfl (y_load1 Tryd.isAgg33 rfl rfl (hm.blk_cell 2 rfl rfl)) ?_
              clear hf a; intro a hf
              refine st_y hf rfl rfl rfl (y_move rfl rfl) ?_
              clear hf a; intro a hf
              refine st_y hf rfl rfl rfl (y_move rfl rfl) ?_
              clear hf a; intro a hf
              have hL3_1 := rep_slice_len (hm.ow_rep 3 rfl)
              refine st_y hf rfl rfl rfl (y_indexAddr st_33 rfl rfl rfl h2_8 (idx_lt2 hx2_4 hL3_1)) ?_
              clear hf a; intro a hf
              refine st_y hf rfl rfl rfl (y_fieldAddr fo_27_4 rfl rfl) ?_
              clear hf a; intro a hf
              refine st_ef0 hf rfl rfl (e_setElem (x1 := (⟨x2_1.op, x2_1.a_, x2_1.b, x2_1.c, ((lookM (s0_1.2 : List (Int × Int)) x2_1.n_).getD 0)⟩ : Mins)) (j := 4) (vs := [(.int .i64 (((lookM (s0_1.2 : List (Int × Int)) x2_1.n_).getD 0)))]) 3 hf hm rfl hx2_4 rfl Tryd.sizeOf3 rfl rfl rfl (one_cons rfl one_nil) rfl rfl) ?_
              clear hf a; rintro _ w3_2 a hm hf
              have hx3_1 := List.getElem?_set_self (a := (⟨x2_1.op, x2_1.a_, x2_1.b, x2_1.c, ((lookM (s0_1.2 : List (Int × Int)) x2_1.n_).getD 0)⟩ : Mins)) (idx_lt hx2_4)
              refine st_end ?_
              refine x_then_n ?_
              obtain rfl := Option.some.inj hq2_1
              exact ⟨_, rfl, hf.sub ⟨rfl, rfl, rfl, rfl, rfl, rfl, rfl, trivial⟩, hm.pick [1, 2, 3, 4] (by decide) rfl⟩
          ·
            replace hq2_1 := (ite_f h3_1).symm.trans hq2_1
            refine cond_f hf rfl h3_1 ?_
            refine wp_skip ?_
            refine x_then_n ?_
            obtain rfl := Option.some.inj hq2_1
            exact ⟨_, rfl, hf.sub ⟨rfl, rfl, rfl, rfl, rfl, rfl, rfl, trivial⟩, hm.pick [1, 2, 3, 4] (by decide) rfl⟩
        ·
          clear hf hm
          rintro a w ⟨s2_1, rfl, hf, hm⟩
          replace hq1_1 := sum_l hq1_1
          refine x_blk_n ?_
          refine x_then_n ?_
          obtain rfl := Option.some.inj hq1_1
          exact ⟨_, rfl, hf.sub ⟨rfl, rfl, rfl, rfl, rfl, rfl, rfl, trivial⟩, hm.pick [0, 1, 2, 3] (by decide) rfl⟩
      ·
        clear hf hm
        rintro a w ⟨s1_1, rfl, hf, hm⟩
        replace hb0_1 := sum_l hb0_1
        refine x_then_n ?_
        refine wp_region_lit ?_
        refine st_y hf rfl rfl rfl (y_add64 rfl rfl rfl (by omega) (by omega)) ?_
        clear hf a; intro a hf
        refine st_y hf rfl rfl rfl (y_move rfl rfl) ?_
        clear hf a; intro a hf
        refine st_end ?_
        refine x_then_n ?_
        obtain rfl := Option.some.inj hb0_1
        exact ⟨_, rfl, hf.sub ⟨rfl, rfl, rfl, rfl, rfl, rfl, rfl, trivial⟩, hm.pick [0, 1, 2, 3] (by decide) rfl⟩
    ·
      clear hf hm
      rintro i0_1 xs0_1 a w ⟨hf, hm⟩ hi0_1 hi0_2 rfl
      replace hq := sum_l hq
      refine wp_seq ?_
      refine wp_region_lit ?_
      refine st_y hf rfl rfl rfl (y_lss rfl rfl rfl) ?_
      clear hf a; intro a hf
      refine st_end ?_
      refine x_then_n ?_
      refine wp_seq ?_
      refine cond_f hf rfl (decide_eq_false (by omega)) ?_
      refine wp_exit ?_
      refine x_then_exit ?_
      refine x_then_exit ?_
      refine x_blk_hit ?_
      refine x_then_n ?_
      refine wp_seq ?_
      refine wp_seq ?_
      refine wp_region_lit ?_
      refine st_y hf rfl rfl rfl (y_loadN (cs := [(.int .i64 (params)), (.int .i64 (slots)), (.slice p0_1 s0_1.1.length c0_2)]) Tryd.isAgg35 Tryd.sizeOf35 rfl rfl (hm.blk_at 1 rfl)) ?_
      clear hf a; intro a hf
      obtain ⟨r0_2, hx0_1, hq⟩ := bnd hq
      refine st_ef hf rfl rfl rfl (e_call hf rfl Tryd.call17 rfl (impl_EncodeFn_ok _ (⟨params, slots, xs0_1⟩ : Mfn) (.slice p0_1 s0_1.1.length c0_2) (hm.ow_rep 2 rfl) (hm.now hG0) _ hx0_1)) ?_
      clear hf a; rintro v0_2 w0_5 a ho0_2 hf
      obtain ⟨v0_3, rfl, hB⟩ := ho0_2
      replace hm := hm.give hB; clear hB
      refine st_y hf rfl rfl rfl (y_move rfl rfl) ?_
      clear hf a; intro a hf
      refine st_y hf rfl rfl rfl (y_extract rfl rfl rfl) ?_
      clear hf a; intro a hf
      refine st_y hf rfl rfl rfl (y_extract rfl rfl rfl) ?_
      clear hf a; intro a hf
      refine st_y hf rfl rfl rfl (y_assign rfl rfl) ?_
      clear hf a; intro a hf
      refine st_y hf rfl rfl rfl (y_assign rfl rfl) ?_
      clear hf a; intro a hf
      refine st_end ?_
      refine x_then_n ?_
      refine wp_seq ?_
      obtain ⟨s0_2, hq0_2, hq⟩ := bnd hq
      refine code_cut (K := fun a w => Fr 93 [(6, (.pointer (some ⟨b0_1, 0, none⟩))), (8, (.pointer (some ⟨b0_2, 0, none⟩))), (90, (.bool (s0_2)))] a ∧ Mem w0 (hp w0) w [blk b0_1 [(.int .i64 (0)), (.int .i64 (0)), (.slice none 0 0)] 35, blk b0_2 [(.int .i64 (params)), (.int .i64 (slots)), (.slice p0_1 s0_1.1.length c0_2)] 35, ow [(.slice p0_1 s0_1.1.length c0_2)] xs0_1]) ?_ ?_
      ·
        refine wp_region_lit ?_
        refine st_y hf rfl rfl rfl (y_move rfl rfl) ?_
        clear hf a; intro a hf
        refine st_y hf rfl rfl rfl (y_not rfl rfl) ?_
        clear hf a; intro a hf
        refine st_y hf rfl rfl rfl (y_move rfl rfl) ?_
        clear hf a; intro a hf
        rcases bcases (!(r0_2.2)) with h1_1 | h1_1
        ·
          replace hq0_2 := (ite_t h1_1).symm.trans hq0_2
          have h1_2 := bnot_t' h1_1
          refine st_no hf rfl rfl (lk_b rfl h1_1) rfl rfl rfl ?_
          clear hf a; intro a hf
          refine st_no hf rfl rfl (lk_b rfl h1_1) rfl rfl rfl ?_
          clear hf a; intro a hf
          refine st_no hf rfl rfl (lk_b rfl h1_1) rfl rfl rfl ?_
          clear hf a; intro a hf
          refine st_no hf rfl rfl (lk_b rfl h1_1) rfl rfl rfl ?_
          clear hf a; intro a hf
          refine st_y hf rfl rfl rfl (y_pick_t rfl (ev_b rfl h1_1) rfl) ?_
          clear hf a; intro a hf
          refine st_end ?_
          refine x_then_n ?_
          obtain rfl := Option.some.inj hq0_2
          exact ⟨hf.sub ⟨rfl, rfl, rfl, trivial⟩, hm.pick [1, 2, 3] (by decide) rfl⟩
        ·
          replace hq0_2 := (ite_f h1_1).symm.trans hq0_2
          have h1_3 := bnot_f' h1_1
          refine st_yg hf rfl rfl (lk_b rfl h1_1) rfl rfl (y_move rfl rfl) ?_
          clear hf a; intro a hf
          refine st_yg hf rfl rfl (lk_b rfl h1_1) rfl rfl (y_move rfl rfl) ?_
          clear hf a; intro a hf
          obtain ⟨r1_2, hx1_1, hq0_2⟩ := bnd hq0_2
          refine st_efg hf rfl rfl (lk_b rfl h1_1) rfl rfl (e_call hf rfl Tryd.call62 rfl (bytes_Equal_ok _ r0_2.1 v0_3 (hm.ow_rep 0 rfl) code v1 (hm.now h1) _ hx1_1)) ?_
          clear hf a; rintro v1_1 w1_1 a ho1_2 hf
          obtain ⟨rfl, hB⟩ := ho1_2
          replace hm := hm.below' hB; clear hB
          refine st_yg hf rfl rfl (lk_b rfl h1_1) rfl rfl (y_not rfl rfl) ?_
          clear hf a; intro a hf
          refine st_y hf rfl rfl rfl (y_pick_f rfl (ev_b rfl h1_1) rfl) ?_
          clear hf a; intro a hf
          refine st_end ?_
          refine x_then_n ?_
          obtain rfl := Option.some.inj hq0_2
          exact ⟨hf.sub ⟨rfl, rfl, rfl, trivial⟩, hm.pick [1, 2, 3] (by decide) rfl⟩
      ·
        clear hf hm
        rintro a w ⟨hf, hm⟩
        refine x_then_n ?_
        rcases bcases (s0_2) with h0_1 | h0_1
        ·
          replace hq := (ite_t h0_1).symm.trans hq
          refine cond_t hf rfl h0_1 ?_
          refine wp_seq ?_
          refine wp_region_lit ?_
          refine st_y hf rfl rfl rfl (y_build (vs := []) (cs := #[(.int .i64 (0)), (.int .i64 (0)), (.slice none 0 0)]) rfl rfl (by kernel_rfl)) ?_
          clear hf a; intro a hf
          refine st_ef0 hf rfl rfl (e_storeN 0 hf hm rfl Tryd.sizeOf35 rfl rfl rfl (one_cons rfl (one_cons rfl (one_cons rfl one_nil))) rfl rfl) ?_
          clear hf a; rintro _ w0_6 a hm hf
          refine st_y hf rfl rfl rfl (y_assign rfl rfl) ?_
          clear hf a; intro a hf
          refine st_end ?_
          refine x_then_n ?_
          refine wp_ret ?_
          refine x_then_ret ?_
          obtain rfl := Option.some.inj hq
          have hm := hm.nilow (α := Mins)
          refine ret_cell_tmp 1 hf Tryd.results34 hm rfl rfl Tryd.isAgg35 Tryd.sizeOf35 rfl ?_
          exact ⟨(.slice none 0 0), rfl, hm.pick [0] (by decide) rfl⟩
        ·
          replace hq := (ite_f h0_1).symm.trans hq
          refine cond_f hf rfl h0_1 ?_
          refine wp_skip ?_
          refine x_then_n ?_
          refine wp_seq ?_
          refine wp_region_lit ?_
          refine st_y hf rfl rfl rfl (y_loadN (cs := [(.int .i64 (params)), (.int .i64 (slots)), (.slice p0_1 s0_1.1.length c0_2)]) Tryd.isAgg35 Tryd.sizeOf35 rfl rfl (hm.blk_at 1 rfl)) ?_
          clear hf a; intro a hf
          refine st_ef0 hf rfl rfl (e_storeN 0 hf hm rfl Tryd.sizeOf35 rfl rfl rfl (one_cons rfl (one_cons rfl (one_cons rfl one_nil))) rfl rfl) ?_
          clear hf a; rintro _ w0_7 a hm hf
          refine st_y hf rfl rfl rfl (y_assign rfl rfl) ?_
          clear hf a; intro a hf
          refine st_end ?_
          refine x_then_n ?_
          refine wp_ret ?_
          obtain rfl := Option.some.inj hq
          refine ret_cell_tmp 0 hf Tryd.results34 hm rfl rfl Tryd.isAgg35 Tryd.sizeOf35 rfl ?_
          exact ⟨(.slice p0_1 s0_1.1.length c0_2), rfl, hm.pick [2] (by decide) rfl⟩

theorem laws_eqMins_ok (w0 : World) (a_ : Mins) (b_ : Mins) (r : Bool) (hq : laws_eqMins a_ b_ = some r) :
    Con Tryd.prog 74 [(.agg #[(.int .i64 (a_.op)), (.int .i64 (a_.a_)), (.int .i64 (a_.b)), (.int .i64 (a_.c)), (.int .i64 (a_.n_))]), (.agg #[(.int .i64 (b_.op)), (.int .i64 (b_.a_)), (.int .i64 (b_.b)), (.int .i64 (b_.c)), (.int .i64 (b_.n_))])] w0 (fun v w' => v = (.bool (r)) ∧ Below w0.heap.size w0 w') := by
  unfold laws_eqMins at hq
  refine con_body (l := [(0, (.agg #[(.int .i64 (a_.op)), (.int .i64 (a_.a_)), (.int .i64 (a_.b)), (.int .i64 (a_.c)), (.int .i64 (a_.n_))])), (1, (.agg #[(.int .i64 (b_.op)), (.int .i64 (b_.a_)), (.int .i64 (b_.b)), (.int .i64 (b_.c)), (.int .i64 (b_.n_))]))]) Tryd.func74 rfl Tryd.ntmps74 (Args.get ⟨rfl, rfl, trivial⟩) rfl ?_
  intro a hf
  have hm := Mem.start w0
  refine wp_seq ?_
  refine wp_region_lit ?_
  refine st_ef hf rfl rfl rfl (e_box hf hm rfl rfl rfl) ?_
  clear hf a; rintro _ w0_1 a ⟨b0_1, rfl, hm⟩ hf
  refine st_ef hf rfl rfl rfl (e_box hf hm rfl rfl rfl) ?_
  clear hf a; rintro _ w0_2 a ⟨b0_2, rfl, hm⟩ hf
  refine st_y hf rfl rfl rfl (y_assign rfl rfl) ?_
  clear hf a; intro a hf
  refine st_end ?_
  refine x_then_n ?_
  refine wp_seq ?_
  refine wp_seq ?_
  refine wp_region_lit ?_
  refine st_y hf rfl rfl rfl (y_fieldAddr fo_27_0 rfl rfl) ?_
  clear hf a; intro a hf
  refine st_y hf rfl rfl rfl (y_load1 Tryd.isAgg3 rfl rfl (hm.blk_cell 1 rfl rfl)) ?_
  clear hf a; intro a hf
  refine st_y hf rfl rfl rfl (y_fieldAddr fo_27_0 rfl rfl) ?_
  clear hf a; intro a hf
  refine st_y hf rfl rfl rfl (y_load1 Tryd.isAgg3 rfl rfl (hm.blk_cell 0 rfl rfl)) ?_
  clear hf a; intro a hf
  refine st_y hf rfl rfl rfl (y_neq rfl rfl rfl) ?_
  clear hf a; intro a hf
  refine st_end ?_
  refine x_then_n ?_
  rcases bcases (decide (a_.op ≠ b_.op)) with h0_1 | h0_1
  ·
    replace hq := (ite_t h0_1).symm.trans hq
    have h0_2 := of_decide_eq_true h0_1
    refine cond_t hf rfl h0_1 ?_
    refine wp_seq ?_
    refine wp_region_lit ?_
    refine st_y hf rfl rfl rfl (y_assign rfl rfl) ?_
    clear hf a; intro a hf
    refine st_end ?_
    refine x_then_n ?_
    refine wp_ret ?_
    refine x_then_ret ?_
    obtain rfl := Option.some.inj hq
    refine ret_tmp hf Tryd.results74 rfl ?_
    exact ⟨rfl, hm.below⟩
  ·
    replace hq := (ite_f h0_1).symm.trans hq
    have h0_3 := of_decide_eq_false h0_1
    refine cond_f hf rfl h0_1 ?_
    refine wp_skip ?_
    refine x_then_n ?_
    refine wp_seq ?_
    refine wp_seq ?_
    refine wp_region_lit ?_
    refine st_y hf rfl rfl rfl (y_fieldAddr fo_27_1 rfl rfl) ?_
    clear hf a; intro a hf
    refine st_y hf rfl rfl rfl (y_load1 Tryd.isAgg3 rfl rfl (hm.blk_cell 1 rfl rfl)) ?_
    clear hf a; intro a hf
    refine st_y hf rfl rfl rfl (y_fieldAddr fo_27_1 rfl rfl) ?_
    clear hf a; intro a hf
    refine st_y hf rfl rfl rfl (y_load1 Tryd.isAgg3 rfl rfl (hm.blk_cell 0 rfl rfl)) ?_
    clear hf a; intro a hf
    refine st_y hf rfl rfl rfl (y_neq rfl rfl rfl) ?_
    clear hf a; intro a hf
    refine st_end ?_
    refine x_then_n ?_
    rcases bcases (decide (a_.a_ ≠ b_.a_)) with h0_4 | h0_4
    ·
      replace hq := (ite_t h0_4).symm.trans hq
      have h0_5 := of_decide_eq_true h0_4
      refine cond_t hf rfl h0_4 ?_
      refine wp_seq ?_
      refine wp_region_lit ?_
      refine st_y hf rfl rfl rfl (y_assign rfl rfl) ?_
      clear hf a; intro a hf
      refine st_end ?_
      refine x_then_n ?_
      refine wp_ret ?_
      refine x_then_ret ?_
      obtain rfl := Option.some.inj hq
      refine ret_tmp hf Tryd.results74 rfl ?_
      exact ⟨rfl, hm.below⟩
    ·
      replace hq := (ite_f h0_4).symm.trans hq
      have h0_6 := of_decide_eq_false h0_4
      refine cond_f hf rfl h0_4 ?_
      refine wp_skip ?_
      refine x_then_n ?_
      refine wp_seq ?_
      refine wp_seq ?_
      refine wp_region_lit ?_
      refine st_y hf rfl rfl rfl (y_fieldAddr fo_27_2 rfl rfl) ?_
      clear hf a; intro a hf
      refine st_y hf rfl rfl rfl (y_load1 Tryd.isAgg3 rfl rfl (hm.blk_cell 1 rfl rfl)) ?_
      clear hf a; intro a hf
      refine st_y hf rfl rfl rfl (y_fieldAddr fo_27_2 rfl rfl) ?_
      clear hf a; intro a hf
      refine st_y hf rfl rfl rfl (y_load1 Tryd.isAgg3 rfl rfl (hm.blk_cell 0 rfl rfl)) ?_
      clear hf a; intro a hf
      refine st_y hf rfl rfl rfl (y_neq rfl rfl rfl) ?_
      clear hf a; intro a hf
      refine st_end ?_
      refine x_then_n ?_
      rcases bcases (decide (a_.b ≠ b_.b)) with h0_7 | h0_7
      ·
        replace hq := (ite_t h0_7).symm.trans hq
        have h0_8 := of_decide_eq_true h0_7
        refine cond_t hf rfl h0_7 ?_
        refine wp_seq ?_
        refine wp_region_lit ?_
        refine st_y hf rfl rfl rfl (y_assign rfl rfl) ?_
        clear hf a; intro a hf
        refine st_end ?_
        refine x_then_n ?_
        refine wp_ret ?_
        refine x_then_ret ?_
        obtain rfl := Option.some.inj hq
        refine ret_tmp hf Tryd.results74 rfl ?_
        exact ⟨rfl, hm.below⟩
      ·
        replace hq := (ite_f h0_7).symm.trans hq
        have h0_9 := of_decide_eq_false h0_7
        refine cond_f hf rfl h0_7 ?_
        refine wp_skip ?_
        refine x_then_n ?_
        refine wp_seq ?_
        refine wp_seq ?_
        refine wp_region_lit ?_
        refine st_y hf rfl rfl rfl (y_fieldAddr fo_27_3 rfl rfl) ?_
        clear hf a; intro a hf
        refine st_y hf rfl rfl rfl (y_load1 Tryd.isAgg3 rfl rfl (hm.blk_cell 1 rfl rfl)) ?_
        clear hf a; intro a hf
        refine st_y hf rfl rfl rfl (y_fieldAddr fo_27_3 rfl rfl) ?_
        clear hf a; intro a hf
        refine st_y hf rfl rfl rfl (y_load1 Tryd.isAgg3 rfl rfl (hm.blk_cell 0 rfl rfl)) ?_
        clear hf a; intro a hf
        refine st_y hf rfl rfl rfl (y_neq rfl rfl rfl) ?_
        clear hf a; intro a hf
        refine st_end ?_
        refine x_then_n ?_
        rcases bcases (decide (a_.c ≠ b_.c)) with h0_10 | h0_10
        ·
          replace hq := (ite_t h0_10).symm.trans hq
          have h0_11 := of_decide_eq_true h0_10
          refine cond_t hf rfl h0_10 ?_
          refine wp_seq ?_
          refine wp_region_lit ?_
          refine st_y hf rfl rfl rfl (y_assign rfl rfl) ?_
          clear hf a; intro a hf
          refine st_end ?_
          refine x_then_n ?_
          refine wp_ret ?_
          refine x_then_ret ?_
          obtain rfl := Option.some.inj hq
          refine ret_tmp hf Tryd.results74 rfl ?_
          exact ⟨rfl, hm.below⟩
        ·
          replace hq := (ite_f h0_10).symm.trans hq
          have h0_12 := of_decide_eq_false h0_10
          refine cond_f hf rfl h0_10 ?_
          refine wp_skip ?_
          refine x_then_n ?_
          refine wp_seq ?_
          refine wp_seq ?_
          refine wp_region_lit ?_
          refine st_y hf rfl rfl rfl (y_fieldAddr fo_27_4 rfl rfl) ?_
          clear hf a; intro a hf
          refine st_y hf rfl rfl rfl (y_load1 Tryd.isAgg3 rfl rfl (hm.blk_cell 1 rfl rfl)) ?_
          clear hf a; intro a hf
          refine st_y hf rfl rfl rfl (y_fieldAddr fo_27_4 rfl rfl) ?_
          clear hf a; intro a hf
          refine st_y hf rfl rfl rfl (y_load1 Tryd.isAgg3 rfl rfl (hm.blk_cell 0 rfl rfl)) ?_
          clear hf a; intro a hf
          refine st_y hf rfl rfl rfl (y_neq rfl rfl rfl) ?_
          clear hf a; intro a hf
          refine st_end ?_
          refine x_then_n ?_
          rcases bcases (decide (a_.n_ ≠ b_.n_)) with h0_13 | h0_13
          ·
            replace hq := (ite_t h0_13).symm.trans hq
            have h0_14 := of_decide_eq_true h0_13
            refine cond_t hf rfl h0_13 ?_
            refine wp_seq ?_
            refine wp_region_lit ?_
            refine st_y hf rfl rfl rfl (y_assign rfl rfl) ?_
            clear hf a; intro a hf
            refine st_end ?_
            refine x_then_n ?_
            refine wp_ret ?_
            refine x_then_ret ?_
            obtain rfl := Option.some.inj hq
            refine ret_tmp hf Tryd.results74 rfl ?_
            exact ⟨rfl, hm.below⟩
          ·
            replace hq := (ite_f h0_13).symm.trans hq
            have h0_15 := of_decide_eq_false h0_13
            refine cond_f hf rfl h0_13 ?_
            refine wp_skip ?_
            refine x_then_n ?_
            refine wp_seq ?_
            refine wp_region_lit ?_
            refine st_y hf rfl rfl rfl (y_assign rfl rfl) ?_
            clear hf a; intro a hf
            refine st_end ?_
            refine x_then_n ?_
            refine wp_ret ?_
            obtain rfl := Option.some.inj hq
            refine ret_tmp hf Tryd.results74 rfl ?_
            exact ⟨rfl, hm.below⟩

theorem laws_eqMinsS_ok (w0 : World) (a_ : List Mins) (v1 : Value) (h1 : GT.rep (hp w0) [v1] a_) (b_ : List Mins) (v2 : Value) (h2 : GT.rep (hp w0) [v2] b_) (r : Bool) (hq : laws_eqMinsS a_ b_ = some r) :
    Con Tryd.prog 54 [v1, v2] w0 (fun v w' => v = (.bool (r)) ∧ Below w0.heap.size w0 w') := by
  unfold laws_eqMinsS at hq
  refine con_body (l := [(0, v1), (1, v2)]) Tryd.func54 rfl Tryd.ntmps54 (Args.get ⟨rfl, rfl, trivial⟩) rfl ?_
  intro a hf
  have hm := Mem.start w0
  refine wp_seq ?_
  refine wp_region_lit ?_
  refine st_y hf rfl rfl rfl (y_assign rfl rfl) ?_
  clear hf a; intro a hf
  refine st_end ?_
  refine x_then_n ?_
  refine wp_seq ?_
  refine wp_seq ?_
  refine wp_region_lit ?_
  refine st_y hf rfl rfl rfl (y_move rfl rfl) ?_
  clear hf a; intro a hf
  obtain ⟨p0_1, c0_1, he, hl0_1⟩ := ro_slice h1
  subst he
  refine st_y hf rfl rfl rfl (y_len_slice st_33.und rfl rfl) ?_
  clear hf a; intro a hf
  refine st_y hf rfl rfl rfl (y_move rfl rfl) ?_
  clear hf a; intro a hf
  obtain ⟨p0_2, c0_2, he, hl0_2⟩ := ro_slice h2
  subst he
  refine st_y hf rfl rfl rfl (y_len_slice st_33.und rfl rfl) ?_
  clear hf a; intro a hf
  refine st_y hf rfl rfl rfl (y_neq rfl rfl rfl) ?_
  clear hf a; intro a hf
  refine st_end ?_
  refine x_then_n ?_
  rcases bcases (decide (((a_.length : Int)) ≠ ((b_.length : Int)))) with h0_1 | h0_1
  ·
    replace hq := (ite_t h0_1).symm.trans hq
    have h0_2 := of_decide_eq_true h0_1
    refine cond_t hf rfl h0_1 ?_
    refine wp_seq ?_
    refine wp_region_lit ?_
    refine st_y hf rfl rfl rfl (y_assign rfl rfl) ?_
    clear hf a; intro a hf
    refine st_end ?_
    refine x_then_n ?_
    refine wp_ret ?_
    refine x_then_ret ?_
    obtain rfl := Option.some.inj hq
    refine ret_tmp hf Tryd.results54 rfl ?_
    exact ⟨rfl, hm.below⟩
  ·
    replace hq := (ite_f h0_1).symm.trans hq
    have h0_3 := of_decide_eq_false h0_1
    refine cond_f hf rfl h0_1 ?_
    refine wp_skip ?_
    refine x_then_n ?_
    refine wp_seq ?_
    refine wp_seq ?_
    refine wp_region_lit ?_
    refine st_y hf rfl rfl rfl (y_assign rfl rfl) ?_
    clear hf a; intro a hf
    refine st_end ?_
    refine x_then_n ?_
    refine wp_block ?_
    obtain ⟨r0_1, hl0_3, hq⟩ := bnd hq
    refine wp_forN _ (fun i1_1 xs1_1 a w => Fr 27 [(0, (.slice p0_1 a_.length c0_1)), (1, (.slice p0_2 b_.length c0_2)), (5, (.int .i64 (i1_1)))] a ∧ Mem w0 (hp w0) w []) (0) ((a_.length : Int)) hl0_3 ?_ ?_ ?_
    ·
      exact ⟨hf.sub ⟨rfl, rfl, rfl, trivial⟩, hm.pick [] (by decide) rfl⟩
    ·
      clear hf hm
      rintro i1_1 xs1_1 a w ⟨hf, hm⟩ hi1_1 hi1_2 q0_1 hb0_1 ho0_1
      refine wp_seq ?_
      refine wp_seq ?_
      refine wp_region_lit ?_
      refine st_y hf rfl rfl rfl (y_move rfl rfl) ?_
      clear hf a; intro a hf
      refine st_y hf rfl rfl rfl (y_move rfl rfl) ?_
      clear hf a; intro a hf
      refine st_y hf rfl rfl rfl (y_len_slice st_33.und rfl rfl) ?_
      clear hf a; intro a hf
      refine st_y hf rfl rfl rfl (y_lss rfl rfl rfl) ?_
      clear hf a; intro a hf
      refine st_end ?_
      refine x_then_n ?_
      refine cond_t hf rfl (decide_eq_true (by omega)) ?_
      refine wp_skip ?_
      refine x_then_n ?_
      refine wp_seq ?_
      refine wp_block ?_
      refine wp_seq ?_
      refine wp_tree (.p 0 (.p 1 (.p 2 (.p 4 (.p 5 (.p 6 (.q 3 (.e 7 (.e 8 (.p 9 .fin) .nil) .nil)))))))) [7] [0, 1, 2, 4, 5, 6, 9] (fun w => Mem w0 (hp w0) w []) (by kernel_rfl) (by kernel_rfl) (fun _ _ _ h => h.2) ?_
      replace hm := hm.drew
      have hS : Mem w0 (hp w0) _ [] := hm.pick [] (by decide) rfl
      refine td_p hf rfl rfl rfl rfl (fun w => y_move rfl rfl) ?_
      clear hf a; intro a hf
      refine td_p hf rfl rfl rfl rfl (fun w => y_move rfl rfl) ?_
      clear hf a; intro a hf
      obtain ⟨x1_1, hx1_1, hb0_1⟩ := bnd hb0_1
      obtain ⟨h1_1, hx1_2⟩ := getI_some.1 hx1_1
      obtain ⟨b1_1, o1_1, c1_1, he⟩ := idx_form h1 hx1_2
      simp only [Value.slice.injEq, Option.some.injEq] at he; obtain ⟨rfl, _, rfl⟩ := he
      refine td_p hf rfl rfl rfl rfl (fun w => y_indexAddr st_33 rfl rfl rfl h1_1 (idx_lt hx1_2)) ?_
      clear hf a; intro a hf
      refine td_p hf rfl rfl rfl rfl (fun w => y_move rfl rfl) ?_
      clear hf a; intro a hf
      refine td_p hf rfl rfl rfl rfl (fun w => y_move rfl rfl) ?_
      clear hf a; intro a hf
      obtain ⟨x1_2, hx1_3, hb0_1⟩ := bnd hb0_1
      obtain ⟨h1_2, hx1_4⟩ := getI_some.1 hx1_3
      obtain ⟨b1_2, o1_2, c1_2, he⟩ := idx_form h2 hx1_4
      simp only [Value.slice.injEq, Option.some.injEq] at he; obtain ⟨rfl, _, rfl⟩ := he
      refine td_p hf rfl rfl rfl rfl (fun w => y_indexAddr st_33 rfl rfl rfl h1_2 (idx_lt hx1_4)) ?_
      clear hf a; intro a hf
      refine td_y hf rfl rfl rfl rfl hS (fun w hm => y_loadN (cs := [(.int .i64 (x1_1.op)), (.int .i64 (x1_1.a_)), (.int .i64 (x1_1.b)), (.int .i64 (x1_1.c)), (.int .i64 (x1_1.n_))]) Tryd.isAgg27 Tryd.sizeOf27 rfl rfl (flat_cells (cs := [(.int .i64 (x1_1.op)), (.int .i64 (x1_1.a_)), (.int .i64 (x1_1.b)), (.int .i64 (x1_1.c)), (.int .i64 (x1_1.n_))]) (hm.now h1) hx1_2 rfl)) ?_
      clear hf a; intro a hf
      refine te_one ?_
      refine td_ef hf rfl rfl rfl rfl (ef_y hf (y_loadN (cs := [(.int .i64 (x1_2.op)), (.int .i64 (x1_2.a_)), (.int .i64 (x1_2.b)), (.int .i64 (x1_2.c)), (.int .i64 (x1_2.n_))]) Tryd.isAgg27 Tryd.sizeOf27 rfl rfl (flat_cells (cs := [(.int .i64 (x1_2.op)), (.int .i64 (x1_2.a_)), (.int .i64 (x1_2.b)), (.int .i64 (x1_2.c)), (.int .i64 (x1_2.n_))]) (hm.now h2) hx1_4 rfl))) ?_
      clear hf a; rintro _ _ a ⟨rfl, rfl⟩ hf
      refine ⟨fun _ => hS, ?_⟩
      refine te_one ?_
      obtain ⟨r1_1, hx1_5, hb0_1⟩ := bnd hb0_1
      refine td_ef hf rfl rfl rfl rfl (e_call hf rfl Tryd.call74 rfl (laws_eqMins_ok _ x1_1 x1_2 _ hx1_5)) ?_
      clear hf a; rintro v1_1 w1_1 a ho1_1 hf
      obtain ⟨rfl, hB⟩ := ho1_1
      replace hm := hm.below' hB; clear hB
      refine ⟨fun h => absurd h (by decide), ?_⟩
      refine td_p hf rfl rfl rfl rfl (fun w => y_not rfl rfl) ?_
      clear hf a; intro a hf
      clear hS; refine td_end ?_
      refine x_then_n ?_
      rcases bcases (!(r1_1)) with h1_3 | h1_3
      ·
        replace hb0_1 := (ite_t h1_3).symm.trans hb0_1
        have h1_4 := bnot_t' h1_3
        refine cond_t hf rfl h1_3 ?_
        refine wp_seq ?_
        refine wp_region_lit ?_
        refine st_y hf rfl rfl rfl (y_assign rfl rfl) ?_
        clear hf a; intro a hf
        refine st_end ?_
        refine x_then_n ?_
        refine wp_ret ?_
        refine x_blk_ret ?_
        refine x_then_ret ?_
        refine x_then_ret ?_
        refine x_blk_ret ?_
        refine x_then_ret ?_
        obtain rfl := Option.some.inj hb0_1
        obtain rfl := ho0_1 _ rfl
        replace hq := sum_r hq
        obtain rfl := Option.some.inj hq
        refine ret_tmp hf Tryd.results54 rfl ?_
        exact ⟨rfl, hm.below⟩
      ·
        replace hb0_1 := (ite_f h1_3).symm.trans hb0_1
        have h1_5 := bnot_f' h1_3
        refine cond_f hf rfl h1_3 ?_
        refine wp_skip ?_
        refine x_blk_n ?_
        refine x_then_n ?_
        refine wp_region_lit ?_
        refine st_y hf rfl rfl rfl (y_move rfl rfl) ?_
        clear hf a; intro a hf
        refine st_y hf rfl rfl rfl (y_add64 rfl rfl rfl (by omega) (by omega)) ?_
        clear hf a; intro a hf
        refine st_y hf rfl rfl rfl (y_assign rfl rfl) ?_
        clear hf a; intro a hf
        refine st_end ?_
        refine x_then_n ?_
        obtain rfl := Option.some.inj hb0_1
        exact ⟨_, rfl, hf.sub ⟨rfl, rfl, rfl, trivial⟩, hm.pick [] (by decide) rfl⟩
    ·
      clear hf hm
      rintro i0_1 xs0_1 a w ⟨hf, hm⟩ hi0_1 hi0_2 rfl
      replace hq := sum_l hq
      refine wp_seq ?_
      refine wp_seq ?_
      refine wp_region_lit ?_
      refine st_y hf rfl rfl rfl (y_move rfl rfl) ?_
      clear hf a; intro a hf
      refine st_y hf rfl rfl rfl (y_move rfl rfl) ?_
      clear hf a; intro a hf
      refine st_y hf rfl rfl rfl (y_len_slice st_33.und rfl rfl) ?_
      clear hf a; intro a hf
      refine st_y hf rfl rfl rfl (y_lss rfl rfl rfl) ?_
      clear hf a; intro a hf
      refine st_end ?_
      refine x_then_n ?_
      refine cond_f hf rfl (decide_eq_false (by omega)) ?_
      refine wp_exit ?_
      refine x_then_exit ?_
      refine x_then_exit ?_
      refine x_blk_hit ?_
      refine x_then_n ?_
      refine wp_seq ?_
      refine wp_region_lit ?_
      refine st_y hf rfl rfl rfl (y_assign rfl rfl) ?_
      clear hf a; intro a hf
      refine st_end ?_
      refine x_then_n ?_
      refine wp_ret ?_
      obtain rfl := Option.some.inj hq
      refine ret_tmp hf Tryd.results54 rfl ?_
      exact ⟨rfl, hm.below⟩

theorem laws_eqMfn_ok (w0 : World) (a_ : Mfn) (v1 : Value) (h1 : GT.rep (hp w0) [v1] a_.ins) (b_ : Mfn) (v2 : Value) (h2 : GT.rep (hp w0) [v2] b_.ins) (r : Bool) (hq : laws_eqMfn a_ b_ = some r) :
    Con Tryd.prog 22 [(.agg #[(.int .i64 (a_.params)), (.int .i64 (a_.slots)), v1]), (.agg #[(.int .i64 (b_.params)), (.int .i64 (b_.slots)), v2])] w0 (fun v w' => v = (.bool (r)) ∧ Below w0.heap.size w0 w') := by
  unfold laws_eqMfn at hq
  refine con_body (l := [(0, (.agg #[(.int .i64 (a_.params)), (.int .i64 (a_.slots)), v1])), (1, (.agg #[(.int .i64 (b_.params)), (.int .i64 (b_.slots)), v2]))]) Tryd.func22 rfl Tryd.ntmps22 (Args.get ⟨rfl, rfl, trivial⟩) rfl ?_
  intro a hf
  have hm := Mem.start w0
  refine wp_seq ?_
  refine wp_region_lit ?_
  refine st_ef hf rfl rfl rfl (e_box hf hm rfl rfl rfl) ?_
  clear hf a; rintro _ w0_1 a ⟨b0_1, rfl, hm⟩ hf
  refine st_ef hf rfl rfl rfl (e_box hf hm rfl rfl rfl) ?_
  clear hf a; rintro _ w0_2 a ⟨b0_2, rfl, hm⟩ hf
  refine st_y hf rfl rfl rfl (y_assign rfl rfl) ?_
  clear hf a; intro a hf
  refine st_end ?_
  refine x_then_n ?_
  refine wp_seq ?_
  refine wp_seq ?_
  refine wp_region_lit ?_
  refine st_y hf rfl rfl rfl (y_fieldAddr fo_35_0 rfl rfl) ?_
  clear hf a; intro a hf
  refine st_y hf rfl rfl rfl (y_load1 Tryd.isAgg3 rfl rfl (hm.blk_cell 1 rfl rfl)) ?_
  clear hf a; intro a hf
  refine st_y hf rfl rfl rfl (y_fieldAddr fo_35_0 rfl rfl) ?_
  clear hf a; intro a hf
  refine st_y hf rfl rfl rfl (y_load1 Tryd.isAgg3 rfl rfl (hm.blk_cell 0 rfl rfl)) ?_
  clear hf a; intro a hf
  refine st_y hf rfl rfl rfl (y_neq rfl rfl rfl) ?_
  clear hf a; intro a hf
  refine st_end ?_
  refine x_then_n ?_
  rcases bcases (decide (a_.params ≠ b_.params)) with h0_1 | h0_1
  ·
    replace hq := (ite_t h0_1).symm.trans hq
    have h0_2 := of_decide_eq_true h0_1
    refine cond_t hf rfl h0_1 ?_
    refine wp_seq ?_
    refine wp_region_lit ?_
    refine st_y hf rfl rfl rfl (y_assign rfl rfl) ?_
    clear hf a; intro a hf
    refine st_end ?_
    refine x_then_n ?_
    refine wp_ret ?_
    refine x_then_ret ?_
    obtain rfl := Option.some.inj hq
    refine ret_tmp hf Tryd.results22 rfl ?_
    exact ⟨rfl, hm.below⟩
  ·
    replace hq := (ite_f h0_1).symm.trans hq
    have h0_3 := of_decide_eq_false h0_1
    refine cond_f hf rfl h0_1 ?_
    refine wp_skip ?_
    refine x_then_n ?_
    refine wp_seq ?_
    refine wp_seq ?_
    refine wp_region_lit ?_
    refine st_y hf rfl rfl rfl (y_fieldAddr fo_35_1 rfl rfl) ?_
    clear hf a; intro a hf
    refine st_y hf rfl rfl rfl (y_load1 Tryd.isAgg3 rfl rfl (hm.blk_cell 1 rfl rfl)) ?_
    clear hf a; intro a hf
    refine st_y hf rfl rfl rfl (y_fieldAddr fo_35_1 rfl rfl) ?_
    clear hf a; intro a hf
    refine st_y hf rfl rfl rfl (y_load1 Tryd.isAgg3 rfl rfl (hm.blk_cell 0 rfl rfl)) ?_
    clear hf a; intro a hf
    refine st_y hf rfl rfl rfl (y_neq rfl rfl rfl) ?_
    clear hf a; intro a hf
    refine st_end ?_
    refine x_then_n ?_
    rcases bcases (decide (a_.slots ≠ b_.slots)) with h0_4 | h0_4
    ·
      replace hq := (ite_t h0_4).symm.trans hq
      have h0_5 := of_decide_eq_true h0_4
      refine cond_t hf rfl h0_4 ?_
      refine wp_seq ?_
      refine wp_region_lit ?_
      refine st_y hf rfl rfl rfl (y_assign rfl rfl) ?_
      clear hf a; intro a hf
      refine st_end ?_
      refine x_then_n ?_
      refine wp_ret ?_
      refine x_then_ret ?_
      obtain rfl := Option.some.inj hq
      refine ret_tmp hf Tryd.results22 rfl ?_
      exact ⟨rfl, hm.below⟩
    ·
      replace hq := (ite_f h0_4).symm.trans hq
      have h0_6 := of_decide_eq_false h0_4
      refine cond_f hf rfl h0_4 ?_
      refine wp_skip ?_
      refine x_then_n ?_
      refine wp_seq ?_
      refine wp_seq ?_
      refine wp_region_lit ?_
      refine st_y hf rfl rfl rfl (y_fieldAddr fo_35_2 rfl rfl) ?_
      clear hf a; intro a hf
      refine st_y hf rfl rfl rfl (y_load1 Tryd.isAgg33 rfl rfl (hm.blk_cell 1 rfl rfl)) ?_
      clear hf a; intro a hf
      refine st_y hf rfl rfl rfl (y_fieldAddr fo_35_2 rfl rfl) ?_
      clear hf a; intro a hf
      refine st_y hf rfl rfl rfl (y_load1 Tryd.isAgg33 rfl rfl (hm.blk_cell 0 rfl rfl)) ?_
      clear hf a; intro a hf
      obtain ⟨r0_1, hx0_1, hq⟩ := bnd hq
      refine st_ef hf rfl rfl rfl (e_call hf rfl Tryd.call54 rfl (laws_eqMinsS_ok _ a_.ins v1 (hm.now h1) b_.ins v2 (hm.now h2) _ hx0_1)) ?_
      clear hf a; rintro v0_1 w0_3 a ho0_1 hf
      obtain ⟨rfl, hB⟩ := ho0_1
      replace hm := hm.below' hB; clear hB
      refine st_y hf rfl rfl rfl (y_not rfl rfl) ?_
      clear hf a; intro a hf
      refine st_end ?_
      refine x_then_n ?_
      rcases bcases (!(r0_1)) with h0_7 | h0_7
      ·
        replace hq := (ite_t h0_7).symm.trans hq
        have h0_8 := bnot_t' h0_7
        refine cond_t hf rfl h0_7 ?_
        refine wp_seq ?_
        refine wp_region_lit ?_
        refine st_y hf rfl rfl rfl (y_assign rfl rfl) ?_
        clear hf a; intro a hf
        refine st_end ?_
        refine x_then_n ?_
        refine wp_ret ?_
        refine x_then_ret ?_
        obtain rfl := Option.some.inj hq
        refine ret_tmp hf Tryd.results22 rfl ?_
        exact ⟨rfl, hm.below⟩
      ·
        replace hq := (ite_f h0_7).symm.trans hq
        have h0_9 := bnot_f' h0_7
        refine cond_f hf rfl h0_7 ?_
        refine wp_skip ?_
        refine x_then_n ?_
        refine wp_seq ?_
        refine wp_region_lit ?_
        refine st_y hf rfl rfl rfl (y_assign rfl rfl) ?_
        clear hf a; intro a hf
        refine st_end ?_
        refine x_then_n ?_
        refine wp_ret ?_
        obtain rfl := Option.some.inj hq
        refine ret_tmp hf Tryd.results22 rfl ?_
        exact ⟨rfl, hm.below⟩

theorem laws_eqByteS_ok (w0 : World) (a_ : List UInt8) (v1 : Value) (h1 : GT.rep (hp w0) [v1] a_) (b_ : List UInt8) (v2 : Value) (h2 : GT.rep (hp w0) [v2] b_) (r : Bool) (hq : laws_eqByteS a_ b_ = some r) :
    Con Tryd.prog 13 [v1, v2] w0 (fun v w' => v = (.bool (r)) ∧ Below w0.heap.size w0 w') := by
  unfold laws_eqByteS at hq
  refine con_body (l := [(0, v1), (1, v2)]) Tryd.func13 rfl Tryd.ntmps13 (Args.get ⟨rfl, rfl, trivial⟩) rfl ?_
  intro a hf
  have hm := Mem.start w0
  refine wp_seq ?_
  refine wp_region_lit ?_
  refine st_y hf rfl rfl rfl (y_assign rfl rfl) ?_
  clear hf a; intro a hf
  refine st_end ?_
  refine x_then_n ?_
  refine wp_seq ?_
  refine wp_seq ?_
  refine wp_region_lit ?_
  refine st_y hf rfl rfl rfl (y_move rfl rfl) ?_
  clear hf a; intro a hf
  obtain ⟨p0_1, c0_1, he, hl0_1⟩ := ro_slice h1
  subst he
  refine st_y hf rfl rfl rfl (y_len_slice st_24.und rfl rfl) ?_
  clear hf a; intro a hf
  refine st_y hf rfl rfl rfl (y_move rfl rfl) ?_
  clear hf a; intro a hf
  obtain ⟨p0_2, c0_2, he, hl0_2⟩ := ro_slice h2
  subst he
  refine st_y hf rfl rfl rfl (y_len_slice st_24.und rfl rfl) ?_
  clear hf a; intro a hf
  refine st_y hf rfl rfl rfl (y_neq rfl rfl rfl) ?_
  clear hf a; intro a hf
  refine st_end ?_
  refine x_then_n ?_
  rcases bcases (decide (((a_.length : Int)) ≠ ((b_.length : Int)))) with h0_1 | h0_1
  ·
    replace hq := (ite_t h0_1).symm.trans hq
    have h0_2 := of_decide_eq_true h0_1
    refine cond_t hf rfl h0_1 ?_
    refine wp_seq ?_
    refine wp_region_lit ?_
    refine st_y hf rfl rfl rfl (y_assign rfl rfl) ?_
    clear hf a; intro a hf
    refine st_end ?_
    refine x_then_n ?_
    refine wp_ret ?_
    refine x_then_ret ?_
    obtain rfl := Option.some.inj hq
    refine ret_tmp hf Tryd.results13 rfl ?_
    exact ⟨rfl, hm.below⟩
  ·
    replace hq := (ite_f h0_1).symm.trans hq
    have h0_3 := of_decide_eq_false h0_1
    refine cond_f hf rfl h0_1 ?_
    refine wp_skip ?_
    refine x_then_n ?_
    refine wp_seq ?_
    refine wp_seq ?_
    refine wp_region_lit ?_
    refine st_y hf rfl rfl rfl (y_assign rfl rfl) ?_
    clear hf a; intro a hf
    refine st_end ?_
    refine x_then_n ?_
    refine wp_block ?_
    obtain ⟨r0_1, hl0_3, hq⟩ := bnd hq
    refine wp_forN _ (fun i1_1 xs1_1 a w => Fr 26 [(0, (.slice p0_1 a_.length c0_1)), (1, (.slice p0_2 b_.length c0_2)), (5, (.int .i64 (i1_1)))] a ∧ Mem w0 (hp w0) w []) (0) ((a_.length : Int)) hl0_3 ?_ ?_ ?_
    ·
      exact ⟨hf.sub ⟨rfl, rfl, rfl, trivial⟩, hm.pick [] (by decide) rfl⟩
    ·
      clear hf hm
      rintro i1_1 xs1_1 a w ⟨hf, hm⟩ hi1_1 hi1_2 q0_1 hb0_1 ho0_1
      refine wp_seq ?_
      refine wp_seq ?_
      refine wp_region_lit ?_
      refine st_y hf rfl rfl rfl (y_move rfl rfl) ?_
      clear hf a; intro a hf
      refine st_y hf rfl rfl rfl (y_move rfl rfl) ?_
      clear hf a; intro a hf
      refine st_y hf rfl rfl rfl (y_len_slice st_24.und rfl rfl) ?_
      clear hf a; intro a hf
      refine st_y hf rfl rfl rfl (y_lss rfl rfl rfl) ?_
      clear hf a; intro a hf
      refine st_end ?_
      refine x_then_n ?_
      refine cond_t hf rfl (decide_eq_true (by omega)) ?_
      refine wp_skip ?_
      refine x_then_n ?_
      refine wp_seq ?_
      refine wp_block ?_
      refine wp_seq ?_
      refine wp_tree (.p 0 (.p 1 (.p 2 (.p 4 (.p 5 (.p 6 (.q 3 (.e 7 (.p 8 .fin) .nil)))))))) [7] [0, 1, 2, 4, 5, 6, 8] (fun w => Mem w0 (hp w0) w []) (by kernel_rfl) (by kernel_rfl) (fun _ _ _ h => h.2) ?_
      replace hm := hm.drew
      have hS : Mem w0 (hp w0) _ [] := hm.pick [] (by decide) rfl
      refine td_p hf rfl rfl rfl rfl (fun w => y_move rfl rfl) ?_
      clear hf a; intro a hf
      refine td_p hf rfl rfl rfl rfl (fun w => y_move rfl rfl) ?_
      clear hf a; intro a hf
      obtain ⟨x1_1, hx1_1, hb0_1⟩ := bnd hb0_1
      obtain ⟨h1_1, hx1_2⟩ := getI_some.1 hx1_1
      obtain ⟨b1_1, o1_1, c1_1, he⟩ := idx_form h1 hx1_2
      simp only [Value.slice.injEq, Option.some.injEq] at he; obtain ⟨rfl, _, rfl⟩ := he
      refine td_p hf rfl rfl rfl rfl (fun w => y_indexAddr st_24 rfl rfl rfl h1_1 (idx_lt hx1_2)) ?_
      clear hf a; intro a hf
      refine td_p hf rfl rfl rfl rfl (fun w => y_move rfl rfl) ?_
      clear hf a; intro a hf
      refine td_p hf rfl rfl rfl rfl (fun w => y_move rfl rfl) ?_
      clear hf a; intro a hf
      obtain ⟨x1_2, hx1_3, hb0_1⟩ := bnd hb0_1
      obtain ⟨h1_2, hx1_4⟩ := getI_some.1 hx1_3
      obtain ⟨b1_2, o1_2, c1_2, he⟩ := idx_form h2 hx1_4
      simp only [Value.slice.injEq, Option.some.injEq] at he; obtain ⟨rfl, _, rfl⟩ := he
      refine td_p hf rfl rfl rfl rfl (fun w => y_indexAddr st_24 rfl rfl rfl h1_2 (idx_lt hx1_4)) ?_
      clear hf a; intro a hf
      refine td_y hf rfl rfl rfl rfl hS (fun w hm => y_load1 Tryd.isAgg5 rfl rfl ((flat_cells (cs := [(.int .u8 ((x1_1).toNat : Int))]) (hm.now h1) hx1_2 rfl).cell (j := 0) rfl)) ?_
      clear hf a; intro a hf
      refine te_one ?_
      refine td_ef hf rfl rfl rfl rfl (ef_y hf (y_load1 Tryd.isAgg5 rfl rfl ((flat_cells (cs := [(.int .u8 ((x1_2).toNat : Int))]) (hm.now h2) hx1_4 rfl).cell (j := 0) rfl))) ?_
      clear hf a; rintro _ _ a ⟨rfl, rfl⟩ hf
      refine ⟨fun _ => hS, ?_⟩
      refine td_p hf rfl rfl rfl rfl (fun w => y_neq8 (b := x1_1) (c := x1_2) rfl rfl rfl) ?_
      clear hf a; intro a hf
      clear hS; refine td_end ?_
      refine x_then_n ?_
      rcases bcases (decide (x1_1 ≠ x1_2)) with h1_3 | h1_3
      ·
        replace hb0_1 := (ite_t h1_3).symm.trans hb0_1
        have h1_4 := of_decide_eq_true h1_3
        refine cond_t hf rfl h1_3 ?_
        refine wp_seq ?_
        refine wp_region_lit ?_
        refine st_y hf rfl rfl rfl (y_assign rfl rfl) ?_
        clear hf a; intro a hf
        refine st_end ?_
        refine x_then_n ?_
        refine wp_ret ?_
        refine x_blk_ret ?_
        refine x_then_ret ?_
        refine x_then_ret ?_
        refine x_blk_ret ?_
        refine x_then_ret ?_
        obtain rfl := Option.some.inj hb0_1
        obtain rfl := ho0_1 _ rfl
        replace hq := sum_r hq
        obtain rfl := Option.some.inj hq
        refine ret_tmp hf Tryd.results13 rfl ?_
        exact ⟨rfl, hm.below⟩
      ·
        replace hb0_1 := (ite_f h1_3).symm.trans hb0_1
        have h1_5 := of_decide_eq_false h1_3
        refine cond_f hf rfl h1_3 ?_
        refine wp_skip ?_
        refine x_blk_n ?_
        refine x_then_n ?_
        refine wp_region_lit ?_
        refine st_y hf rfl rfl rfl (y_move rfl rfl) ?_
        clear hf a; intro a hf
        refine st_y hf rfl rfl rfl (y_add64 rfl rfl rfl (by omega) (by omega)) ?_
        clear hf a; intro a hf
        refine st_y hf rfl rfl rfl (y_assign rfl rfl) ?_
        clear hf a; intro a hf
        refine st_end ?_
        refine x_then_n ?_
        obtain rfl := Option.some.inj hb0_1
        exact ⟨_, rfl, hf.sub ⟨rfl, rfl, rfl, trivial⟩, hm.pick [] (by decide) rfl⟩
    ·
      clear hf hm
      rintro i0_1 xs0_1 a w ⟨hf, hm⟩ hi0_1 hi0_2 rfl
      replace hq := sum_l hq
      refine wp_seq ?_
      refine wp_seq ?_
      refine wp_region_lit ?_
      refine st_y hf rfl rfl rfl (y_move rfl rfl) ?_
      clear hf a; intro a hf
      refine st_y hf rfl rfl rfl (y_move rfl rfl) ?_
      clear hf a; intro a hf
      refine st_y hf rfl rfl rfl (y_len_slice st_24.und rfl rfl) ?_
      clear hf a; intro a hf
      refine st_y hf rfl rfl rfl (y_lss rfl rfl rfl) ?_
      clear hf a; intro a hf
      refine st_end ?_
      refine x_then_n ?_
      refine cond_f hf rfl (decide_eq_false (by omega)) ?_
      refine wp_exit ?_
      refine x_then_exit ?_
      refine x_then_exit ?_
      refine x_blk_hit ?_
      refine x_then_n ?_
      refine wp_seq ?_
      refine wp_region_lit ?_
      refine st_y hf rfl rfl rfl (y_assign rfl rfl) ?_
      clear hf a; intro a hf
      refine st_end ?_
      refine x_then_n ?_
      refine wp_ret ?_
      obtain rfl := Option.some.inj hq
      refine ret_tmp hf Tryd.results13 rfl ?_
      exact ⟨rfl, hm.below⟩

theorem laws_markByteS_ok (w0 : World) (hz : Heap) (a_ : List UInt8) (v1 : Value) (k_ : Int) (hm0 : Mem w0 hz w0 [ow [v1] a_]) (r : Int × (List UInt8)) (hq : laws_markByteS a_ k_ = some r) :
    Con Tryd.prog 14 [v1, (.int .i64 (k_))] w0 (fun v w' => v = (.int .i64 (r.1)) ∧ Mem w0 hz w' [ow [v1] r.2]) := by
  unfold laws_markByteS at hq
  refine con_body (l := [(0, v1), (1, (.int .i64 (k_)))]) Tryd.func14 rfl Tryd.ntmps14 (Args.get ⟨rfl, rfl, trivial⟩) rfl ?_
  intro a hf
  have hm := hm0
  refine wp_seq ?_
  refine wp_region_lit ?_
  refine st_y hf rfl rfl rfl (y_assign rfl rfl) ?_
  clear hf a; intro a hf
  refine st_end ?_
  refine x_then_n ?_
  refine wp_seq ?_
  refine wp_seq ?_
  refine wp_region_lit ?_
  refine st_y hf rfl rfl rfl (y_assign rfl rfl) ?_
  clear hf a; intro a hf
  refine st_end ?_
  refine x_then_n ?_
  obtain ⟨p0_1, c0_1, he, hl0_1⟩ := ro_slice (hm.ow_rep 0 rfl)
  subst he
  refine wp_block ?_
  obtain ⟨r0_1, hl0_2, hq⟩ := bnd hq
  refine wp_forN _ (fun i1_1 xs1_1 a w => Fr 20 [(0, (.slice p0_1 a_.length c0_1)), (1, (.int .i64 (xs1_1.2))), (5, (.int .i64 (i1_1)))] a ∧ Mem w0 hz w [ow [(.slice p0_1 a_.length c0_1)] xs1_1.1]) (0) ((a_.length : Int)) hl0_2 ?_ ?_ ?_
  ·
    exact ⟨hf.sub ⟨rfl, rfl, rfl, trivial⟩, hm.pick [0] (by decide) rfl⟩
  ·
    clear hf hm
    rintro i1_1 xs1_1 a w ⟨hf, hm⟩ hi1_1 hi1_2 q0_1 hb0_1 ho0_1
    refine wp_seq ?_
    refine wp_seq ?_
    refine wp_region_lit ?_
    refine st_y hf rfl rfl rfl (y_move rfl rfl) ?_
    clear hf a; intro a hf
    refine st_y hf rfl rfl rfl (y_move rfl rfl) ?_
    clear hf a; intro a hf
    have hl1_1 := rep_len (hm.ow_rep 0 rfl)
    refine st_y hf rfl rfl rfl (y_len_slice st_24.und rfl rfl) ?_
    clear hf a; intro a hf
    refine st_y hf rfl rfl rfl (y_lss rfl rfl rfl) ?_
    clear hf a; intro a hf
    refine st_end ?_
    refine x_then_n ?_
    refine cond_t hf rfl (decide_eq_true (by omega)) ?_
    refine wp_skip ?_
    refine x_then_n ?_
    refine wp_seq ?_
    refine wp_block ?_
    refine wp_seq ?_
    refine wp_region_lit ?_
    refine st_y hf rfl rfl rfl (y_move rfl rfl) ?_
    clear hf a; intro a hf
    refine st_y hf rfl rfl rfl (y_move rfl rfl) ?_
    clear hf a; intro a hf
    refine st_y hf rfl rfl rfl (y_move rfl rfl) ?_
    clear hf a; intro a hf
    refine st_y hf rfl rfl rfl (y_conv8 Tryd.underlying3 Tryd.underlying5 rfl rfl) ?_
    clear hf a; intro a hf
    obtain ⟨x1_1, hx1_1, hb0_1⟩ := bnd hb0_1
    obtain ⟨h1_1, hx1_2⟩ := getI_some.1 hx1_1
    obtain ⟨b1_1, o1_1, c1_1, he⟩ := idx_form (hm.ow_rep 0 rfl) hx1_2
    simp only [Value.slice.injEq, Option.some.injEq] at he; obtain ⟨rfl, _, rfl⟩ := he
    have hL1_1 := rep_slice_len (hm.ow_rep 0 rfl)
    refine st_y hf rfl rfl rfl (y_indexAddr st_24 rfl rfl rfl h1_1 (idx_lt2 hx1_2 hL1_1)) ?_
    clear hf a; intro a hf
    refine st_ef0 hf rfl rfl (e_setElem (x1 := (byteI xs1_1.2)) (j := 0) (vs := [(.int .u8 (((byteI xs1_1.2)).toNat : Int))]) 0 hf hm rfl hx1_2 rfl Tryd.sizeOf5 rfl rfl rfl (one_cons rfl one_nil) rfl rfl) ?_
    clear hf a; rintro _ w1_1 a hm hf
    have hx1_3 := List.getElem?_set_self (a := (byteI xs1_1.2)) (idx_lt hx1_2)
    refine st_end ?_
    refine x_then_n ?_
    refine wp_region_lit ?_
    refine st_y hf rfl rfl rfl (y_move rfl rfl) ?_
    clear hf a; intro a hf
    refine st_y hf rfl rfl rfl (y_addw rfl rfl rfl) ?_
    clear hf a; intro a hf
    refine st_y hf rfl rfl rfl (y_assign rfl rfl) ?_
    clear hf a; intro a hf
    refine st_end ?_
    refine x_blk_n ?_
    refine x_then_n ?_
    refine wp_region_lit ?_
    refine st_y hf rfl rfl rfl (y_move rfl rfl) ?_
    clear hf a; intro a hf
    refine st_y hf rfl rfl rfl (y_add64 rfl rfl rfl (by omega) (by omega)) ?_
    clear hf a; intro a hf
    refine st_y hf rfl rfl rfl (y_assign rfl rfl) ?_
    clear hf a; intro a hf
    refine st_end ?_
    refine x_then_n ?_
    obtain rfl := Option.some.inj hb0_1
    exact ⟨_, rfl, hf.sub ⟨rfl, rfl, rfl, trivial⟩, hm.pick [0] (by decide) rfl⟩
  ·
    clear hf hm
    rintro i0_1 xs0_1 a w ⟨hf, hm⟩ hi0_1 hi0_2 rfl
    replace hq := sum_l hq
    refine wp_seq ?_
    refine wp_seq ?_
    refine wp_region_lit ?_
    refine st_y hf rfl rfl rfl (y_move rfl rfl) ?_
    clear hf a; intro a hf
    refine st_y hf rfl rfl rfl (y_move rfl rfl) ?_
    clear hf a; intro a hf
    have hl0_3 := rep_len (hm.ow_rep 0 rfl)
    refine st_y hf rfl rfl rfl (y_len_slice st_24.und rfl rfl) ?_
    clear hf a; intro a hf
    refine st_y hf rfl rfl rfl (y_lss rfl rfl rfl) ?_
    clear hf a; intro a hf
    refine st_end ?_
    refine x_then_n ?_
    refine cond_f hf rfl (decide_eq_false (by omega)) ?_
    refine wp_exit ?_
    refine x_then_exit ?_
    refine x_then_exit ?_
    refine x_blk_hit ?_
    refine x_then_n ?_
    refine wp_seq ?_
    refine wp_region_lit ?_
    refine st_y hf rfl rfl rfl (y_move rfl rfl) ?_
    clear hf a; intro a hf
    refine st_y hf rfl rfl rfl (y_assign rfl rfl) ?_
    clear hf a; intro a hf
    refine st_end ?_
    refine x_then_n ?_
    refine wp_ret ?_
    obtain rfl := Option.some.inj hq
    refine ret_tmp hf Tryd.results14 rfl ?_
    exact ⟨rfl, hm.pick [0] (by decide) rfl⟩

theorem laws_markMinsS_ok (w0 : World) (hz : Heap) (a_ : List Mins) (v1 : Value) (k_ : Int) (hm0 : Mem w0 hz w0 [ow [v1] a_]) (r : Int × (List Mins)) (hq : laws_markMinsS a_ k_ = some r) :
    Con Tryd.prog 56 [v1, (.int .i64 (k_))] w0 (fun v w' => v = (.int .i64 (r.1)) ∧ Mem w0 hz w' [ow [v1] r.2]) := by
  unfold laws_markMinsS at hq
  refine con_body (l := [(0, v1), (1, (.int .i64 (k_)))]) Tryd.func56 rfl Tryd.ntmps56 (Args.get ⟨rfl, rfl, trivial⟩) rfl ?_
  intro a hf
  have hm := hm0
  refine wp_seq ?_
  refine wp_region_lit ?_
  refine st_y hf rfl rfl rfl (y_assign rfl rfl) ?_
  clear hf a; intro a hf
  refine st_end ?_
  refine x_then_n ?_
  refine wp_seq ?_
  refine wp_seq ?_
  refine wp_region_lit ?_
  refine st_y hf rfl rfl rfl (y_assign rfl rfl) ?_
  clear hf a; intro a hf
  refine st_end ?_
  refine x_then_n ?_
  obtain ⟨p0_1, c0_1, he, hl0_1⟩ := ro_slice (hm.ow_rep 0 rfl)
  subst he
  refine wp_block ?_
  obtain ⟨r0_1, hl0_2, hq⟩ := bnd hq
  refine wp_forN _ (fun i1_1 xs1_1 a w => Fr 48 [(0, (.slice p0_1 a_.length c0_1)), (1, (.int .i64 (xs1_1.2))), (5, (.int .i64 (i1_1)))] a ∧ Mem w0 hz w [ow [(.slice p0_1 a_.length c0_1)] xs1_1.1]) (0) ((a_.length : Int)) hl0_2 ?_ ?_ ?_
  ·
    exact ⟨hf.sub ⟨rfl, rfl, rfl, trivial⟩, hm.pick [0] (by decide) rfl⟩
  ·
    clear hf hm
    rintro i1_1 xs1_1 a w ⟨hf, hm⟩ hi1_1 hi1_2 q0_1 hb0_1 ho0_1
    refine wp_seq ?_
    refine wp_seq ?_
    refine wp_region_lit ?_
    refine st_y hf rfl rfl rfl (y_move rfl rfl) ?_
    clear hf a; intro a hf
    refine st_y hf rfl rfl rfl (y_move rfl rfl) ?_
    clear hf a; intro a hf
    have hl1_1 := rep_len (hm.ow_rep 0 rfl)
    refine st_y hf rfl rfl rfl (y_len_slice st_33.und rfl rfl) ?_
    clear hf a; intro a hf
    refine st_y hf rfl rfl rfl (y_lss rfl rfl rfl) ?_
    clear hf a; intro a hf
    refine st_end ?_
    refine x_then_n ?_
    refine cond_t hf rfl (decide_eq_true (by omega)) ?_
    refine wp_skip ?_
    refine x_then_n ?_
    refine wp_seq ?_
    refine wp_block ?_
    refine wp_seq ?_
    refine wp_region_lit ?_
    refine st_y hf rfl rfl rfl (y_move rfl rfl) ?_
    clear hf a; intro a hf
    refine st_y hf rfl rfl rfl (y_move rfl rfl) ?_
    clear hf a; intro a hf
    refine st_y hf rfl rfl rfl (y_move rfl rfl) ?_
    clear hf a; intro a hf
    obtain ⟨x1_1, hx1_1, hb0_1⟩ := bnd hb0_1
    obtain ⟨h1_1, hx1_2⟩ := getI_some.1 hx1_1
    obtain ⟨b1_1, o1_1, c1_1, he⟩ := idx_form (hm.ow_rep 0 rfl) hx1_2
    simp only [Value.slice.injEq, Option.some.injEq] at he; obtain ⟨rfl, _, rfl⟩ := he
    have hL1_1 := rep_slice_len (hm.ow_rep 0 rfl)
    refine st_y hf rfl rfl rfl (y_indexAddr st_33 rfl rfl rfl h1_1 (idx_lt2 hx1_2 hL1_1)) ?_
    clear hf a; intro a hf
    refine st_y hf rfl rfl rfl (y_fieldAddr fo_27_0 rfl rfl) ?_
    clear hf a; intro a hf
    refine st_ef0 hf rfl rfl (e_setElem (x1 := (⟨xs1_1.2, x1_1.a_, x1_1.b, x1_1.c, x1_1.n_⟩ : Mins)) (j := 0) (vs := [(.int .i64 (xs1_1.2))]) 0 hf hm rfl hx1_2 rfl Tryd.sizeOf3 rfl rfl rfl (one_cons rfl one_nil) rfl rfl) ?_
    clear hf a; rintro _ w1_1 a hm hf
    have hx1_3 := List.getElem?_set_self (a := (⟨xs1_1.2, x1_1.a_, x1_1.b, x1_1.c, x1_1.n_⟩ : Mins)) (idx_lt hx1_2)
    refine st_end ?_
    refine x_then_n ?_
    refine wp_seq ?_
    refine wp_region_lit ?_
    refine st_y hf rfl rfl rfl (y_move rfl rfl) ?_
    clear hf a; intro a hf
    refine st_y hf rfl rfl rfl (y_addw rfl rfl rfl) ?_
    clear hf a; intro a hf
    refine st_y hf rfl rfl rfl (y_assign rfl rfl) ?_
    clear hf a; intro a hf
    refine st_end ?_
    refine x_then_n ?_
    refine wp_seq ?_
    refine wp_region_lit ?_
    refine st_y hf rfl rfl rfl (y_move rfl rfl) ?_
    clear hf a; intro a hf
    refine st_y hf rfl rfl rfl (y_move rfl rfl) ?_
    clear hf a; intro a hf
    refine st_y hf rfl rfl rfl (y_move rfl rfl) ?_
    clear hf a; intro a hf
    have hL1_2 := rep_slice_len (hm.ow_rep 0 rfl)
    refine st_y hf rfl rfl rfl (y_indexAddr st_33 rfl rfl rfl h1_1 (idx_lt2 hx1_3 hL1_2)) ?_
    clear hf a; intro a hf
    refine st_y hf rfl rfl rfl (y_fieldAddr fo_27_1 rfl rfl) ?_
    clear hf a; intro a hf
    refine st_ef0 hf rfl rfl (e_setElem (x1 := (⟨xs1_1.2, w64 (xs1_1.2 + 1), x1_1.b, x1_1.c, x1_1.n_⟩ : Mins)) (j := 1) (vs := [(.int .i64 (w64 (xs1_1.2 + 1)))]) 0 hf hm rfl hx1_3 rfl Tryd.sizeOf3 rfl rfl rfl (one_cons rfl one_nil) rfl rfl) ?_
    clear hf a; rintro _ w1_2 a hm hf
    have hx1_4 := List.getElem?_set_self (a := (⟨xs1_1.2, w64 (xs1_1.2 + 1), x1_1.b, x1_1.c, x1_1.n_⟩ : Mins)) (idx_lt hx1_2)
    simp only [List.set_set] at hm
    refine st_end ?_
    refine x_then_n ?_
    refine wp_seq ?_
    refine wp_region_lit ?_
    refine st_y hf rfl rfl rfl (y_move rfl rfl) ?_
    clear hf a; intro a hf
    refine st_y hf rfl rfl rfl (y_addw rfl rfl rfl) ?_
    clear hf a; intro a hf
    refine st_y hf rfl rfl rfl (y_assign rfl rfl) ?_
    clear hf a; intro a hf
    refine st_end ?_
    refine x_then_n ?_
    refine wp_seq ?_
    refine wp_region_lit ?_
    refine st_y hf rfl rfl rfl (y_move rfl rfl) ?_
    clear hf a; intro a hf
    refine st_y hf rfl rfl rfl (y_move rfl rfl) ?_
    clear hf a; intro a hf
    refine st_y hf rfl rfl rfl (y_move rfl rfl) ?_
    clear hf a; intro a hf
    have hL1_3 := rep_slice_len (hm.ow_rep 0 rfl)
    refine st_y hf rfl rfl rfl (y_indexAddr st_33 rfl rfl rfl h1_1 (idx_lt2 hx1_4 hL1_3)) ?_
    clear hf a; intro a hf
    refine st_y hf rfl rfl rfl (y_fieldAddr fo_27_2 rfl rfl) ?_
    clear hf a; intro a hf
    refine st_ef0 hf rfl rfl (e_setElem (x1 := (⟨xs1_1.2, w64 (xs1_1.2 + 1), w64 ((w64 (xs1_1.2 + 1)) + 1), x1_1.c, x1_1.n_⟩ : Mins)) (j := 2) (vs := [(.int .i64 (w64 ((w64 (xs1_1.2 + 1)) + 1)))]) 0 hf hm rfl hx1_4 rfl Tryd.sizeOf3 rfl rfl rfl (one_cons rfl one_nil) rfl rfl) ?_
    clear hf a; rintro _ w1_3 a hm hf
    have hx1_5 := List.getElem?_set_self (a := (⟨xs1_1.2, w64 (xs1_1.2 + 1), w64 ((w64 (xs1_1.2 + 1)) + 1), x1_1.c, x1_1.n_⟩ : Mins)) (idx_lt hx1_2)
    simp only [List.set_set] at hm
    refine st_end ?_
    refine x_then_n ?_
    refine wp_seq ?_
    refine wp_region_lit ?_
    refine st_y hf rfl rfl rfl (y_move rfl rfl) ?_
    clear hf a; intro a hf
    refine st_y hf rfl rfl rfl (y_addw rfl rfl rfl) ?_
    clear hf a; intro a hf
    refine st_y hf rfl rfl rfl (y_assign rfl rfl) ?_
    clear hf a; intro a hf
    refine st_end ?_
    refine x_then_n ?_
    refine wp_seq ?_
    refine wp_region_lit ?_
    refine st_y hf rfl rfl rfl (y_move rfl rfl) ?_
    clear hf a; intro a hf
    refine st_y hf rfl rfl rfl (y_move rfl rfl) ?_
    clear hf a; intro a hf
    refine st_y hf rfl rfl rfl (y_move rfl rfl) ?_
    clear hf a; intro a hf
    have hL1_4 := rep_slice_len (hm.ow_rep 0 rfl)
    refine st_y hf rfl rfl rfl (y_indexAddr st_33 rfl rfl rfl h1_1 (idx_lt2 hx1_5 hL1_4)) ?_
    clear hf a; intro a hf
    refine st_y hf rfl rfl rfl (y_fieldAddr fo_27_3 rfl rfl) ?_
    clear hf a; intro a hf
    refine st_ef0 hf rfl rfl (e_setElem (x1 := (⟨xs1_1.2, w64 (xs1_1.2 + 1), w64 ((w64 (xs1_1.2 + 1)) + 1), w64 ((w64 ((w64 (xs1_1.2 + 1)) + 1)) + 1), x1_1.n_⟩ : Mins)) (j := 3) (vs := [(.int .i64 (w64 ((w64 ((w64 (xs1_1.2 + 1)) + 1)) + 1)))]) 0 hf hm rfl hx1_5 rfl Tryd.sizeOf3 rfl rfl rfl (one_cons rfl one_nil) rfl rfl) ?_
    clear hf a; rintro _ w1_4 a hm hf
    have hx1_6 := List.getElem?_set_self (a := (⟨xs1_1.2, w64 (xs1_1.2 + 1), w64 ((w64 (xs1_1.2 + 1)) + 1), w64 ((w64 ((w64 (xs1_1.2 + 1)) + 1)) + 1), x1_1.n_⟩ : Mins)) (idx_lt hx1_2)
    simp only [List.set_set] at hm
    refine st_end ?_
    refine x_then_n ?_
    refine wp_seq ?_
    refine wp_region_lit ?_
    refine st_y hf rfl rfl rfl (y_move rfl rfl) ?_
    clear hf a; intro a hf
    refine st_y hf rfl rfl rfl (y_addw rfl rfl rfl) ?_
    clear hf a; intro a hf
    refine st_y hf rfl rfl rfl (y_assign rfl rfl) ?_
    clear hf a; intro a hf
    refine st_end ?_
    refine x_then_n ?_
    refine wp_seq ?_
    refine wp_region_lit ?_
    refine st_y hf rfl rfl rfl (y_move rfl rfl) ?_
    clear hf a; intro a hf
    refine st_y hf rfl rfl rfl (y_move rfl rfl) ?_
    clear hf a; intro a hf
    refine st_y hf rfl rfl rfl (y_move rfl rfl) ?_
    clear hf a; intro a hf
    have hL1_5 := rep_slice_len (hm.ow_rep 0 rfl)
    refine st_y hf rfl rfl rfl (y_indexAddr st_33 rfl rfl rfl h1_1 (idx_lt2 hx1_6 hL1_5)) ?_
    clear hf a; intro a hf
    refine st_y hf rfl rfl rfl (y_fieldAddr fo_27_4 rfl rfl) ?_
    clear hf a; intro a hf
    refine st_ef0 hf rfl rfl (e_setElem (x1 := (⟨xs1_1.2, w64 (xs1_1.2 + 1), w64 ((w64 (xs1_1.2 + 1)) + 1), w64 ((w64 ((w64 (xs1_1.2 + 1)) + 1)) + 1), w64 ((w64 ((w64 ((w64 (xs1_1.2 + 1)) + 1)) + 1)) + 1)⟩ : Mins)) (j := 4) (vs := [(.int .i64 (w64 ((w64 ((w64 ((w64 (xs1_1.2 + 1)) + 1)) + 1)) + 1)))]) 0 hf hm rfl hx1_6 rfl Tryd.sizeOf3 rfl rfl rfl (one_cons rfl one_nil) rfl rfl) ?_
    clear hf a; rintro _ w1_5 a hm hf
    have hx1_7 := List.getElem?_set_self (a := (⟨xs1_1.2, w64 (xs1_1.2 + 1), w64 ((w64 (xs1_1.2 + 1)) + 1), w64 ((w64 ((w64 (xs1_1.2 + 1)) + 1)) + 1), w64 ((w64 ((w64 ((w64 (xs1_1.2 + 1)) + 1)) + 1)) + 1)⟩ : Mins)) (idx_lt hx1_2)
    simp only [List.set_set] at hm
    refine st_end ?_
    refine x_then_n ?_
    refine wp_region_lit ?_
    refine st_y hf rfl rfl rfl (y_move rfl rfl) ?_
    clear hf a; intro a hf
    refine st_y hf rfl rfl rfl (y_addw rfl rfl rfl) ?_
    clear hf a; intro a hf
    refine st_y hf rfl rfl rfl (y_assign rfl rfl) ?_
    clear hf a; intro a hf
    refine st_end ?_
    refine x_blk_n ?_
    refine x_then_n ?_
    refine wp_region_lit ?_
    refine st_y hf rfl rfl rfl (y_move rfl rfl) ?_
    clear hf a; intro a hf
    refine st_y hf rfl rfl rfl (y_add64 rfl rfl rfl (by omega) (by omega)) ?_
    clear hf a; intro a hf
    refine st_y hf rfl rfl rfl (y_assign rfl rfl) ?_
    clear hf a; intro a hf
    refine st_end ?_
    refine x_then_n ?_
    obtain rfl := Option.some.inj hb0_1
    exact ⟨_, rfl, hf.sub ⟨rfl, rfl, rfl, trivial⟩, hm.pick [0] (by decide) rfl⟩
  ·
    clear hf hm
    rintro i0_1 xs0_1 a w ⟨hf, hm⟩ hi0_1 hi0_2 rfl
    replace hq := sum_l hq
    refine wp_seq ?_
    refine wp_seq ?_
    refine wp_region_lit ?_
    refine st_y hf rfl rfl rfl (y_move rfl rfl) ?_
    clear hf a; intro a hf
    refine st_y hf rfl rfl rfl (y_move rfl rfl) ?_
    clear hf a; intro a hf
    have hl0_3 := rep_len (hm.ow_rep 0 rfl)
    refine st_y hf rfl rfl rfl (y_len_slice st_33.und rfl rfl) ?_
    clear hf a; intro a hf
    refine st_y hf rfl rfl rfl (y_lss rfl rfl rfl) ?_
    clear hf a; intro a hf
    refine st_end ?_
    refine x_then_n ?_
    refine cond_f hf rfl (decide_eq_false (by omega)) ?_
    refine wp_exit ?_
    refine x_then_exit ?_
    refine x_then_exit ?_
    refine x_blk_hit ?_
    refine x_then_n ?_
    refine wp_seq ?_
    refine wp_region_lit ?_
    refine st_y hf rfl rfl rfl (y_move rfl rfl) ?_
    clear hf a; intro a hf
    refine st_y hf rfl rfl rfl (y_assign rfl rfl) ?_
    clear hf a; intro a hf
    refine st_end ?_
    refine x_then_n ?_
    refine wp_ret ?_
    obtain rfl := Option.some.inj hq
    refine ret_tmp hf Tryd.results56 rfl ?_
    exact ⟨rfl, hm.pick [0] (by decide) rfl⟩

theorem laws_markMfn_ok (w0 : World) (hz : Heap) (a_ : Mfn) (v1 : Value) (k_ : Int) (hm0 : Mem w0 hz w0 [ow [v1] a_.ins]) (r : Int × (List Mins)) (hq : laws_markMfn a_ k_ = some r) :
    Con Tryd.prog 26 [(.agg #[(.int .i64 (a_.params)), (.int .i64 (a_.slots)), v1]), (.int .i64 (k_))] w0 (fun v w' => v = (.int .i64 (r.1)) ∧ Mem w0 hz w' [ow [v1] r.2]) := by
  unfold laws_markMfn at hq
  refine con_body (l := [(0, (.agg #[(.int .i64 (a_.params)), (.int .i64 (a_.slots)), v1])), (1, (.int .i64 (k_)))]) Tryd.func26 rfl Tryd.ntmps26 (Args.get ⟨rfl, rfl, trivial⟩) rfl ?_
  intro a hf
  have hm := hm0
  refine wp_seq ?_
  refine wp_region_lit ?_
  refine st_ef hf rfl rfl rfl (e_box hf hm rfl rfl rfl) ?_
  clear hf a; rintro _ w0_1 a ⟨b0_1, rfl, hm⟩ hf
  refine st_y hf rfl rfl rfl (y_assign rfl rfl) ?_
  clear hf a; intro a hf
  refine st_end ?_
  refine x_then_n ?_
  refine wp_seq ?_
  refine wp_region_lit ?_
  refine st_y hf rfl rfl rfl (y_fieldAddr fo_35_2 rfl rfl) ?_
  clear hf a; intro a hf
  refine st_y hf rfl rfl rfl (y_load1 Tryd.isAgg33 rfl rfl (hm.blk_cell 0 rfl rfl)) ?_
  clear hf a; intro a hf
  refine st_y hf rfl rfl rfl (y_move rfl rfl) ?_
  clear hf a; intro a hf
  obtain ⟨r0_1, hx0_1, hq⟩ := bnd hq
  obtain ⟨hz0_1, hle, hm1, hsub, hk0_1⟩ := hm.take2 (L1 := [ow [v1] a_.ins]) (L2 := [blk b0_1 [(.int .i64 (a_.params)), (.int .i64 (a_.slots)), v1] 35]) [1] [0] (by decide) rfl rfl
  refine st_ef hf rfl rfl rfl (e_call hf rfl Tryd.call56 rfl (laws_markMinsS_ok _ hz0_1 a_.ins v1 k_ hm1  _ hx0_1)) ?_
  clear hf a; rintro v0_1 w0_2 a ho0_1 hf
  obtain ⟨rfl, hB⟩ := ho0_1
  replace hm := hk0_1 _ _ hB; clear hB
  refine st_y hf rfl rfl rfl (y_assign rfl rfl) ?_
  clear hf a; intro a hf
  refine st_end ?_
  refine x_then_n ?_
  refine wp_seq ?_
  refine wp_region_lit ?_
  refine st_y hf rfl rfl rfl (y_move rfl rfl) ?_
  clear hf a; intro a hf
  refine st_y hf rfl rfl rfl (y_assign rfl rfl) ?_
  clear hf a; intro a hf
  refine st_end ?_
  refine x_then_n ?_
  refine wp_ret ?_
  obtain rfl := Option.some.inj hq
  refine ret_tmp hf Tryd.results26 rfl ?_
  exact ⟨rfl, hm.pick [0] (by decide) rfl⟩

theorem laws_heldMinsS_ok (w0 : World) (a_ : List Mins) (v1 : Value) (h1 : GT.rep (hp w0) [v1] a_) (k_ : Int) (r : Int) (hq : laws_heldMinsS a_ k_ = some r) :
    Con Tryd.prog 63 [v1, (.int .i64 (k_))] w0 (fun v w' => v = (.int .i64 (r)) ∧ Below w0.heap.size w0 w') := by
  unfold laws_heldMinsS at hq
  refine con_body (l := [(0, v1), (1, (.int .i64 (k_)))]) Tryd.func63 rfl Tryd.ntmps63 (Args.get ⟨rfl, rfl, trivial⟩) rfl ?_
  intro a hf
  have hm := Mem.start w0
  refine wp_seq ?_
  refine wp_region_lit ?_
  refine st_y hf rfl rfl rfl (y_assign rfl rfl) ?_
  clear hf a; intro a hf
  refine st_end ?_
  refine x_then_n ?_
  refine wp_seq ?_
  refine wp_seq ?_
  refine wp_region_lit ?_
  refine st_y hf rfl rfl rfl (y_assign rfl rfl) ?_
  clear hf a; intro a hf
  refine st_end ?_
  refine x_then_n ?_
  refine wp_block ?_
  obtain ⟨r0_1, hl0_1, hq⟩ := bnd hq
  refine wp_forN _ (fun i1_1 xs1_1 a w => Fr 58 [(0, v1), (1, (.int .i64 (xs1_1))), (5, (.int .i64 (i1_1)))] a ∧ Mem w0 (hp w0) w []) (0) ((a_.length : Int)) hl0_1 ?_ ?_ ?_
  ·
    exact ⟨hf.sub ⟨rfl, rfl, rfl, trivial⟩, hm.pick [] (by decide) rfl⟩
  ·
    clear hf hm
    rintro i1_1 xs1_1 a w ⟨hf, hm⟩ hi1_1 hi1_2 q0_1 hb0_1 ho0_1
    refine wp_seq ?_
    refine wp_seq ?_
    refine wp_region_lit ?_
    refine st_y hf rfl rfl rfl (y_move rfl rfl) ?_
    clear hf a; intro a hf
    refine st_y hf rfl rfl rfl (y_move rfl rfl) ?_
    clear hf a; intro a hf
    obtain ⟨p1_1, c1_1, he, hl1_1⟩ := ro_slice h1
    subst he
    refine st_y hf rfl rfl rfl (y_len_slice st_33.und rfl rfl) ?_
    clear hf a; intro a hf
    refine st_y hf rfl rfl rfl (y_lss rfl rfl rfl) ?_
    clear hf a; intro a hf
    refine st_end ?_
    refine x_then_n ?_
    refine cond_t hf rfl (decide_eq_true (by omega)) ?_
    refine wp_skip ?_
    refine x_then_n ?_
    refine wp_seq ?_
    refine wp_block ?_
    refine wp_seq ?_
    refine wp_seq ?_
    refine wp_region_lit ?_
    refine st_y hf rfl rfl rfl (y_move rfl rfl) ?_
    clear hf a; intro a hf
    refine st_y hf rfl rfl rfl (y_move rfl rfl) ?_
    clear hf a; intro a hf
    obtain ⟨x1_1, hx1_1, hb0_1⟩ := bnd hb0_1
    obtain ⟨h1_1, hx1_2⟩ := getI_some.1 hx1_1
    obtain ⟨b1_1, o1_1, c1_2, he⟩ := idx_form h1 hx1_2
    simp only [Value.slice.injEq, Option.some.injEq] at he; obtain ⟨rfl, _, rfl⟩ := he
    refine st_y hf rfl rfl rfl (y_indexAddr st_33 rfl rfl rfl h1_1 (idx_lt hx1_2)) ?_
    clear hf a; intro a hf
    refine st_y hf rfl rfl rfl (y_fieldAddr fo_27_0 rfl rfl) ?_
    clear hf a; intro a hf
    refine st_y hf rfl rfl rfl (y_load1 Tryd.isAgg3 rfl rfl ((flat_cells (cs := [(.int .i64 (x1_1.op)), (.int .i64 (x1_1.a_)), (.int .i64 (x1_1.b)), (.int .i64 (x1_1.c)), (.int .i64 (x1_1.n_))]) (hm.now h1) hx1_2 rfl).cell (j := 0) rfl)) ?_
    clear hf a; intro a hf
    refine st_y hf rfl rfl rfl (y_move rfl rfl) ?_
    clear hf a; intro a hf
    refine st_y hf rfl rfl rfl (y_neq rfl rfl rfl) ?_
    clear hf a; intro a hf
    refine st_end ?_
    refine x_then_n ?_
    rcases bcases (decide (x1_1.op ≠ xs1_1)) with h1_2 | h1_2
    ·
      replace hb0_1 := (ite_t h1_2).symm.trans hb0_1
      have h1_3 := of_decide_eq_true h1_2
      refine cond_t hf rfl h1_2 ?_
      refine wp_seq ?_
      refine wp_region_lit ?_
      refine st_y hf rfl rfl rfl (y_assign rfl rfl) ?_
      clear hf a; intro a hf
      refine st_end ?_
      refine x_then_n ?_
      refine wp_ret ?_
      refine x_then_ret ?_
      refine x_blk_ret ?_
      refine x_then_ret ?_
      refine x_then_ret ?_
      refine x_blk_ret ?_
      refine x_then_ret ?_
      obtain rfl := Option.some.inj hb0_1
      obtain rfl := ho0_1 _ rfl
      replace hq := sum_r hq
      obtain rfl := Option.some.inj hq
      refine ret_tmp hf Tryd.results63 rfl ?_
      exact ⟨rfl, hm.below⟩
    ·
      replace hb0_1 := (ite_f h1_2).symm.trans hb0_1
      have h1_4 := of_decide_eq_false h1_2
      refine cond_f hf rfl h1_2 ?_
      refine wp_skip ?_
      refine x_then_n ?_
      refine wp_seq ?_
      refine wp_region_lit ?_
      refine st_y hf rfl rfl rfl (y_move rfl rfl) ?_
      clear hf a; intro a hf
      refine st_y hf rfl rfl rfl (y_addw rfl rfl rfl) ?_
      clear hf a; intro a hf
      refine st_y hf rfl rfl rfl (y_assign rfl rfl) ?_
      clear hf a; intro a hf
      refine st_end ?_
      refine x_then_n ?_
      refine wp_seq ?_
      refine wp_seq ?_
      refine wp_region_lit ?_
      refine st_y hf rfl rfl rfl (y_move rfl rfl) ?_
      clear hf a; intro a hf
      refine st_y hf rfl rfl rfl (y_move rfl rfl) ?_
      clear hf a; intro a hf
      refine st_y hf rfl rfl rfl (y_indexAddr st_33 rfl rfl rfl h1_1 (idx_lt hx1_2)) ?_
      clear hf a; intro a hf
      refine st_y hf rfl rfl rfl (y_fieldAddr fo_27_1 rfl rfl) ?_
      clear hf a; intro a hf
      refine st_y hf rfl rfl rfl (y_load1 Tryd.isAgg3 rfl rfl ((flat_cells (cs := [(.int .i64 (x1_1.op)), (.int .i64 (x1_1.a_)), (.int .i64 (x1_1.b)), (.int .i64 (x1_1.c)), (.int .i64 (x1_1.n_))]) (hm.now h1) hx1_2 rfl).cell (j := 1) rfl)) ?_
      clear hf a; intro a hf
      refine st_y hf rfl rfl rfl (y_move rfl rfl) ?_
      clear hf a; intro a hf
      refine st_y hf rfl rfl rfl (y_neq rfl rfl rfl) ?_
      clear hf a; intro a hf
      refine st_end ?_
      refine x_then_n ?_
      rcases bcases (decide (x1_1.a_ ≠ (w64 (xs1_1 + 1)))) with h1_5 | h1_5
      ·
        replace hb0_1 := (ite_t h1_5).symm.trans hb0_1
        have h1_6 := of_decide_eq_true h1_5
        refine cond_t hf rfl h1_5 ?_
        refine wp_seq ?_
        refine wp_region_lit ?_
        refine st_y hf rfl rfl rfl (y_assign rfl rfl) ?_
        clear hf a; intro a hf
        refine st_end ?_
        refine x_then_n ?_
        refine wp_ret ?_
        refine x_then_ret ?_
        refine x_blk_ret ?_
        refine x_then_ret ?_
        refine x_then_ret ?_
        refine x_blk_ret ?_
        refine x_then_ret ?_
        obtain rfl := Option.some.inj hb0_1
        obtain rfl := ho0_1 _ rfl
        replace hq := sum_r hq
        obtain rfl := Option.some.inj hq
        refine ret_tmp hf Tryd.results63 rfl ?_
        exact ⟨rfl, hm.below⟩
      ·
        replace hb0_1 := (ite_f h1_5).symm.trans hb0_1
        have h1_7 := of_decide_eq_false h1_5
        refine cond_f hf rfl h1_5 ?_
        refine wp_skip ?_
        refine x_then_n ?_
        refine wp_seq ?_
        refine wp_region_lit ?_
        refine st_y hf rfl rfl rfl (y_move rfl rfl) ?_
        clear hf a; intro a hf
        refine st_y hf rfl rfl rfl (y_addw rfl rfl rfl) ?_
        clear hf a; intro a hf
        refine st_y hf rfl rfl rfl (y_assign rfl rfl) ?_
        clear hf a; intro a hf
        refine st_end ?_
        refine x_then_n ?_
        refine wp_seq ?_
        refine wp_seq ?_
        refine wp_region_lit ?_
        refine st_y hf rfl rfl rfl (y_move rfl rfl) ?_
        clear hf a; intro a hf
        refine st_y hf rfl rfl rfl (y_move rfl rfl) ?_
        clear hf a; intro a hf
        refine st_y hf rfl rfl rfl (y_indexAddr st_33 rfl rfl rfl h1_1 (idx_lt hx1_2)) ?_
        clear hf a; intro a hf
        refine st_y hf rfl rfl rfl (y_fieldAddr fo_27_2 rfl rfl) ?_
        clear hf a; intro a hf
        refine st_y hf rfl rfl rfl (y_load1 Tryd.isAgg3 rfl rfl ((flat_cells (cs := [(.int .i64 (x1_1.op)), (.int .i64 (x1_1.a_)), (.int .i64 (x1_1.b)), (.int .i64 (x1_1.c)), (.int .i64 (x1_1.n_))]) (hm.now h1) hx1_2 rfl).cell (j := 2) rfl)) ?_
        clear hf a; intro a hf
        refine st_y hf rfl rfl rfl (y_move rfl rfl) ?_
        clear hf a; intro a hf
        refine st_y hf rfl rfl rfl (y_neq rfl rfl rfl) ?_
        clear hf a; intro a hf
        refine st_end ?_
        refine x_then_n ?_
        rcases bcases (decide (x1_1.b ≠ (w64 ((w64 (xs1_1 + 1)) + 1)))) with h1_8 | h1_8
        ·
          replace hb0_1 := (ite_t h1_8).symm.trans hb0_1
          have h1_9 := of_decide_eq_true h1_8
          refine cond_t hf rfl h1_8 ?_
          refine wp_seq ?_
          refine wp_region_lit ?_
          refine st_y hf rfl rfl rfl (y_assign rfl rfl) ?_
          clear hf a; intro a hf
          refine st_end ?_
          refine x_then_n ?_
          refine wp_ret ?_
          refine x_then_ret ?_
          refine x_blk_ret ?_
          refine x_then_ret ?_
          refine x_then_ret ?_
          refine x_blk_ret ?_
          refine x_then_ret ?_
          obtain rfl := Option.some.inj hb0_1
          obtain rfl := ho0_1 _ rfl
          replace hq := sum_r hq
          obtain rfl := Option.some.inj hq
          refine ret_tmp hf Tryd.results63 rfl ?_
          exact ⟨rfl, hm.below⟩
        ·
          replace hb0_1 := (ite_f h1_8).symm.trans hb0_1
          have h1_10 := of_decide_eq_false h1_8
          refine cond_f hf rfl h1_8 ?_
          refine wp_skip ?_
          refine x_then_n ?_
          refine wp_seq ?_
          refine wp_region_lit ?_
          refine st_y hf rfl rfl rfl (y_move rfl rfl) ?_
          clear hf a; intro a hf
          refine st_y hf rfl rfl rfl (y_addw rfl rfl rfl) ?_
          clear hf a; intro a hf
          refine st_y hf rfl rfl rfl (y_assign rfl rfl) ?_
          clear hf a; intro a hf
          refine st_end ?_
          refine x_then_n ?_
          refine wp_seq ?_
          refine wp_seq ?_
          refine wp_region_lit ?_
          refine st_y hf rfl rfl rfl (y_move rfl rfl) ?_
          clear hf a; intro a hf
          refine st_y hf rfl rfl rfl (y_move rfl rfl) ?_
          clear hf a; intro a hf
          refine st_y hf rfl rfl rfl (y_indexAddr st_33 rfl rfl rfl h1_1 (idx_lt hx1_2)) ?_
          clear hf a; intro a hf
          refine st_y hf rfl rfl rfl (y_fieldAddr fo_27_3 rfl rfl) ?_
          clear hf a; intro a hf
          refine st_y hf rfl rfl rfl (y_load1 Tryd.isAgg3 rfl rfl ((flat_cells (cs := [(.int .i64 (x1_1.op)), (.int .i64 (x1_1.a_)), (.int .i64 (x1_1.b)), (.int .i64 (x1_1.c)), (.int .i64 (x1_1.n_))]) (hm.now h1) hx1_2 rfl).cell (j := 3) rfl)) ?_
          clear hf a; intro a hf
          refine st_y hf rfl rfl rfl (y_move rfl rfl) ?_
          clear hf a; intro a hf
          refine st_y hf rfl rfl rfl (y_neq rfl rfl rfl) ?_
          clear hf a; intro a hf
          refine st_end ?_
          refine x_then_n ?_
          rcases bcases (decide (x1_1.c ≠ (w64 ((w64 ((w64 (xs1_1 + 1)) + 1)) + 1)))) with h1_11 | h1_11
          ·
            replace hb0_1 := (ite_t h1_11).symm.trans hb0_1
            have h1_12 := of_decide_eq_true h1_11
            refine cond_t hf rfl h1_11 ?_
            refine wp_seq ?_
            refine wp_region_lit ?_
            refine st_y hf rfl rfl rfl (y_assign rfl rfl) ?_
            clear hf a; intro a hf
            refine st_end ?_
            refine x_then_n ?_
            refine wp_ret ?_
            refine x_then_ret ?_
            refine x_blk_ret ?_
            refine x_then_ret ?_
            refine x_then_ret ?_
            refine x_blk_ret ?_
            refine x_then_ret ?_
            obtain rfl := Option.some.inj hb0_1
            obtain rfl := ho0_1 _ rfl
            replace hq := sum_r hq
            obtain rfl := Option.some.inj hq
            refine ret_tmp hf Tryd.results63 rfl ?_
            exact ⟨rfl, hm.below⟩
          ·
            replace hb0_1 := (ite_f h1_11).symm.trans hb0_1
            have h1_13 := of_decide_eq_false h1_11
            refine cond_f hf rfl h1_11 ?_
            refine wp_skip ?_
            refine x_then_n ?_
            refine wp_seq ?_
            refine wp_region_lit ?_
            refine st_y hf rfl rfl rfl (y_move rfl rfl) ?_
            clear hf a; intro a hf
            refine st_y hf rfl rfl rfl (y_addw rfl rfl rfl) ?_
            clear hf a; intro a hf
            refine st_y hf rfl rfl rfl (y_assign rfl rfl) ?_
            clear hf a; intro a hf
            refine st_end ?_
            refine x_then_n ?_
            refine wp_seq ?_
            refine wp_seq ?_
            refine wp_region_lit ?_
            refine st_y hf rfl rfl rfl (y_move rfl rfl) ?_
            clear hf a; intro a hf
            refine st_y hf rfl rfl rfl (y_move rfl rfl) ?_
            clear hf a; intro a hf
            refine st_y hf rfl rfl rfl (y_indexAddr st_33 rfl rfl rfl h1_1 (idx_lt hx1_2)) ?_
            clear hf a; intro a hf
            refine st_y hf rfl rfl rfl (y_fieldAddr fo_27_4 rfl rfl) ?_
            clear hf a; intro a hf
            refine st_y hf rfl rfl rfl (y_load1 Tryd.isAgg3 rfl rfl ((flat_cells (cs := [(.int .i64 (x1_1.op)), (.int .i64 (x1_1.a_)), (.int .i64 (x1_1.b)), (.int .i64 (x1_1.c)), (.int .i64 (x1_1.n_))]) (hm.now h1) hx1_2 rfl).cell (j := 4) rfl)) ?_
            clear hf a; intro a hf
            refine st_y hf rfl rfl rfl (y_move rfl rfl) ?_
            clear hf a; intro a hf
            refine st_y hf rfl rfl rfl (y_neq rfl rfl rfl) ?_
            clear hf a; intro a hf
            refine st_end ?_
            refine x_then_n ?_
            rcases bcases (decide (x1_1.n_ ≠ (w64 ((w64 ((w64 ((w64 (xs1_1 + 1)) + 1)) + 1)) + 1)))) with h1_14 | h1_14
            ·
              replace hb0_1 := (ite_t h1_14).symm.trans hb0_1
              have h1_15 := of_decide_eq_true h1_14
              refine cond_t hf rfl h1_14 ?_
              refine wp_seq ?_
              refine wp_region_lit ?_
              refine st_y hf rfl rfl rfl (y_assign rfl rfl) ?_
              clear hf a; intro a hf
              refine st_end ?_
              refine x_then_n ?_
              refine wp_ret ?_
              refine x_then_ret ?_
              refine x_blk_ret ?_
              refine x_then_ret ?_
              refine x_then_ret ?_
              refine x_blk_ret ?_
              refine x_then_ret ?_
              obtain rfl := Option.some.inj hb0_1
              obtain rfl := ho0_1 _ rfl
              replace hq := sum_r hq
              obtain rfl := Option.some.inj hq
              refine ret_tmp hf Tryd.results63 rfl ?_
              exact ⟨rfl, hm.below⟩
            ·
              replace hb0_1 := (ite_f h1_14).symm.trans hb0_1
              have h1_16 := of_decide_eq_false h1_14
              refine cond_f hf rfl h1_14 ?_
              refine wp_skip ?_
              refine x_then_n ?_
              refine wp_region_lit ?_
              refine st_y hf rfl rfl rfl (y_move rfl rfl) ?_
              clear hf a; intro a hf
              refine st_y hf rfl rfl rfl (y_addw rfl rfl rfl) ?_
              clear hf a; intro a hf
              refine st_y hf rfl rfl rfl (y_assign rfl rfl) ?_
              clear hf a; intro a hf
              refine st_end ?_
              refine x_blk_n ?_
              refine x_then_n ?_
              refine wp_region_lit ?_
              refine st_y hf rfl rfl rfl (y_move rfl rfl) ?_
              clear hf a; intro a hf
              refine st_y hf rfl rfl rfl (y_add64 rfl rfl rfl (by omega) (by omega)) ?_
              clear hf a; intro a hf
              refine st_y hf rfl rfl rfl (y_assign rfl rfl) ?_
              clear hf a; intro a hf
              refine st_end ?_
              refine x_then_n ?_
              obtain rfl := Option.some.inj hb0_1
              exact ⟨_, rfl, hf.sub ⟨rfl, rfl, rfl, trivial⟩, hm.pick [] (by decide) rfl⟩
  ·
    clear hf hm
    rintro i0_1 xs0_1 a w ⟨hf, hm⟩ hi0_1 hi0_2 rfl
    replace hq := sum_l hq
    refine wp_seq ?_
    refine wp_seq ?_
    refine wp_region_lit ?_
    refine st_y hf rfl rfl rfl (y_move rfl rfl) ?_
    clear hf a; intro a hf
    refine st_y hf rfl rfl rfl (y_move rfl rfl) ?_
    clear hf a; intro a hf
    obtain ⟨p0_1, c0_1, he, hl0_2⟩ := ro_slice h1
    subst he
    refine st_y hf rfl rfl rfl (y_len_slice st_33.und rfl rfl) ?_
    clear hf a; intro a hf
    refine st_y hf rfl rfl rfl (y_lss rfl rfl rfl) ?_
    clear hf a; intro a hf
    refine st_end ?_
    refine x_then_n ?_
    refine cond_f hf rfl (decide_eq_false (by omega)) ?_
    refine wp_exit ?_
    refine x_then_exit ?_
    refine x_then_exit ?_
    refine x_blk_hit ?_
    refine x_then_n ?_
    refine wp_seq ?_
    refine wp_region_lit ?_
    refine st_y hf rfl rfl rfl (y_move rfl rfl) ?_
    clear hf a; intro a hf
    refine st_y hf rfl rfl rfl (y_assign rfl rfl) ?_
    clear hf a; intro a hf
    refine st_end ?_
    refine x_then_n ?_
    refine wp_ret ?_
    obtain rfl := Option.some.inj hq
    refine ret_tmp hf Tryd.results63 rfl ?_
    exact ⟨rfl, hm.below⟩

theorem laws_heldMfn_ok (w0 : World) (a_ : Mfn) (v1 : Value) (h1 : GT.rep (hp w0) [v1] a_.ins) (k_ : Int) (r : Int) (hq : laws_heldMfn a_ k_ = some r) :
    Con Tryd.prog 35 [(.agg #[(.int .i64 (a_.params)), (.int .i64 (a_.slots)), v1]), (.int .i64 (k_))] w0 (fun v w' => v = (.int .i64 (r)) ∧ Below w0.heap.size w0 w') := by
  unfold laws_heldMfn at hq
  refine con_body (l := [(0, (.agg #[(.int .i64 (a_.params)), (.int .i64 (a_.slots)), v1])), (1, (.int .i64 (k_)))]) Tryd.func35 rfl Tryd.ntmps35 (Args.get ⟨rfl, rfl, trivial⟩) rfl ?_
  intro a hf
  have hm := Mem.start w0
  refine wp_seq ?_
  refine wp_region_lit ?_
  refine st_ef hf rfl rfl rfl (e_box hf hm rfl rfl rfl) ?_
  clear hf a; rintro _ w0_1 a ⟨b0_1, rfl, hm⟩ hf
  refine st_y hf rfl rfl rfl (y_assign rfl rfl) ?_
  clear hf a; intro a hf
  refine st_end ?_
  refine x_then_n ?_
  refine wp_seq ?_
  refine wp_region_lit ?_
  refine st_y hf rfl rfl rfl (y_fieldAddr fo_35_2 rfl rfl) ?_
  clear hf a; intro a hf
  refine st_y hf rfl rfl rfl (y_load1 Tryd.isAgg33 rfl rfl (hm.blk_cell 0 rfl rfl)) ?_
  clear hf a; intro a hf
  refine st_y hf rfl rfl rfl (y_move rfl rfl) ?_
  clear hf a; intro a hf
  obtain ⟨r0_1, hx0_1, hq⟩ := bnd hq
  refine st_ef hf rfl rfl rfl (e_call hf rfl Tryd.call63 rfl (laws_heldMinsS_ok _ a_.ins v1 (hm.now h1) k_ _ hx0_1)) ?_
  clear hf a; rintro v0_1 w0_2 a ho0_1 hf
  obtain ⟨rfl, hB⟩ := ho0_1
  replace hm := hm.below' hB; clear hB
  refine st_y hf rfl rfl rfl (y_assign rfl rfl) ?_
  clear hf a; intro a hf
  refine st_end ?_
  refine x_then_n ?_
  refine wp_seq ?_
  refine wp_seq ?_
  refine wp_region_lit ?_
  refine st_y hf rfl rfl rfl (y_move rfl rfl) ?_
  clear hf a; intro a hf
  refine st_y hf rfl rfl rfl (y_lss rfl rfl rfl) ?_
  clear hf a; intro a hf
  refine st_end ?_
  refine x_then_n ?_
  rcases bcases (decide (r0_1 < 0)) with h0_1 | h0_1
  ·
    replace hq := (ite_t h0_1).symm.trans hq
    have h0_2 := of_decide_eq_true h0_1
    refine cond_t hf rfl h0_1 ?_
    refine wp_seq ?_
    refine wp_region_lit ?_
    refine st_y hf rfl rfl rfl (y_assign rfl rfl) ?_
    clear hf a; intro a hf
    refine st_end ?_
    refine x_then_n ?_
    refine wp_ret ?_
    refine x_then_ret ?_
    obtain rfl := Option.some.inj hq
    refine ret_tmp hf Tryd.results35 rfl ?_
    exact ⟨rfl, hm.below⟩
  ·
    replace hq := (ite_f h0_1).symm.trans hq
    have h0_3 := of_decide_eq_false h0_1
    refine cond_f hf rfl h0_1 ?_
    refine wp_skip ?_
    refine x_then_n ?_
    refine wp_seq ?_
    refine wp_region_lit ?_
    refine st_y hf rfl rfl rfl (y_move rfl rfl) ?_
    clear hf a; intro a hf
    refine st_y hf rfl rfl rfl (y_assign rfl rfl) ?_
    clear hf a; intro a hf
    refine st_end ?_
    refine x_then_n ?_
    refine wp_ret ?_
    obtain rfl := Option.some.inj hq
    refine ret_tmp hf Tryd.results35 rfl ?_
    exact ⟨rfl, hm.below⟩

theorem laws_FnExactDecodeFn_ok (w0 : World) (aParams : Int) (aSlots : Int) (aCode : List UInt8) (v1 : Value) (h1 : GT.rep (hp w0) [v1] aCode) (hG0 : GT.rep (hp w0) [.slice (some ⟨0, 0, none⟩) 23 23] glob_impl_forms) (r : Bool) (hq : laws_FnExactDecodeFn aParams aSlots aCode = some r) :
    Con Tryd.prog 9 [(.int .i64 (aParams)), (.int .i64 (aSlots)), v1] w0 (fun v w' => v = (.bool (r)) ∧ Below w0.heap.size w0 w') := by
  unfold laws_FnExactDecodeFn at hq
  refine con_body (l := [(0, (.int .i64 (aParams))), (1, (.int .i64 (aSlots))), (2, v1)]) Tryd.func9 rfl Tryd.ntmps9 (Args.get ⟨rfl, rfl, rfl, trivial⟩) rfl ?_
  intro a hf
  have hm := Mem.start w0
  refine wp_seq ?_
  refine wp_region_lit ?_
  refine st_y hf rfl rfl rfl (y_assign rfl rfl) ?_
  clear hf a; intro a hf
  refine st_end ?_
  refine x_then_n ?_
  refine wp_seq ?_
  refine wp_seq ?_
  refine wp_region_lit ?_
  refine st_y hf rfl rfl rfl (y_move rfl rfl) ?_
  clear hf a; intro a hf
  obtain ⟨p0_1, c0_1, he, hl0_1⟩ := ro_slice h1
  subst he
  refine st_y hf rfl rfl rfl (y_len_slice st_24.und rfl rfl) ?_
  clear hf a; intro a hf
  refine st_y hf rfl rfl rfl (y_gtr rfl rfl rfl) ?_
  clear hf a; intro a hf
  refine st_end ?_
  refine x_then_n ?_
  rcases bcases (decide (1048576 < ((aCode.length : Int)))) with h0_1 | h0_1
  ·
    replace hq := (ite_t h0_1).symm.trans hq
    have h0_2 := of_decide_eq_true h0_1
    refine cond_t hf rfl h0_1 ?_
    refine wp_seq ?_
    refine wp_region_lit ?_
    refine st_y hf rfl rfl rfl (y_assign rfl rfl) ?_
    clear hf a; intro a hf
    refine st_end ?_
    refine x_then_n ?_
    refine wp_ret ?_
    refine x_then_ret ?_
    obtain rfl := Option.some.inj hq
    refine ret_tmp hf Tryd.results9 rfl ?_
    exact ⟨rfl, hm.below⟩
  ·
    replace hq := (ite_f h0_1).symm.trans hq
    have h0_3 := of_decide_eq_false h0_1
    refine cond_f hf rfl h0_1 ?_
    refine wp_skip ?_
    refine x_then_n ?_
    refine wp_seq ?_
    refine wp_region_lit ?_
    refine st_y hf rfl rfl rfl (y_move rfl rfl) ?_
    clear hf a; intro a hf
    refine st_y hf rfl rfl rfl (y_move rfl rfl) ?_
    clear hf a; intro a hf
    refine st_y hf rfl rfl rfl (y_move rfl rfl) ?_
    clear hf a; intro a hf
    obtain ⟨r0_1, hx0_1, hq⟩ := bnd hq
    refine st_ef hf rfl rfl rfl (e_call hf rfl Tryd.call33 rfl (laws_toByteS_ok _ aCode (.slice p0_1 aCode.length c0_1) (hm.now h1) _ hx0_1)) ?_
    clear hf a; rintro v0_1 w0_1 a ho0_1 hf
    obtain ⟨_, rfl, hB⟩ := ho0_1
    replace hm := hm.give hB; clear hB
    obtain ⟨r0_2, hx0_2, hq⟩ := bnd hq
    refine st_ef hf rfl rfl rfl (e_call hf rfl Tryd.call32 rfl (spec_DecodeFn_ok _ aParams aSlots r0_1 v0_1 (hm.ow_rep 0 rfl) _ hx0_2)) ?_
    clear hf a; rintro v0_3 w0_2 a ho0_2 hf
    obtain ⟨v0_4, rfl, hB⟩ := ho0_2
    replace hm := hm.give hB; clear hB
    refine st_y hf rfl rfl rfl (y_move rfl rfl) ?_
    clear hf a; intro a hf
    refine st_y hf rfl rfl rfl (y_extract rfl rfl rfl) ?_
    clear hf a; intro a hf
    refine st_y hf rfl rfl rfl (y_extract rfl rfl rfl) ?_
    clear hf a; intro a hf
    refine st_ef hf rfl rfl rfl (e_alloc hm Tryd.zeroValue35 rfl rfl) ?_
    clear hf a; rintro _ w0_3 a ⟨b0_1, rfl, hm⟩ hf
    refine st_ef0 hf rfl rfl (e_storeN 0 hf hm rfl Tryd.sizeOf35 rfl rfl rfl (one_cons rfl (one_cons rfl (one_cons (rep_one (hm.ow_rep 1 rfl)) one_nil))) rfl rfl) ?_
    clear hf a; rintro _ w0_4 a hm hf
    refine st_y hf rfl rfl rfl (y_assign rfl rfl) ?_
    clear hf a; intro a hf
    refine st_end ?_
    refine x_then_n ?_
    refine wp_seq ?_
    refine wp_region_lit ?_
    refine st_y hf rfl rfl rfl (y_move rfl rfl) ?_
    clear hf a; intro a hf
    obtain ⟨r0_3, hx0_3, hq⟩ := bnd hq
    refine st_ef hf rfl rfl rfl (e_call hf rfl Tryd.call33 rfl (laws_toByteS_ok _ aCode (.slice p0_1 aCode.length c0_1) (hm.now h1) _ hx0_3)) ?_
    clear hf a; rintro v0_5 w0_5 a ho0_3 hf
    obtain ⟨_, rfl, hB⟩ := ho0_3
    replace hm := hm.give hB; clear hB
    refine st_y hf rfl rfl rfl (y_assign rfl rfl) ?_
    clear hf a; intro a hf
    refine st_end ?_
    refine x_then_n ?_
    refine wp_seq ?_
    refine wp_region_lit ?_
    refine st_y hf rfl rfl rfl (y_move rfl rfl) ?_
    clear hf a; intro a hf
    refine st_y hf rfl rfl rfl (y_move rfl rfl) ?_
    clear hf a; intro a hf
    refine st_y hf rfl rfl rfl (y_move rfl rfl) ?_
    clear hf a; intro a hf
    obtain ⟨r0_4, hx0_4, hq⟩ := bnd hq
    refine st_ef hf rfl rfl rfl (e_call hf rfl Tryd.call34 rfl (impl_DecodeFn_ok _ aParams aSlots r0_3 v0_5 (hm.ow_rep 0 rfl) (hm.now hG0) _ hx0_4)) ?_
    clear hf a; rintro v0_7 w0_6 a ho0_4 hf
    obtain ⟨v0_8, rfl, hB⟩ := ho0_4
    replace hm := hm.give hB; clear hB
    refine st_y hf rfl rfl rfl (y_move rfl rfl) ?_
    clear hf a; intro a hf
    refine st_y hf rfl rfl rfl (y_extract rfl rfl rfl) ?_
    clear hf a; intro a hf
    refine st_y hf rfl rfl rfl (y_extract rfl rfl rfl) ?_
    clear hf a; intro a hf
    refine st_ef hf rfl rfl rfl (e_alloc hm Tryd.zeroValue35 rfl rfl) ?_
    clear hf a; rintro _ w0_7 a ⟨b0_2, rfl, hm⟩ hf
    refine st_ef0 hf rfl rfl (e_storeN 0 hf hm rfl Tryd.sizeOf35 rfl rfl rfl (one_cons rfl (one_cons rfl (one_cons (rep_one (hm.ow_rep 1 rfl)) one_nil))) rfl rfl) ?_
    clear hf a; rintro _ w0_8 a hm hf
    refine st_y hf rfl rfl rfl (y_assign rfl rfl) ?_
    clear hf a; intro a hf
    refine st_end ?_
    refine x_then_n ?_
    refine wp_seq ?_
    refine wp_seq ?_
    obtain ⟨s0_1, hq0_1, hq⟩ := bnd hq
    refine code_cut (K := fun a w => Fr 103 [(0, (.int .i64 (aParams))), (1, (.int .i64 (aSlots))), (2, (.slice p0_1 aCode.length c0_1)), (7, (.pointer (some ⟨b0_1, 0, none⟩))), (8, (.bool (r0_2.2))), (9, v0_5), (10, (.pointer (some ⟨b0_2, 0, none⟩))), (11, (.bool (r0_4.2))), (45, (.bool (s0_1)))] a ∧ Mem w0 (hp w0) w [blk b0_1 [(.int .i64 (r0_2.1.params)), (.int .i64 (r0_2.1.slots)), v0_4] 35, ow [v0_4] r0_2.1.ins, ow [v0_5] r0_3, blk b0_2 [(.int .i64 (r0_4.1.params)), (.int .i64 (r0_4.1.slots)), v0_8] 35, ow [v0_8] r0_4.1.ins]) ?_ ?_
    ·
      refine wp_region_lit ?_
      refine st_y hf rfl rfl rfl (y_loadN (cs := [(.int .i64 (r0_4.1.params)), (.int .i64 (r0_4.1.slots)), v0_8]) Tryd.isAgg35 Tryd.sizeOf35 rfl rfl (hm.blk_at 0 rfl)) ?_
      clear hf a; intro a hf
      refine st_y hf rfl rfl rfl (y_loadN (cs := [(.int .i64 (r0_2.1.params)), (.int .i64 (r0_2.1.slots)), v0_4]) Tryd.isAgg35 Tryd.sizeOf35 rfl rfl (hm.blk_at 3 rfl)) ?_
      clear hf a; intro a hf
      obtain ⟨r1_1, hx1_1, hq0_1⟩ := bnd hq0_1
      refine st_ef hf rfl rfl rfl (e_call hf rfl Tryd.call22 rfl (laws_eqMfn_ok _ r0_4.1 v0_8 (hm.ow_rep 1 rfl) r0_2.1 v0_4 (hm.ow_rep 4 rfl) _ hx1_1)) ?_
      clear hf a; rintro v1_1 w1_1 a ho1_1 hf
      obtain ⟨rfl, hB⟩ := ho1_1
      replace hm := hm.below' hB; clear hB
      refine st_y hf rfl rfl rfl (y_not rfl rfl) ?_
      clear hf a; intro a hf
      refine st_y hf rfl rfl rfl (y_move rfl rfl) ?_
      clear hf a; intro a hf
      rcases bcases (!(r1_1)) with h1_1 | h1_1
      ·
        replace hq0_1 := (ite_t h1_1).symm.trans hq0_1
        have h1_2 := bnot_t' h1_1
        refine st_no hf rfl rfl (lk_b rfl h1_1) rfl rfl rfl ?_
        clear hf a; intro a hf
        refine st_no hf rfl rfl (lk_b rfl h1_1) rfl rfl rfl ?_
        clear hf a; intro a hf
        refine st_no hf rfl rfl (lk_b rfl h1_1) rfl rfl rfl ?_
        clear hf a; intro a hf
        refine st_y hf rfl rfl rfl (y_pick_t rfl (ev_b rfl h1_1) rfl) ?_
        clear hf a; intro a hf
        refine st_end ?_
        refine x_then_n ?_
        obtain rfl := Option.some.inj hq0_1
        exact ⟨hf.sub ⟨rfl, rfl, rfl, rfl, rfl, rfl, rfl, rfl, rfl, trivial⟩, hm.pick [3, 4, 2, 0, 1] (by decide) rfl⟩
      ·
        replace hq0_1 := (ite_f h1_1).symm.trans hq0_1
        have h1_3 := bnot_f' h1_1
        refine st_yg hf rfl rfl (lk_b rfl h1_1) rfl rfl (y_move rfl rfl) ?_
        clear hf a; intro a hf
        refine st_yg hf rfl rfl (lk_b rfl h1_1) rfl rfl (y_move rfl rfl) ?_
        clear hf a; intro a hf
        refine st_yg hf rfl rfl (lk_b rfl h1_1) rfl rfl (y_neqb Tryd.underlying4 rfl rfl rfl) ?_
        clear hf a; intro a hf
        refine st_y hf rfl rfl rfl (y_pick_f rfl (ev_b rfl h1_1) rfl) ?_
        clear hf a; intro a hf
        refine st_end ?_
        refine x_then_n ?_
        obtain rfl := Option.some.inj hq0_1
        exact ⟨hf.sub ⟨rfl, rfl, rfl, rfl, rfl, rfl, rfl, rfl, rfl, trivial⟩, hm.pick [3, 4, 2, 0, 1] (by decide) rfl⟩
    ·
      clear hf hm
      rintro a w ⟨hf, hm⟩
      refine x_then_n ?_
      rcases bcases (s0_1) with h0_4 | h0_4
      ·
        replace hq := (ite_t h0_4).symm.trans hq
        refine cond_t hf rfl h0_4 ?_
        refine wp_seq ?_
        refine wp_region_lit ?_
        refine st_y hf rfl rfl rfl (y_assign rfl rfl) ?_
        clear hf a; intro a hf
        refine st_end ?_
        refine x_then_n ?_
        refine wp_ret ?_
        refine x_then_ret ?_
        obtain rfl := Option.some.inj hq
        refine ret_tmp hf Tryd.results9 rfl ?_
        exact ⟨rfl, hm.below⟩
      ·
        replace hq := (ite_f h0_4).symm.trans hq
        refine cond_f hf rfl h0_4 ?_
        refine wp_skip ?_
        refine x_then_n ?_
        refine wp_seq ?_
        refine wp_seq ?_
        refine wp_region_lit ?_
        refine st_y hf rfl rfl rfl (y_move rfl rfl) ?_
        clear hf a; intro a hf
        refine st_y hf rfl rfl rfl (y_move rfl rfl) ?_
        clear hf a; intro a hf
        obtain ⟨r0_5, hx0_5, hq⟩ := bnd hq
        refine st_ef hf rfl rfl rfl (e_call hf rfl Tryd.call33 rfl (laws_toByteS_ok _ aCode (.slice p0_1 aCode.length c0_1) (hm.now h1) _ hx0_5)) ?_
        clear hf a; rintro v0_9 w0_9 a ho0_5 hf
        obtain ⟨_, rfl, hB⟩ := ho0_5
        replace hm := hm.give hB; clear hB
        obtain ⟨r0_6, hx0_6, hq⟩ := bnd hq
        refine st_ef hf rfl rfl rfl (e_call hf rfl Tryd.call13 rfl (laws_eqByteS_ok _ r0_3 v0_5 (hm.ow_rep 3 rfl) r0_5 v0_9 (hm.ow_rep 0 rfl) _ hx0_6)) ?_
        clear hf a; rintro v0_11 w0_10 a ho0_6 hf
        obtain ⟨rfl, hB⟩ := ho0_6
        replace hm := hm.below' hB; clear hB
        refine st_y hf rfl rfl rfl (y_not rfl rfl) ?_
        clear hf a; intro a hf
        refine st_end ?_
        refine x_then_n ?_
        rcases bcases (!(r0_6)) with h0_5 | h0_5
        ·
          replace hq := (ite_t h0_5).symm.trans hq
          have h0_6 := bnot_t' h0_5
          refine cond_t hf rfl h0_5 ?_
          refine wp_seq ?_
          refine wp_region_lit ?_
          refine st_y hf rfl rfl rfl (y_assign rfl rfl) ?_
          clear hf a; intro a hf
          refine st_end ?_
          refine x_then_n ?_
          refine wp_ret ?_
          refine x_then_ret ?_
          obtain rfl := Option.some.inj hq
          refine ret_tmp hf Tryd.results9 rfl ?_
          exact ⟨rfl, hm.below⟩
        ·
          replace hq := (ite_f h0_5).symm.trans hq
          have h0_7 := bnot_f' h0_5
          refine cond_f hf rfl h0_5 ?_
          refine wp_skip ?_
          refine x_then_n ?_
          refine wp_seq ?_
          refine wp_region_lit ?_
          refine st_y hf rfl rfl rfl (y_assign rfl rfl) ?_
          clear hf a; intro a hf
          refine st_end ?_
          refine x_then_n ?_
          refine wp_seq ?_
          refine wp_region_lit ?_
          refine st_y hf rfl rfl rfl (y_move rfl rfl) ?_
          clear hf a; intro a hf
          refine st_y hf rfl rfl rfl (y_move rfl rfl) ?_
          clear hf a; intro a hf
          obtain ⟨r0_7, hx0_7, hq⟩ := bnd hq
          obtain ⟨hz0_6, hle, hm1, hsub, hk0_1⟩ := hm.take2 (L1 := [ow [v0_5] r0_3]) (L2 := [ow [v0_9] r0_5, blk b0_1 [(.int .i64 (r0_2.1.params)), (.int .i64 (r0_2.1.slots)), v0_4] 35, ow [v0_4] r0_2.1.ins, blk b0_2 [(.int .i64 (r0_4.1.params)), (.int .i64 (r0_4.1.slots)), v0_8] 35, ow [v0_8] r0_4.1.ins]) [3] [0, 1, 2, 4, 5] (by decide) rfl rfl
          refine st_ef hf rfl rfl rfl (e_call hf rfl Tryd.call14 rfl (laws_markByteS_ok _ hz0_6 r0_3 v0_5 1 hm1  _ hx0_7)) ?_
          clear hf a; rintro v0_12 w0_11 a ho0_7 hf
          obtain ⟨rfl, hB⟩ := ho0_7
          replace hm := hk0_1 _ _ hB; clear hB
          refine st_y hf rfl rfl rfl (y_assign rfl rfl) ?_
          clear hf a; intro a hf
          refine st_end ?_
          refine x_then_n ?_
          refine wp_seq ?_
          refine wp_seq ?_
          obtain ⟨s0_2, hq0_2, hq⟩ := bnd hq
          refine code_cut (K := fun a w => Fr 103 [(0, (.int .i64 (aParams))), (1, (.int .i64 (aSlots))), (2, (.slice p0_1 aCode.length c0_1)), (7, (.pointer (some ⟨b0_1, 0, none⟩))), (8, (.bool (r0_2.2))), (10, (.pointer (some ⟨b0_2, 0, none⟩))), (66, (.bool (s0_2)))] a ∧ Mem w0 (hp w0) w [blk b0_1 [(.int .i64 (r0_2.1.params)), (.int .i64 (r0_2.1.slots)), v0_4] 35, ow [v0_4] r0_2.1.ins, blk b0_2 [(.int .i64 (r0_4.1.params)), (.int .i64 (r0_4.1.slots)), v0_8] 35, ow [v0_8] r0_4.1.ins]) ?_ ?_
          ·
            refine wp_region_lit ?_
            refine st_y hf rfl rfl rfl (y_move rfl rfl) ?_
            clear hf a; intro a hf
            refine st_y hf rfl rfl rfl (y_lss rfl rfl rfl) ?_
            clear hf a; intro a hf
            refine st_y hf rfl rfl rfl (y_move rfl rfl) ?_
            clear hf a; intro a hf
            rcases bcases (decide (r0_7.1 < 0)) with h1_4 | h1_4
            ·
              replace hq0_2 := (ite_t h1_4).symm.trans hq0_2
              have h1_5 := of_decide_eq_true h1_4
              refine st_no hf rfl rfl (lk_b rfl h1_4) rfl rfl rfl ?_
              clear hf a; intro a hf
              refine st_no hf rfl rfl (lk_b rfl h1_4) rfl rfl rfl ?_
              clear hf a; intro a hf
              refine st_no hf rfl rfl (lk_b rfl h1_4) rfl rfl rfl ?_
              clear hf a; intro a hf
              refine st_no hf rfl rfl (lk_b rfl h1_4) rfl rfl rfl ?_
              clear hf a; intro a hf
              refine st_y hf rfl rfl rfl (y_pick_t rfl (ev_b rfl h1_4) rfl) ?_
              clear hf a; intro a hf
              refine st_y hf rfl rfl rfl (y_move rfl rfl) ?_
              clear hf a; intro a hf
              refine st_no hf rfl rfl (lk_b rfl rfl) rfl rfl rfl ?_
              clear hf a; intro a hf
              refine st_no hf rfl rfl (lk_b rfl rfl) rfl rfl rfl ?_
              clear hf a; intro a hf
              refine st_no hf rfl rfl (lk_b rfl rfl) rfl rfl rfl ?_
              clear hf a; intro a hf
              refine st_y hf rfl rfl rfl (y_pick_t rfl (ev_b rfl rfl) rfl) ?_
              clear hf a; intro a hf
              refine st_end ?_
              refine x_then_n ?_
              obtain rfl := Option.some.inj hq0_2
              exact ⟨hf.sub ⟨rfl, rfl, rfl, rfl, rfl, rfl, rfl, trivial⟩, hm.pick [2, 3, 4, 5] (by decide) rfl⟩
            ·
              replace hq0_2 := (ite_f h1_4).symm.trans hq0_2
              have h1_6 := of_decide_eq_false h1_4
              refine st_yg hf rfl rfl (lk_b rfl h1_4) rfl rfl (y_loadN (cs := [(.int .i64 (r0_4.1.params)), (.int .i64 (r0_4.1.slots)), v0_8]) Tryd.isAgg35 Tryd.sizeOf35 rfl rfl (hm.blk_at 4 rfl)) ?_
              clear hf a; intro a hf
              refine st_yg hf rfl rfl (lk_b rfl h1_4) rfl rfl (y_loadN (cs := [(.int .i64 (r0_2.1.params)), (.int .i64 (r0_2.1.slots)), v0_4]) Tryd.isAgg35 Tryd.sizeOf35 rfl rfl (hm.blk_at 2 rfl)) ?_
              clear hf a; intro a hf
              obtain ⟨r1_2, hx1_2, hq0_2⟩ := bnd hq0_2
              refine st_efg hf rfl rfl (lk_b rfl h1_4) rfl rfl (e_call hf rfl Tryd.call22 rfl (laws_eqMfn_ok _ r0_4.1 v0_8 (hm.ow_rep 5 rfl) r0_2.1 v0_4 (hm.ow_rep 3 rfl) _ hx1_2)) ?_
              clear hf a; rintro v1_2 w1_2 a ho1_2 hf
              obtain ⟨rfl, hB⟩ := ho1_2
              replace hm := hm.below' hB; clear hB
              refine st_yg hf rfl rfl (lk_b rfl h1_4) rfl rfl (y_not rfl rfl) ?_
              clear hf a; intro a hf
              refine st_y hf rfl rfl rfl (y_pick_f rfl (ev_b rfl h1_4) rfl) ?_
              clear hf a; intro a hf
              refine st_y hf rfl rfl rfl (y_move rfl rfl) ?_
              clear hf a; intro a hf
              rcases bcases (!(r1_2)) with h1_7 | h1_7
              ·
                replace hq0_2 := (ite_t h1_7).symm.trans hq0_2
                have h1_8 := bnot_t' h1_7
                refine st_no hf rfl rfl (lk_b rfl h1_7) rfl rfl rfl ?_
                clear hf a; intro a hf
                refine st_no hf rfl rfl (lk_b rfl h1_7) rfl rfl rfl ?_
                clear hf a; intro a hf
                refine st_no hf rfl rfl (lk_b rfl h1_7) rfl rfl rfl ?_
                clear hf a; intro a hf
                refine st_y hf rfl rfl rfl (y_pick_t rfl (ev_b rfl h1_7) rfl) ?_
                clear hf a; intro a hf
                refine st_end ?_
                refine x_then_n ?_
                obtain rfl := Option.some.inj hq0_2
                exact ⟨hf.sub ⟨rfl, rfl, rfl, rfl, rfl, rfl, rfl, trivial⟩, hm.pick [2, 3, 4, 5] (by decide) rfl⟩
              ·
                replace hq0_2 := (ite_f h1_7).symm.trans hq0_2
                have h1_9 := bnot_f' h1_7
                refine st_yg hf rfl rfl (lk_b rfl h1_7) rfl rfl (y_move rfl rfl) ?_
                clear hf a; intro a hf
                refine st_yg hf rfl rfl (lk_b rfl h1_7) rfl rfl (y_move rfl rfl) ?_
                clear hf a; intro a hf
                refine st_yg hf rfl rfl (lk_b rfl h1_7) rfl rfl (y_neqb Tryd.underlying4 rfl rfl rfl) ?_
                clear hf a; intro a hf
                refine st_y hf rfl rfl rfl (y_pick_f rfl (ev_b rfl h1_7) rfl) ?_
                clear hf a; intro a hf
                refine st_end ?_
                refine x_then_n ?_
                obtain rfl := Option.some.inj hq0_2
                exact ⟨hf.sub ⟨rfl, rfl, rfl, rfl, rfl, rfl, rfl, trivial⟩, hm.pick [2, 3, 4, 5] (by decide) rfl⟩
          ·
            clear hf hm
            rintro a w ⟨hf, hm⟩
            refine x_then_n ?_
            rcases bcases (s0_2) with h0_8 | h0_8
            ·
              replace hq := (ite_t h0_8).symm.trans hq
              refine cond_t hf rfl h0_8 ?_
              refine wp_seq ?_
              refine wp_region_lit ?_
              refine st_y hf rfl rfl rfl (y_assign rfl rfl) ?_
              clear hf a; intro a hf
              refine st_end ?_
              refine x_then_n ?_
              refine wp_ret ?_
              refine x_then_ret ?_
              obtain rfl := Option.some.inj hq
              refine ret_tmp hf Tryd.results9 rfl ?_
              exact ⟨rfl, hm.below⟩
            ·
              replace hq := (ite_f h0_8).symm.trans hq
              refine cond_f hf rfl h0_8 ?_
              refine wp_skip ?_
              refine x_then_n ?_
              refine wp_seq ?_
              refine wp_region_lit ?_
              refine st_y hf rfl rfl rfl (y_assign rfl rfl) ?_
              clear hf a; intro a hf
              refine st_end ?_
              refine x_then_n ?_
              refine wp_seq ?_
              refine wp_region_lit ?_
              refine st_y hf rfl rfl rfl (y_loadN (cs := [(.int .i64 (r0_4.1.params)), (.int .i64 (r0_4.1.slots)), v0_8]) Tryd.isAgg35 Tryd.sizeOf35 rfl rfl (hm.blk_at 2 rfl)) ?_
              clear hf a; intro a hf
              refine st_y hf rfl rfl rfl (y_move rfl rfl) ?_
              clear hf a; intro a hf
              obtain ⟨r0_8, hx0_8, hq⟩ := bnd hq
              obtain ⟨hz0_8, hle, hm1, hsub, hk0_2⟩ := hm.take2 (L1 := [ow [v0_8] r0_4.1.ins]) (L2 := [blk b0_1 [(.int .i64 (r0_2.1.params)), (.int .i64 (r0_2.1.slots)), v0_4] 35, ow [v0_4] r0_2.1.ins, blk b0_2 [(.int .i64 (r0_4.1.params)), (.int .i64 (r0_4.1.slots)), v0_8] 35]) [3] [0, 1, 2] (by decide) rfl rfl
              refine st_ef hf rfl rfl rfl (e_call hf rfl Tryd.call26 rfl (laws_markMfn_ok _ hz0_8 r0_4.1 v0_8 1 hm1  _ hx0_8)) ?_
              clear hf a; rintro v0_13 w0_12 a ho0_8 hf
              obtain ⟨rfl, hB⟩ := ho0_8
              replace hm := hk0_2 _ _ hB; clear hB
              refine st_y hf rfl rfl rfl (y_assign rfl rfl) ?_
              clear hf a; intro a hf
              refine st_end ?_
              refine x_then_n ?_
              refine wp_seq ?_
              refine wp_region_lit ?_
              refine st_y hf rfl rfl rfl (y_assign rfl rfl) ?_
              clear hf a; intro a hf
              refine st_end ?_
              refine x_then_n ?_
              refine wp_seq ?_
              refine wp_region_lit ?_
              refine st_y hf rfl rfl rfl (y_loadN (cs := [(.int .i64 (r0_4.1.params)), (.int .i64 (r0_4.1.slots)), v0_8]) Tryd.isAgg35 Tryd.sizeOf35 rfl rfl (hm.blk_at 3 rfl)) ?_
              clear hf a; intro a hf
              refine st_y hf rfl rfl rfl (y_move rfl rfl) ?_
              clear hf a; intro a hf
              obtain ⟨r0_9, hx0_9, hq⟩ := bnd hq
              refine st_ef hf rfl rfl rfl (e_call hf rfl Tryd.call35 rfl (laws_heldMfn_ok _ (⟨r0_4.1.params, r0_4.1.slots, r0_8.2⟩ : Mfn) v0_8 (hm.ow_rep 0 rfl) 1 _ hx0_9)) ?_
              clear hf a; rintro v0_14 w0_13 a ho0_9 hf
              obtain ⟨rfl, hB⟩ := ho0_9
              replace hm := hm.below' hB; clear hB
              refine st_y hf rfl rfl rfl (y_assign rfl rfl) ?_
              clear hf a; intro a hf
              refine st_end ?_
              refine x_then_n ?_
              refine wp_seq ?_
              refine wp_seq ?_
              refine wp_region_lit ?_
              refine st_y hf rfl rfl rfl (y_move rfl rfl) ?_
              clear hf a; intro a hf
              refine st_y hf rfl rfl rfl (y_lss rfl rfl rfl) ?_
              clear hf a; intro a hf
              refine st_end ?_
              refine x_then_n ?_
              rcases bcases (decide (r0_9 < 0)) with h0_9 | h0_9
              ·
                replace hq := (ite_t h0_9).symm.trans hq
                have h0_10 := of_decide_eq_true h0_9
                refine cond_t hf rfl h0_9 ?_
                refine wp_seq ?_
                refine wp_region_lit ?_
                refine st_y hf rfl rfl rfl (y_assign rfl rfl) ?_
                clear hf a; intro a hf
                refine st_end ?_
                refine x_then_n ?_
                refine wp_ret ?_
                refine x_then_ret ?_
                obtain rfl := Option.some.inj hq
                refine ret_tmp hf Tryd.results9 rfl ?_
                exact ⟨rfl, hm.below⟩
              ·
                replace hq := (ite_f h0_9).symm.trans hq
                have h0_11 := of_decide_eq_false h0_9
                refine cond_f hf rfl h0_9 ?_
                refine wp_skip ?_
                refine x_then_n ?_
                refine wp_seq ?_
                refine wp_seq ?_
                refine wp_region_lit ?_
                refine st_y hf rfl rfl rfl (y_move rfl rfl) ?_
                clear hf a; intro a hf
                refine st_y hf rfl rfl rfl (y_move rfl rfl) ?_
                clear hf a; intro a hf
                refine st_y hf rfl rfl rfl (y_neq rfl rfl rfl) ?_
                clear hf a; intro a hf
                refine st_end ?_
                refine x_then_n ?_
                rcases bcases (decide (r0_9 ≠ r0_8.1)) with h0_12 | h0_12
                ·
                  replace hq := (ite_t h0_12).symm.trans hq
                  have h0_13 := of_decide_eq_true h0_12
                  refine cond_t hf rfl h0_12 ?_
                  refine wp_seq ?_
                  refine wp_region_lit ?_
                  refine st_y hf rfl rfl rfl (y_assign rfl rfl) ?_
                  clear hf a; intro a hf
                  refine st_end ?_
                  refine x_then_n ?_
                  refine wp_ret ?_
                  refine x_then_ret ?_
                  obtain rfl := Option.some.inj hq
                  refine ret_tmp hf Tryd.results9 rfl ?_
                  exact ⟨rfl, hm.below⟩
                ·
                  replace hq := (ite_f h0_12).symm.trans hq
                  have h0_14 := of_decide_eq_false h0_12
                  refine cond_f hf rfl h0_12 ?_
                  refine wp_skip ?_
                  refine x_then_n ?_
                  refine wp_seq ?_
                  refine wp_region_lit ?_
                  refine st_y hf rfl rfl rfl (y_move rfl rfl) ?_
                  clear hf a; intro a hf
                  refine st_y hf rfl rfl rfl (y_move rfl rfl) ?_
                  clear hf a; intro a hf
                  refine st_y hf rfl rfl rfl (y_move rfl rfl) ?_
                  clear hf a; intro a hf
                  obtain ⟨r0_10, hx0_10, hq⟩ := bnd hq
                  refine st_ef hf rfl rfl rfl (e_call hf rfl Tryd.call33 rfl (laws_toByteS_ok _ aCode (.slice p0_1 aCode.length c0_1) (hm.now h1) _ hx0_10)) ?_
                  clear hf a; rintro v0_15 w0_14 a ho0_10 hf
                  obtain ⟨_, rfl, hB⟩ := ho0_10
                  replace hm := hm.give hB; clear hB
                  obtain ⟨r0_11, hx0_11, hq⟩ := bnd hq
                  refine st_ef hf rfl rfl rfl (e_call hf rfl Tryd.call34 rfl (impl_DecodeFn_ok _ aParams aSlots r0_10 v0_15 (hm.ow_rep 0 rfl) (hm.now hG0) _ hx0_11)) ?_
                  clear hf a; rintro v0_17 w0_15 a ho0_11 hf
                  obtain ⟨v0_18, rfl, hB⟩ := ho0_11
                  replace hm := hm.give hB; clear hB
                  refine st_y hf rfl rfl rfl (y_move rfl rfl) ?_
                  clear hf a; intro a hf
                  refine st_y hf rfl rfl rfl (y_extract rfl rfl rfl) ?_
                  clear hf a; intro a hf
                  refine st_y hf rfl rfl rfl (y_extract rfl rfl rfl) ?_
                  clear hf a; intro a hf
                  refine st_ef hf rfl rfl rfl (e_alloc hm Tryd.zeroValue35 rfl rfl) ?_
                  clear hf a; rintro _ w0_16 a ⟨b0_3, rfl, hm⟩ hf
                  refine st_ef0 hf rfl rfl (e_storeN 0 hf hm rfl Tryd.sizeOf35 rfl rfl rfl (one_cons rfl (one_cons rfl (one_cons (rep_one (hm.ow_rep 1 rfl)) one_nil))) rfl rfl) ?_
                  clear hf a; rintro _ w0_17 a hm hf
                  refine st_y hf rfl rfl rfl (y_assign rfl rfl) ?_
                  clear hf a; intro a hf
                  refine st_end ?_
                  refine x_then_n ?_
                  refine wp_seq ?_
                  refine wp_seq ?_
                  obtain ⟨s0_3, hq0_3, hq⟩ := bnd hq
                  refine code_cut (K := fun a w => Fr 103 [(10, (.pointer (some ⟨b0_2, 0, none⟩))), (13, (.int .i64 (r0_8.1))), (94, (.bool (s0_3)))] a ∧ Mem w0 (hp w0) w [blk b0_2 [(.int .i64 (r0_4.1.params)), (.int .i64 (r0_4.1.slots)), v0_8] 35, ow [v0_8] r0_8.2]) ?_ ?_
                  ·
                    refine wp_region_lit ?_
                    refine st_y hf rfl rfl rfl (y_loadN (cs := [(.int .i64 (r0_11.1.params)), (.int .i64 (r0_11.1.slots)), v0_18]) Tryd.isAgg35 Tryd.sizeOf35 rfl rfl (hm.blk_at 0 rfl)) ?_
                    clear hf a; intro a hf
                    refine st_y hf rfl rfl rfl (y_loadN (cs := [(.int .i64 (r0_2.1.params)), (.int .i64 (r0_2.1.slots)), v0_4]) Tryd.isAgg35 Tryd.sizeOf35 rfl rfl (hm.blk_at 4 rfl)) ?_
                    clear hf a; intro a hf
                    obtain ⟨r1_3, hx1_3, hq0_3⟩ := bnd hq0_3
                    refine st_ef hf rfl rfl rfl (e_call hf rfl Tryd.call22 rfl (laws_eqMfn_ok _ r0_11.1 v0_18 (hm.ow_rep 1 rfl) r0_2.1 v0_4 (hm.ow_rep 5 rfl) _ hx1_3)) ?_
                    clear hf a; rintro v1_3 w1_3 a ho1_3 hf
                    obtain ⟨rfl, hB⟩ := ho1_3
                    replace hm := hm.below' hB; clear hB
                    refine st_y hf rfl rfl rfl (y_not rfl rfl) ?_
                    clear hf a; intro a hf
                    refine st_y hf rfl rfl rfl (y_move rfl rfl) ?_
                    clear hf a; intro a hf
                    rcases bcases (!(r1_3)) with h1_10 | h1_10
                    ·
                      replace hq0_3 := (ite_t h1_10).symm.trans hq0_3
                      have h1_11 := bnot_t' h1_10
                      refine st_no hf rfl rfl (lk_b rfl h1_10) rfl rfl rfl ?_
                      clear hf a; intro a hf
                      refine st_no hf rfl rfl (lk_b rfl h1_10) rfl rfl rfl ?_
                      clear hf a; intro a hf
                      refine st_no hf rfl rfl (lk_b rfl h1_10) rfl rfl rfl ?_
                      clear hf a; intro a hf
                      refine st_y hf rfl rfl rfl (y_pick_t rfl (ev_b rfl h1_10) rfl) ?_
                      clear hf a; intro a hf
                      refine st_end ?_
                      refine x_then_n ?_
                      obtain rfl := Option.some.inj hq0_3
                      exact ⟨hf.sub ⟨rfl, rfl, rfl, trivial⟩, hm.pick [6, 3] (by decide) rfl⟩
                    ·
                      replace hq0_3 := (ite_f h1_10).symm.trans hq0_3
                      have h1_12 := bnot_f' h1_10
                      refine st_yg hf rfl rfl (lk_b rfl h1_10) rfl rfl (y_move rfl rfl) ?_
                      clear hf a; intro a hf
                      refine st_yg hf rfl rfl (lk_b rfl h1_10) rfl rfl (y_move rfl rfl) ?_
                      clear hf a; intro a hf
                      refine st_yg hf rfl rfl (lk_b rfl h1_10) rfl rfl (y_neqb Tryd.underlying4 rfl rfl rfl) ?_
                      clear hf a; intro a hf
                      refine st_y hf rfl rfl rfl (y_pick_f rfl (ev_b rfl h1_10) rfl) ?_
                      clear hf a; intro a hf
                      refine st_end ?_
                      refine x_then_n ?_
                      obtain rfl := Option.some.inj hq0_3
                      exact ⟨hf.sub ⟨rfl, rfl, rfl, trivial⟩, hm.pick [6, 3] (by decide) rfl⟩
                  ·
                    clear hf hm
                    rintro a w ⟨hf, hm⟩
                    refine x_then_n ?_
                    rcases bcases (s0_3) with h0_15 | h0_15
                    ·
                      replace hq := (ite_t h0_15).symm.trans hq
                      refine cond_t hf rfl h0_15 ?_
                      refine wp_seq ?_
                      refine wp_region_lit ?_
                      refine st_y hf rfl rfl rfl (y_assign rfl rfl) ?_
                      clear hf a; intro a hf
                      refine st_end ?_
                      refine x_then_n ?_
                      refine wp_ret ?_
                      refine x_then_ret ?_
                      obtain rfl := Option.some.inj hq
                      refine ret_tmp hf Tryd.results9 rfl ?_
                      exact ⟨rfl, hm.below⟩
                    ·
                      replace hq := (ite_f h0_15).symm.trans hq
                      refine cond_f hf rfl h0_15 ?_
                      refine wp_skip ?_
                      refine x_then_n ?_
                      refine wp_seq ?_
                      refine wp_region_lit ?_
                      refine st_y hf rfl rfl rfl (y_assign rfl rfl) ?_
                      clear hf a; intro a hf
                      refine st_end ?_
                      refine x_then_n ?_
                      refine wp_seq ?_
                      refine wp_region_lit ?_
                      refine st_y hf rfl rfl rfl (y_loadN (cs := [(.int .i64 (r0_4.1.params)), (.int .i64 (r0_4.1.slots)), v0_8]) Tryd.isAgg35 Tryd.sizeOf35 rfl rfl (hm.blk_at 0 rfl)) ?_
                      clear hf a; intro a hf
                      refine st_y hf rfl rfl rfl (y_move rfl rfl) ?_
                      clear hf a; intro a hf
                      obtain ⟨r0_12, hx0_12, hq⟩ := bnd hq
                      refine st_ef hf rfl rfl rfl (e_call hf rfl Tryd.call35 rfl (laws_heldMfn_ok _ (⟨r0_4.1.params, r0_4.1.slots, r0_8.2⟩ : Mfn) v0_8 (hm.ow_rep 1 rfl) 1 _ hx0_12)) ?_
                      clear hf a; rintro v0_19 w0_18 a ho0_12 hf
                      obtain ⟨rfl, hB⟩ := ho0_12
                      replace hm := hm.below' hB; clear hB
                      refine st_y hf rfl rfl rfl (y_assign rfl rfl) ?_
                      clear hf a; intro a hf
                      refine st_end ?_
                      refine x_then_n ?_
                      refine wp_seq ?_
                      refine wp_seq ?_
                      refine wp_region_lit ?_
                      refine st_y hf rfl rfl rfl (y_move rfl rfl) ?_
                      clear hf a; intro a hf
                      refine st_y hf rfl rfl rfl (y_lss rfl rfl rfl) ?_
                      clear hf a; intro a hf
                      refine st_end ?_
                      refine x_then_n ?_
                      rcases bcases (decide (r0_12 < 0)) with h0_16 | h0_16
                      ·
                        replace hq := (ite_t h0_16).symm.trans hq
                        have h0_17 := of_decide_eq_true h0_16
                        refine cond_t hf rfl h0_16 ?_
                        refine wp_seq ?_
                        refine wp_region_lit ?_
                        refine st_y hf rfl rfl rfl (y_assign rfl rfl) ?_
                        clear hf a; intro a hf
                        refine st_end ?_
                        refine x_then_n ?_
                        refine wp_ret ?_
                        refine x_then_ret ?_
                        obtain rfl := Option.some.inj hq
                        refine ret_tmp hf Tryd.results9 rfl ?_
                        exact ⟨rfl, hm.below⟩
                      ·
                        replace hq := (ite_f h0_16).symm.trans hq
                        have h0_18 := of_decide_eq_false h0_16
                        refine cond_f hf rfl h0_16 ?_
                        refine wp_skip ?_
                        refine x_then_n ?_
                        refine wp_seq ?_
                        refine wp_seq ?_
                        refine wp_region_lit ?_
                        refine st_y hf rfl rfl rfl (y_move rfl rfl) ?_
                        clear hf a; intro a hf
                        refine st_y hf rfl rfl rfl (y_move rfl rfl) ?_
                        clear hf a; intro a hf
                        refine st_y hf rfl rfl rfl (y_neq rfl rfl rfl) ?_
                        clear hf a; intro a hf
                        refine st_end ?_
                        refine x_then_n ?_
                        rcases bcases (decide (r0_12 ≠ r0_8.1)) with h0_19 | h0_19
                        ·
                          replace hq := (ite_t h0_19).symm.trans hq
                          have h0_20 := of_decide_eq_true h0_19
                          refine cond_t hf rfl h0_19 ?_
                          refine wp_seq ?_
                          refine wp_region_lit ?_
                          refine st_y hf rfl rfl rfl (y_assign rfl rfl) ?_
                          clear hf a; intro a hf
                          refine st_end ?_
                          refine x_then_n ?_
                          refine wp_ret ?_
                          refine x_then_ret ?_
                          obtain rfl := Option.some.inj hq
                          refine ret_tmp hf Tryd.results9 rfl ?_
                          exact ⟨rfl, hm.below⟩
                        ·
                          replace hq := (ite_f h0_19).symm.trans hq
                          have h0_21 := of_decide_eq_false h0_19
                          refine cond_f hf rfl h0_19 ?_
                          refine wp_skip ?_
                          refine x_then_n ?_
                          refine wp_seq ?_
                          refine wp_region_lit ?_
                          refine st_y hf rfl rfl rfl (y_assign rfl rfl) ?_
                          clear hf a; intro a hf
                          refine st_end ?_
                          refine x_then_n ?_
                          refine wp_ret ?_
                          obtain rfl := Option.some.inj hq
                          refine ret_tmp hf Tryd.results9 rfl ?_
                          exact ⟨rfl, hm.below⟩

end Go.Proofs.YtmhjfaoefcdelaaDoor
