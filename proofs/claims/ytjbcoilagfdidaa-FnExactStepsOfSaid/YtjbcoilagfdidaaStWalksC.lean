/- A part of the proof of FnExactStepsOfSaid. -/
import Derived.Test.YtjbcoilagfdidaaStWalksB
namespace Go.Proofs.Ytjbcoilagfdidaa
open Go Go.Wk Go.RowKit
set_option maxRecDepth 4000
set_option maxHeartbeats 4000000

theorem impl_insOk_ok (w0 : World) (u : Unit_) (v1 : Value) (h1 : GT.rep (hp w0) [v1] u.codes) (k_ : Int) (x_ : Ins_) (v2 : Value) (h2 : GT.rep (hp w0) [v2] x_.args) (r : Bool) (hq : impl_insOk u k_ x_ = some r) :
    Con Try.prog 122 [(.agg #[v1]), (.int .i64 (k_)), (.agg #[(.int .i64 (x_.op)), (.int .i64 (x_.to)), v2, (.int .i64 (x_.n_))])] w0 (fun v w' => v = (.bool (r)) ∧ Below w0.heap.size w0 w') := by
  unfold impl_insOk at hq
  refine con_body (l := [(0, (.agg #[v1])), (1, (.int .i64 (k_))), (2, (.agg #[(.int .i64 (x_.op)), (.int .i64 (x_.to)), v2, (.int .i64 (x_.n_))]))]) Try.func122 rfl Try.ntmps122 (Args.get ⟨rfl, rfl, rfl, trivial⟩) rfl ?_
  intro a hf
  have hm := Mem.start w0
  refine wp_seq ?_
  refine wp_region_lit ?_
  refine st_ef hf rfl rfl rfl (e_box hf hm rfl rfl rfl) ?_
  clear hf a; rintro _ w0_1 a ⟨b0_1, rfl, hm⟩ hf
  refine st_ef hf rfl rfl rfl (e_box hf hm rfl rfl rfl) ?_
  clear hf a; rintro _ w0_2 a ⟨b0_2, rfl, hm⟩ hf
  refine st_y hf rfl rfl rfl (y_assign rfl rfl) ?_
  clear hf a; intro a hf
  refine st_end ?_
  refine x_then_n ?_
  refine wp_seq ?_
  refine wp_region_lit ?_
  refine st_y hf rfl rfl rfl (y_fieldAddr fo_40_0 rfl rfl) ?_
  clear hf a; intro a hf
  refine st_y hf rfl rfl rfl (y_load1 Try.isAgg38 rfl rfl (hm.blk_cell 1 rfl rfl)) ?_
  clear hf a; intro a hf
  refine st_y hf rfl rfl rfl (y_move rfl rfl) ?_
  clear hf a; intro a hf
  obtain ⟨x0_1, hx0_1, hq⟩ := bnd hq
  obtain ⟨h0_1, hx0_2⟩ := getI_some.1 hx0_1
  obtain ⟨b0_3, o0_1, c0_1, he⟩ := idx_form' h1 hx0_2
  subst he
  obtain ⟨_, _, hc0_1, hr0_1⟩ := ro_get' h1 hx0_2
  obtain ⟨_, _, rfl, rfl, _, _, rfl, rfl, h0_2⟩ := hr0_1
  obtain ⟨v0_1, rfl, -⟩ := id h0_2
  replace h0_2 : GT.rep (hp w0) [v0_1] x0_1.blocks := h0_2
  replace hc0_1 : CellsAt (hp w0) b0_3 (o0_1 + (k_).toNat * 3) [(.int .i64 (x0_1.params)), (.int .i64 (x0_1.regs)), v0_1] := hc0_1
  refine st_y hf rfl rfl rfl (y_indexAddr st_38 rfl rfl rfl h0_1 (idx_lt hx0_2)) ?_
  clear hf a; intro a hf
  refine st_y hf rfl rfl rfl (y_loadN (cs := [(.int .i64 (x0_1.params)), (.int .i64 (x0_1.regs)), v0_1]) Try.isAgg55 Try.sizeOf55 rfl rfl (hc0_1.mono hm.lez)) ?_
  clear hf a; intro a hf
  refine st_ef hf rfl rfl rfl (e_alloc hm Try.zeroValue55 rfl rfl) ?_
  clear hf a; rintro _ w0_3 a ⟨b0_4, rfl, hm⟩ hf
  refine st_ef0 hf rfl rfl (e_storeN 0 hf hm rfl Try.sizeOf55 rfl rfl rfl (one_cons rfl (one_cons rfl (one_cons (rep_one h0_2) one_nil))) rfl rfl) ?_
  clear hf a; rintro _ w0_4 a hm hf
  refine st_end ?_
  refine x_then_n ?_
  refine wp_seq ?_
  refine wp_region_lit ?_
  refine st_y hf rfl rfl rfl (y_makeFunc rfl rfl) ?_
  clear hf a; intro a hf
  refine st_ef hf rfl rfl rfl (e_alloc hm Try.zeroValue84 rfl rfl) ?_
  clear hf a; rintro _ w0_5 a ⟨b0_5, rfl, hm⟩ hf
  refine st_ef0 hf rfl rfl (e_store1 0 hf hm rfl Try.sizeOf84 rfl rfl rfl rfl rfl) ?_
  clear hf a; rintro _ w0_6 a hm hf
  refine st_end ?_
  refine x_then_n ?_
  refine wp_seq ?_
  refine wp_seq ?_
  obtain ⟨s0_1, hq0_1, hq⟩ := bnd hq
  refine code_cut (K := fun a w => Fr 91 [(1, (.int .i64 (k_))), (3, (.pointer (some ⟨b0_1, 0, none⟩))), (5, (.pointer (some ⟨b0_2, 0, none⟩))), (8, (.pointer (some ⟨b0_5, 0, none⟩))), (24, (.bool (s0_1)))] a ∧ Mem w0 (hp w0) w [blk b0_1 [(.slice (some ⟨b0_3, o0_1, none⟩) u.codes.length c0_1)] 40, blk b0_2 [(.int .i64 (x_.op)), (.int .i64 (x_.to)), v2, (.int .i64 (x_.n_))] 57, blk b0_5 [(.func (.func 149) #[] #[(.pointer (some ⟨b0_4, 0, none⟩))])] 84, blk b0_4 [(.int .i64 (x0_1.params)), (.int .i64 (x0_1.regs)), v0_1] 55]) ?_ ?_
  ·
   refine wp_region_lit ?_
   refine st_y hf rfl rfl rfl (y_fieldAddr fo_57_0 rfl rfl) ?_
   clear hf a; intro a hf
   refine st_y hf rfl rfl rfl (y_load1 Try.isAgg3 rfl rfl (hm.blk_cell 2 rfl rfl)) ?_
   clear hf a; intro a hf
   obtain ⟨r1_1, hx1_1, hq0_1⟩ := bnd hq0_1
   refine st_ef hf rfl rfl rfl (e_call hf rfl Try.call150 rfl (impl_isIns_ok _ x_.op _ hx1_1)) ?_
   clear hf a; rintro v1_1 w1_1 a ho1_1 hf
   obtain ⟨rfl, hB⟩ := ho1_1
   replace hm := hm.below' hB; clear hB
   refine st_y hf rfl rfl rfl (y_not rfl rfl) ?_
   clear hf a; intro a hf
   refine st_y hf rfl rfl rfl (y_move rfl rfl) ?_
   clear hf a; intro a hf
   rcases bcases (!(r1_1)) with h1_1 | h1_1
   ·
    replace hq0_1 := (ite_t h1_1).symm.trans hq0_1
    have h1_2 := bnot_t' h1_1
    refine st_no hf rfl rfl (lk_b rfl h1_1) rfl rfl rfl ?_
    clear hf a; intro a hf
    refine st_no hf rfl rfl (lk_b rfl h1_1) rfl rfl rfl ?_
    clear hf a; intro a hf
    refine st_no hf rfl rfl (lk_b rfl h1_1) rfl rfl rfl ?_
    clear hf a; intro a hf
    refine st_no hf rfl rfl (lk_b rfl h1_1) rfl rfl rfl ?_
    clear hf a; intro a hf
    refine st_y hf rfl rfl rfl (y_pick_t rfl (ev_b rfl h1_1) rfl) ?_
    clear hf a; intro a hf
    refine st_end ?_
    refine x_then_n ?_
    obtain rfl := Option.some.inj hq0_1
    exact ⟨hf.sub ⟨rfl, rfl, rfl, rfl, rfl, trivial⟩, hm.pick [3, 2, 0, 1] (by decide) rfl⟩
   ·
    replace hq0_1 := (ite_f h1_1).symm.trans hq0_1
    have h1_3 := bnot_f' h1_1
    refine st_yg hf rfl rfl (lk_b rfl h1_1) rfl rfl (y_fieldAddr fo_57_2 rfl rfl) ?_
    clear hf a; intro a hf
    refine st_yg hf rfl rfl (lk_b rfl h1_1) rfl rfl (y_load1 Try.isAgg26 rfl rfl (hm.blk_cell 2 rfl rfl)) ?_
    clear hf a; intro a hf
    refine st_yg hf rfl rfl (lk_b rfl h1_1) rfl rfl (y_makeFunc rfl rfl) ?_
    clear hf a; intro a hf
    obtain ⟨r1_2, hx1_2, hq0_1⟩ := bnd hq0_1
    refine st_efg hf rfl rfl (lk_b rfl h1_1) rfl rfl (e_call hf rfl Try.call102 rfl (slices_ContainsFunc_S_int_int_ok _ x_.args v2 (hm.now h2) (fun y0 => impl_insOk_2 y0 x0_1) (.func (.func 151) #[] #[(.pointer (some ⟨b0_5, 0, none⟩))]) (fun w y0 r hB hq => ⟨151, [(.pointer (some ⟨b0_5, 0, none⟩))], rfl, Try.call151, impl_insOk_2_ok w y0 x0_1 v0_1 (rep_later (hm.now h0_2) hB) b0_4 (hm.blk_later 1 rfl hB) b0_5 (hm.blk_later 0 rfl hB) r hq⟩) _ hx1_2)) ?_
    clear hf a; rintro v1_2 w1_2 a ho1_2 hf
    obtain ⟨rfl, hB⟩ := ho1_2
    replace hm := hm.below' hB; clear hB
    refine st_y hf rfl rfl rfl (y_pick_f rfl (ev_b rfl h1_1) rfl) ?_
    clear hf a; intro a hf
    refine st_end ?_
    refine x_then_n ?_
    obtain rfl := Option.some.inj hq0_1
    exact ⟨hf.sub ⟨rfl, rfl, rfl, rfl, rfl, trivial⟩, hm.pick [3, 2, 0, 1] (by decide) rfl⟩
  ·
   clear hf hm
   rintro a w ⟨hf, hm⟩
   refine x_then_n ?_
   rcases bcases (s0_1) with h0_3 | h0_3
   ·
    replace hq := (ite_t h0_3).symm.trans hq
    refine cond_t hf rfl h0_3 ?_
    refine wp_seq ?_
    refine wp_region_lit ?_
    refine st_y hf rfl rfl rfl (y_assign rfl rfl) ?_
    clear hf a; intro a hf
    refine st_end ?_
    refine x_then_n ?_
    refine wp_ret ?_
    refine x_then_ret ?_
    obtain rfl := Option.some.inj hq
    refine ret_tmp hf Try.results122 rfl ?_
    exact ⟨rfl, hm.below⟩
   ·
    replace hq := (ite_f h0_3).symm.trans hq
    refine cond_f hf rfl h0_3 ?_
    refine wp_skip ?_
    refine x_then_n ?_
    refine wp_seq ?_
    refine wp_seq ?_
    obtain ⟨s0_2, hq0_2, hq⟩ := bnd hq
    refine code_cut (K := fun a w => Fr 91 [(1, (.int .i64 (k_))), (3, (.pointer (some ⟨b0_1, 0, none⟩))), (5, (.pointer (some ⟨b0_2, 0, none⟩))), (45, (.bool (s0_2)))] a ∧ Mem w0 (hp w0) w [blk b0_1 [(.slice (some ⟨b0_3, o0_1, none⟩) u.codes.length c0_1)] 40, blk b0_2 [(.int .i64 (x_.op)), (.int .i64 (x_.to)), v2, (.int .i64 (x_.n_))] 57]) ?_ ?_
    ·
     refine wp_region_lit ?_
     refine st_y hf rfl rfl rfl (y_fieldAddr fo_57_0 rfl rfl) ?_
     clear hf a; intro a hf
     refine st_y hf rfl rfl rfl (y_load1 Try.isAgg3 rfl rfl (hm.blk_cell 1 rfl rfl)) ?_
     clear hf a; intro a hf
     obtain ⟨r1_3, hx1_3, hq0_2⟩ := bnd hq0_2
     refine st_ef hf rfl rfl rfl (e_call hf rfl Try.call126 rfl (impl_sets_ok _ x_.op _ hx1_3)) ?_
     clear hf a; rintro v1_3 w1_3 a ho1_3 hf
     obtain ⟨rfl, hB⟩ := ho1_3
     replace hm := hm.below' hB; clear hB
     refine st_y hf rfl rfl rfl (y_move rfl rfl) ?_
     clear hf a; intro a hf
     rcases bcases (r1_3) with h1_4 | h1_4
     ·
      replace hq0_2 := (ite_t h1_4).symm.trans hq0_2
      refine st_yg hf rfl rfl (lk_b rfl h1_4) rfl rfl (y_load1 Try.isAgg84 rfl rfl (hm.blk_cell 2 rfl rfl)) ?_
      clear hf a; intro a hf
      refine st_yg hf rfl rfl (lk_b rfl h1_4) rfl rfl (y_fieldAddr fo_57_1 rfl rfl) ?_
      clear hf a; intro a hf
      refine st_yg hf rfl rfl (lk_b rfl h1_4) rfl rfl (y_load1 Try.isAgg3 rfl rfl (hm.blk_cell 1 rfl rfl)) ?_
      clear hf a; intro a hf
      obtain ⟨r1_4, hx1_4, hq0_2⟩ := bnd hq0_2
      refine st_efg hf rfl rfl (lk_b rfl h1_4) rfl rfl (e_callv hf rfl rfl rfl ⟨149, [(.pointer (some ⟨b0_4, 0, none⟩))], rfl, Try.call149, impl_insOk_1_ok _ x_.to x0_1 v0_1 (rep_later (hm.now h0_2) (Below.refl _ _)) b0_4 (hm.blk_later 3 rfl (Below.refl _ _)) _ hx1_4⟩) ?_
      clear hf a; rintro v1_4 w1_4 a ho1_4 hf
      obtain ⟨rfl, hB⟩ := ho1_4
      replace hm := hm.below' hB; clear hB
      refine st_yg hf rfl rfl (lk_b rfl h1_4) rfl rfl (y_not rfl rfl) ?_
      clear hf a; intro a hf
      refine st_y hf rfl rfl rfl (y_pick_t rfl (ev_b rfl h1_4) rfl) ?_
      clear hf a; intro a hf
      refine st_y hf rfl rfl rfl (y_move rfl rfl) ?_
      clear hf a; intro a hf
      rcases bcases (!(r1_4)) with h1_5 | h1_5
      ·
       replace hq0_2 := (ite_t h1_5).symm.trans hq0_2
       have h1_6 := bnot_t' h1_5
       refine st_no hf rfl rfl (lk_b rfl h1_5) rfl rfl rfl ?_
       clear hf a; intro a hf
       refine st_no hf rfl rfl (lk_b rfl h1_5) rfl rfl rfl ?_
       clear hf a; intro a hf
       refine st_no hf rfl rfl (lk_b rfl h1_5) rfl rfl rfl ?_
       clear hf a; intro a hf
       refine st_no hf rfl rfl (lk_b rfl h1_5) rfl rfl rfl ?_
       clear hf a; intro a hf
       refine st_no hf rfl rfl (lk_b rfl h1_5) rfl rfl rfl ?_
       clear hf a; intro a hf
       refine st_nou hf rfl rfl rfl rfl rfl ?_
       clear hf a; intro a hf
       refine st_nou hf rfl rfl rfl rfl rfl ?_
       clear hf a; intro a hf
       refine st_nou hf rfl rfl rfl rfl rfl ?_
       clear hf a; intro a hf
       refine st_no hf rfl rfl (lk_b rfl h1_5) rfl rfl rfl ?_
       clear hf a; intro a hf
       refine st_y hf rfl rfl rfl (y_pick_t rfl (ev_b rfl h1_5) rfl) ?_
       clear hf a; intro a hf
       refine st_end ?_
       refine x_then_n ?_
       obtain rfl := Option.some.inj hq0_2
       exact ⟨hf.sub ⟨rfl, rfl, rfl, rfl, trivial⟩, hm.pick [0, 1] (by decide) rfl⟩
      ·
       replace hq0_2 := (ite_f h1_5).symm.trans hq0_2
       have h1_7 := bnot_f' h1_5
       refine st_yg hf rfl rfl (lk_b rfl h1_5) rfl rfl (y_fieldAddr fo_57_0 rfl rfl) ?_
       clear hf a; intro a hf
       refine st_yg hf rfl rfl (lk_b rfl h1_5) rfl rfl (y_load1 Try.isAgg3 rfl rfl (hm.blk_cell 1 rfl rfl)) ?_
       clear hf a; intro a hf
       obtain ⟨r1_5, hx1_5, hq0_2⟩ := bnd hq0_2
       refine st_efg hf rfl rfl (lk_b rfl h1_5) rfl rfl (e_call hf rfl Try.call126 rfl (impl_sets_ok _ x_.op _ hx1_5)) ?_
       clear hf a; rintro v1_5 w1_5 a ho1_5 hf
       obtain ⟨rfl, hB⟩ := ho1_5
       replace hm := hm.below' hB; clear hB
       refine st_yg hf rfl rfl (lk_b rfl h1_5) rfl rfl (y_not rfl rfl) ?_
       clear hf a; intro a hf
       refine st_yg hf rfl rfl (lk_b rfl h1_5) rfl rfl (y_move rfl rfl) ?_
       clear hf a; intro a hf
       rcases bcases (!(r1_5)) with h1_8 | h1_8
       ·
        replace hq0_2 := (ite_t h1_8).symm.trans hq0_2
        have h1_9 := bnot_t' h1_8
        refine st_yg hf rfl rfl (lk_b rfl h1_8) rfl rfl (y_fieldAddr fo_57_1 rfl rfl) ?_
        clear hf a; intro a hf
        refine st_yg hf rfl rfl (lk_b rfl h1_8) rfl rfl (y_load1 Try.isAgg3 rfl rfl (hm.blk_cell 1 rfl rfl)) ?_
        clear hf a; intro a hf
        refine st_yg hf rfl rfl (lk_b rfl h1_8) rfl rfl (y_neq rfl rfl rfl) ?_
        clear hf a; intro a hf
        refine st_yg hf rfl rfl (lk_b rfl h1_5) rfl rfl (y_pick_t rfl (ev_b rfl h1_8) rfl) ?_
        clear hf a; intro a hf
        refine st_y hf rfl rfl rfl (y_pick_f rfl (ev_b rfl h1_5) rfl) ?_
        clear hf a; intro a hf
        refine st_end ?_
        refine x_then_n ?_
        obtain rfl := Option.some.inj hq0_2
        exact ⟨hf.sub ⟨rfl, rfl, rfl, rfl, trivial⟩, hm.pick [0, 1] (by decide) rfl⟩
       ·
        replace hq0_2 := (ite_f h1_8).symm.trans hq0_2
        have h1_10 := bnot_f' h1_8
        refine st_no hf rfl rfl (lk_b rfl h1_8) rfl rfl rfl ?_
        clear hf a; intro a hf
        refine st_no hf rfl rfl (lk_b rfl h1_8) rfl rfl rfl ?_
        clear hf a; intro a hf
        refine st_no hf rfl rfl (lk_b rfl h1_8) rfl rfl rfl ?_
        clear hf a; intro a hf
        refine st_yg hf rfl rfl (lk_b rfl h1_5) rfl rfl (y_pick_f rfl (ev_b rfl h1_8) rfl) ?_
        clear hf a; intro a hf
        refine st_y hf rfl rfl rfl (y_pick_f rfl (ev_b rfl h1_5) rfl) ?_
        clear hf a; intro a hf
        refine st_end ?_
        refine x_then_n ?_
        obtain rfl := Option.some.inj hq0_2
        exact ⟨hf.sub ⟨rfl, rfl, rfl, rfl, trivial⟩, hm.pick [0, 1] (by decide) rfl⟩
     ·
      replace hq0_2 := (ite_f h1_4).symm.trans hq0_2
      refine st_no hf rfl rfl (lk_b rfl h1_4) rfl rfl rfl ?_
      clear hf a; intro a hf
      refine st_no hf rfl rfl (lk_b rfl h1_4) rfl rfl rfl ?_
      clear hf a; intro a hf
      refine st_no hf rfl rfl (lk_b rfl h1_4) rfl rfl rfl ?_
      clear hf a; intro a hf
      refine st_no hf rfl rfl (lk_b rfl h1_4) rfl rfl rfl ?_
      clear hf a; intro a hf
      refine st_no hf rfl rfl (lk_b rfl h1_4) rfl rfl rfl ?_
      clear hf a; intro a hf
      refine st_y hf rfl rfl rfl (y_pick_f rfl (ev_b rfl h1_4) rfl) ?_
      clear hf a; intro a hf
      refine st_y hf rfl rfl rfl (y_move rfl rfl) ?_
      clear hf a; intro a hf
      refine st_yg hf rfl rfl (lk_b rfl rfl) rfl rfl (y_fieldAddr fo_57_0 rfl rfl) ?_
      clear hf a; intro a hf
      refine st_yg hf rfl rfl (lk_b rfl rfl) rfl rfl (y_load1 Try.isAgg3 rfl rfl (hm.blk_cell 1 rfl rfl)) ?_
      clear hf a; intro a hf
      obtain ⟨r1_6, hx1_6, hq0_2⟩ := bnd hq0_2
      refine st_efg hf rfl rfl (lk_b rfl rfl) rfl rfl (e_call hf rfl Try.call126 rfl (impl_sets_ok _ x_.op _ hx1_6)) ?_
      clear hf a; rintro v1_6 w1_6 a ho1_6 hf
      obtain ⟨rfl, hB⟩ := ho1_6
      replace hm := hm.below' hB; clear hB
      refine st_yg hf rfl rfl (lk_b rfl rfl) rfl rfl (y_not rfl rfl) ?_
      clear hf a; intro a hf
      refine st_yg hf rfl rfl (lk_b rfl rfl) rfl rfl (y_move rfl rfl) ?_
      clear hf a; intro a hf
      rcases bcases (!(r1_6)) with h1_11 | h1_11
      ·
       replace hq0_2 := (ite_t h1_11).symm.trans hq0_2
       have h1_12 := bnot_t' h1_11
       refine st_yg hf rfl rfl (lk_b rfl h1_11) rfl rfl (y_fieldAddr fo_57_1 rfl rfl) ?_
       clear hf a; intro a hf
       refine st_yg hf rfl rfl (lk_b rfl h1_11) rfl rfl (y_load1 Try.isAgg3 rfl rfl (hm.blk_cell 1 rfl rfl)) ?_
       clear hf a; intro a hf
       refine st_yg hf rfl rfl (lk_b rfl h1_11) rfl rfl (y_neq rfl rfl rfl) ?_
       clear hf a; intro a hf
       refine st_yg hf rfl rfl (lk_b rfl rfl) rfl rfl (y_pick_t rfl (ev_b rfl h1_11) rfl) ?_
       clear hf a; intro a hf
       refine st_y hf rfl rfl rfl (y_pick_f rfl (ev_b rfl rfl) rfl) ?_
       clear hf a; intro a hf
       refine st_end ?_
       refine x_then_n ?_
       obtain rfl := Option.some.inj hq0_2
       exact ⟨hf.sub ⟨rfl, rfl, rfl, rfl, trivial⟩, hm.pick [0, 1] (by decide) rfl⟩
      ·
       replace hq0_2 := (ite_f h1_11).symm.trans hq0_2
       have h1_13 := bnot_f' h1_11
       refine st_no hf rfl rfl (lk_b rfl h1_11) rfl rfl rfl ?_
       clear hf a; intro a hf
       refine st_no hf rfl rfl (lk_b rfl h1_11) rfl rfl rfl ?_
       clear hf a; intro a hf
       refine st_no hf rfl rfl (lk_b rfl h1_11) rfl rfl rfl ?_
       clear hf a; intro a hf
       refine st_yg hf rfl rfl (lk_b rfl rfl) rfl rfl (y_pick_f rfl (ev_b rfl h1_11) rfl) ?_
       clear hf a; intro a hf
       refine st_y hf rfl rfl rfl (y_pick_f rfl (ev_b rfl rfl) rfl) ?_
       clear hf a; intro a hf
       refine st_end ?_
       refine x_then_n ?_
       obtain rfl := Option.some.inj hq0_2
       exact ⟨hf.sub ⟨rfl, rfl, rfl, rfl, trivial⟩, hm.pick [0, 1] (by decide) rfl⟩
    ·
     clear hf hm
     rintro a w ⟨hf, hm⟩
     refine x_then_n ?_
     rcases bcases (s0_2) with h0_4 | h0_4
     ·
      replace hq := (ite_t h0_4).symm.trans hq
      refine cond_t hf rfl h0_4 ?_
      refine wp_seq ?_
      refine wp_region_lit ?_
      refine st_y hf rfl rfl rfl (y_assign rfl rfl) ?_
      clear hf a; intro a hf
      refine st_end ?_
      refine x_then_n ?_
      refine wp_ret ?_
      refine x_then_ret ?_
      obtain rfl := Option.some.inj hq
      refine ret_tmp hf Try.results122 rfl ?_
      exact ⟨rfl, hm.below⟩
     ·
      replace hq := (ite_f h0_4).symm.trans hq
      refine cond_f hf rfl h0_4 ?_
      refine wp_skip ?_
      refine x_then_n ?_
      refine wp_seq ?_
      refine wp_seq ?_
      refine wp_region_lit ?_
      refine st_y hf rfl rfl rfl (y_fieldAddr fo_57_0 rfl rfl) ?_
      clear hf a; intro a hf
      refine st_y hf rfl rfl rfl (y_load1 Try.isAgg3 rfl rfl (hm.blk_cell 1 rfl rfl)) ?_
      clear hf a; intro a hf
      refine st_end ?_
      refine x_then_n ?_
      refine wp_block ?_
      refine wp_seq ?_
      refine wp_region_lit ?_
      refine st_y hf rfl rfl rfl (y_eql rfl rfl rfl) ?_
      clear hf a; intro a hf
      refine st_y hf rfl rfl rfl (y_assign rfl rfl) ?_
      clear hf a; intro a hf
      refine st_end ?_
      refine x_then_n ?_
      rcases bcases (decide (x_.op = 1)) with h0_5 | h0_5
      ·
       replace hq := (ite_t h0_5).symm.trans hq
       have h0_6 := of_decide_eq_true h0_5
       refine cond_t hf rfl h0_5 ?_
       refine wp_seq ?_
       obtain ⟨s0_3, hq0_3, hq⟩ := bnd hq
       refine code_cut (K := fun a w => Fr 91 [(6, (.bool (s0_3)))] a ∧ Mem w0 (hp w0) w []) ?_ ?_
       ·
        refine wp_region_lit ?_
        refine st_y hf rfl rfl rfl (y_fieldAddr fo_57_2 rfl rfl) ?_
        clear hf a; intro a hf
        refine st_y hf rfl rfl rfl (y_load1 Try.isAgg26 rfl rfl (hm.blk_cell 1 rfl rfl)) ?_
        clear hf a; intro a hf
        obtain ⟨p1_1, c1_1, he, hl1_1⟩ := ro_slice h2
        subst he
        refine st_y hf rfl rfl rfl (y_len_slice st_26.und rfl rfl) ?_
        clear hf a; intro a hf
        refine st_y hf rfl rfl rfl (y_eql rfl rfl rfl) ?_
        clear hf a; intro a hf
        refine st_y hf rfl rfl rfl (y_move rfl rfl) ?_
        clear hf a; intro a hf
        rcases bcases (decide (((x_.args.length : Int)) = 0)) with h1_14 | h1_14
        ·
         replace hq0_3 := (ite_t h1_14).symm.trans hq0_3
         have h1_15 := of_decide_eq_true h1_14
         refine st_yg hf rfl rfl (lk_b rfl h1_14) rfl rfl (y_fieldAddr fo_57_3 rfl rfl) ?_
         clear hf a; intro a hf
         refine st_yg hf rfl rfl (lk_b rfl h1_14) rfl rfl (y_load1 Try.isAgg3 rfl rfl (hm.blk_cell 1 rfl rfl)) ?_
         clear hf a; intro a hf
         obtain ⟨r1_7, hx1_7, hq0_3⟩ := bnd hq0_3
         refine st_efg hf rfl rfl (lk_b rfl h1_14) rfl rfl (e_call hf rfl Try.call104 rfl (impl_isByte_ok _ x_.n_ _ hx1_7)) ?_
         clear hf a; rintro v1_7 w1_7 a ho1_7 hf
         obtain ⟨rfl, hB⟩ := ho1_7
         replace hm := hm.below' hB; clear hB
         refine st_y hf rfl rfl rfl (y_pick_t rfl (ev_b rfl h1_14) rfl) ?_
         clear hf a; intro a hf
         refine st_y hf rfl rfl rfl (y_assign rfl rfl) ?_
         clear hf a; intro a hf
         refine st_end ?_
         refine x_then_n ?_
         obtain rfl := Option.some.inj hq0_3
         exact ⟨hf.sub ⟨rfl, trivial⟩, hm.pick [] (by decide) rfl⟩
        ·
         replace hq0_3 := (ite_f h1_14).symm.trans hq0_3
         have h1_16 := of_decide_eq_false h1_14
         refine st_no hf rfl rfl (lk_b rfl h1_14) rfl rfl rfl ?_
         clear hf a; intro a hf
         refine st_no hf rfl rfl (lk_b rfl h1_14) rfl rfl rfl ?_
         clear hf a; intro a hf
         refine st_no hf rfl rfl (lk_b rfl h1_14) rfl rfl rfl ?_
         clear hf a; intro a hf
         refine st_y hf rfl rfl rfl (y_pick_f rfl (ev_b rfl h1_14) rfl) ?_
         clear hf a; intro a hf
         refine st_y hf rfl rfl rfl (y_assign rfl rfl) ?_
         clear hf a; intro a hf
         refine st_end ?_
         refine x_then_n ?_
         obtain rfl := Option.some.inj hq0_3
         exact ⟨hf.sub ⟨rfl, trivial⟩, hm.pick [] (by decide) rfl⟩
       ·
        clear hf hm
        rintro a w ⟨hf, hm⟩
        refine x_then_n ?_
        refine wp_ret ?_
        refine x_blk_ret ?_
        refine x_then_ret ?_
        obtain rfl := Option.some.inj hq
        refine ret_tmp hf Try.results122 rfl ?_
        exact ⟨rfl, hm.below⟩
      ·
       replace hq := (ite_f h0_5).symm.trans hq
       have h0_7 := of_decide_eq_false h0_5
       refine cond_f hf rfl h0_5 ?_
       refine wp_seq ?_
       refine wp_region_lit ?_
       refine st_y hf rfl rfl rfl (y_eql rfl rfl rfl) ?_
       clear hf a; intro a hf
       refine st_y hf rfl rfl rfl (y_assign rfl rfl) ?_
       clear hf a; intro a hf
       refine st_end ?_
       refine x_then_n ?_
       rcases bcases (decide (x_.op = 14)) with h0_8 | h0_8
       ·
        replace hq := (ite_t h0_8).symm.trans hq
        have h0_9 := of_decide_eq_true h0_8
        refine cond_t hf rfl h0_8 ?_
        refine wp_seq ?_
        obtain ⟨s0_4, hq0_4, hq⟩ := bnd hq
        refine code_cut (K := fun a w => Fr 91 [(6, (.bool (s0_4)))] a ∧ Mem w0 (hp w0) w []) ?_ ?_
        ·
         refine wp_tree (.p 0 (.p 2 (.p 3 (.e 1 (.e 4 (.p 5 (.p 6 (.p 9 (.p 11 (.q 7 (.p 8 (.q 10 (.e 12 (.p 13 (.p 14 (.e 15 (.p 16 (.p 17 (.p 18 .fin))) .nil))) .nil)))))))) .nil) .nil)))) [7, 10, 12, 15] [0, 2, 3, 5, 6, 8, 9, 11, 13, 14, 16, 17, 18] (fun w => Mem w0 (hp w0) w [blk b0_1 [(.slice (some ⟨b0_3, o0_1, none⟩) u.codes.length c0_1)] 40, blk b0_2 [(.int .i64 (x_.op)), (.int .i64 (x_.to)), v2, (.int .i64 (x_.n_))] 57]) (by kernel_rfl) (by kernel_rfl) (fun _ _ _ h => h.2) ?_
         replace hm := hm.drew
         have hS : Mem w0 (hp w0) _ [blk b0_1 [(.slice (some ⟨b0_3, o0_1, none⟩) u.codes.length c0_1)] 40, blk b0_2 [(.int .i64 (x_.op)), (.int .i64 (x_.to)), v2, (.int .i64 (x_.n_))] 57] := hm.pick [0, 1] (by decide) rfl
         refine td_p hf rfl rfl rfl rfl (fun w => y_fieldAddr fo_57_3 rfl rfl) ?_
         clear hf a; intro a hf
         refine td_p hf rfl rfl rfl rfl (fun w => y_move rfl rfl) ?_
         clear hf a; intro a hf
         refine td_p hf rfl rfl rfl rfl (fun w => y_subw rfl rfl rfl) ?_
         clear hf a; intro a hf
         refine te_one ?_
         refine td_ef hf rfl rfl rfl rfl (ef_y hf (y_load1 Try.isAgg3 rfl rfl (hm.blk_cell 1 rfl rfl))) ?_
         clear hf a; rintro _ _ a ⟨rfl, rfl⟩ hf
         refine ⟨fun h => absurd h (by decide), ?_⟩
         refine te_one ?_
         obtain ⟨r1_8, hx1_8, hq0_4⟩ := bnd hq0_4
         refine td_ef hf rfl rfl rfl rfl (e_call hf rfl Try.call73 rfl (impl_within_ok _ x_.n_ 0 (w64 (k_ - 1)) _ hx1_8)) ?_
         clear hf a; rintro v1_8 w1_8 a ho1_8 hf
         obtain ⟨rfl, hB⟩ := ho1_8
         replace hm := hm.below' hB; clear hB
         clear hS
         have hS : Mem w0 (hp w0) _ [blk b0_1 [(.slice (some ⟨b0_3, o0_1, none⟩) u.codes.length c0_1)] 40, blk b0_2 [(.int .i64 (x_.op)), (.int .i64 (x_.to)), v2, (.int .i64 (x_.n_))] 57] := hm.pick [0, 1] (by decide) rfl
         refine ⟨fun h => absurd h (by decide), ?_⟩
         refine td_p hf rfl rfl rfl rfl (fun w => y_move rfl rfl) ?_
         clear hf a; intro a hf
         rcases bcases (r1_8) with h1_17 | h1_17
         ·
          replace hq0_4 := (ite_t h1_17).symm.trans hq0_4
          refine td_pg hf rfl rfl rfl (lk_b rfl h1_17) rfl rfl (fun w => y_fieldAddr fo_57_2 rfl rfl) ?_
          clear hf a; intro a hf
          refine td_pg hf rfl rfl rfl (lk_b rfl h1_17) rfl rfl (fun w => y_fieldAddr fo_40_0 rfl rfl) ?_
          clear hf a; intro a hf
          refine td_pg hf rfl rfl rfl (lk_b rfl h1_17) rfl rfl (fun w => y_fieldAddr fo_57_3 rfl rfl) ?_
          clear hf a; intro a hf
          refine td_yg hf rfl rfl rfl (lk_b rfl h1_17) rfl rfl hS (fun w hm => y_load1 Try.isAgg26 rfl rfl (hm.blk_cell 1 rfl rfl)) ?_
          clear hf a; intro a hf
          obtain ⟨p1_2, c1_2, he, hl1_2⟩ := ro_slice h2
          subst he
          refine td_pg hf rfl rfl rfl (lk_b rfl h1_17) rfl rfl (fun w => y_len_slice st_26.und rfl rfl) ?_
          clear hf a; intro a hf
          refine td_yg hf rfl rfl rfl (lk_b rfl h1_17) rfl rfl hS (fun w hm => y_load1 Try.isAgg38 rfl rfl (hm.blk_cell 0 rfl rfl)) ?_
          clear hf a; intro a hf
          refine te_one ?_
          refine td_efg hf rfl rfl rfl (lk_b rfl h1_17) rfl rfl (ef_y hf (y_load1 Try.isAgg3 rfl rfl (hm.blk_cell 1 rfl rfl))) ?_
          clear hf a; rintro _ _ a ⟨rfl, rfl⟩ hf
          refine ⟨fun _ => hS, ?_⟩
          obtain ⟨x1_1, hx1_9, hq0_4⟩ := bnd hq0_4
          obtain ⟨h1_18, hx1_10⟩ := getI_some.1 hx1_9
          obtain ⟨_, _, hc1_1, hr1_1⟩ := ro_get' h1 hx1_10
          obtain ⟨_, _, rfl, rfl, _, _, rfl, rfl, h1_19⟩ := hr1_1
          obtain ⟨v1_9, rfl, -⟩ := id h1_19
          replace h1_19 : GT.rep (hp w0) [v1_9] x1_1.blocks := h1_19
          replace hc1_1 : CellsAt (hp w0) b0_3 (o0_1 + (x_.n_).toNat * 3) [(.int .i64 (x1_1.params)), (.int .i64 (x1_1.regs)), v1_9] := hc1_1
          refine td_pg hf rfl rfl rfl (lk_b rfl h1_17) rfl rfl (fun w => y_indexAddr st_38 rfl rfl rfl h1_18 (idx_lt hx1_10)) ?_
          clear hf a; intro a hf
          refine td_pg hf rfl rfl rfl (lk_b rfl h1_17) rfl rfl (fun w => y_fieldAddr fo_55_0 rfl rfl) ?_
          clear hf a; intro a hf
          refine te_one ?_
          refine td_efg hf rfl rfl rfl (lk_b rfl h1_17) rfl rfl (ef_y hf (y_load1 Try.isAgg3 rfl rfl ((hc1_1.mono hm.lez).cell (j := 0) rfl))) ?_
          clear hf a; rintro _ _ a ⟨rfl, rfl⟩ hf
          refine ⟨fun _ => hS, ?_⟩
          refine td_pg hf rfl rfl rfl (lk_b rfl h1_17) rfl rfl (fun w => y_eql rfl rfl rfl) ?_
          clear hf a; intro a hf
          refine td_p hf rfl rfl rfl rfl (fun w => y_pick_t rfl (ev_b rfl h1_17) rfl) ?_
          clear hf a; intro a hf
          refine td_p hf rfl rfl rfl rfl (fun w => y_assign rfl rfl) ?_
          clear hf a; intro a hf
          clear hS; refine td_end ?_
          refine x_then_n ?_
          obtain rfl := Option.some.inj hq0_4
          exact ⟨hf.sub ⟨rfl, trivial⟩, hm.pick [] (by decide) rfl⟩
         ·
          replace hq0_4 := (ite_f h1_17).symm.trans hq0_4
          refine td_pno hf rfl rfl rfl (lk_b rfl h1_17) rfl rfl rfl ?_
          clear hf a; intro a hf
          refine td_pno hf rfl rfl rfl (lk_b rfl h1_17) rfl rfl rfl ?_
          clear hf a; intro a hf
          refine td_pno hf rfl rfl rfl (lk_b rfl h1_17) rfl rfl rfl ?_
          clear hf a; intro a hf
          refine td_no hf rfl rfl rfl (lk_b rfl h1_17) rfl rfl rfl hS ?_
          clear hf a; intro a hf
          refine td_pno hf rfl rfl rfl (lk_b rfl h1_17) rfl rfl rfl ?_
          clear hf a; intro a hf
          refine td_no hf rfl rfl rfl (lk_b rfl h1_17) rfl rfl rfl hS ?_
          clear hf a; intro a hf
          refine te_one ?_
          refine td_no' hf rfl rfl rfl (lk_b rfl h1_17) rfl rfl rfl ?_
          clear hf a; intro a hf
          refine ⟨fun _ => hS, ?_⟩
          refine td_pno hf rfl rfl rfl (lk_b rfl h1_17) rfl rfl rfl ?_
          clear hf a; intro a hf
          refine td_pno hf rfl rfl rfl (lk_b rfl h1_17) rfl rfl rfl ?_
          clear hf a; intro a hf
          refine te_one ?_
          refine td_no' hf rfl rfl rfl (lk_b rfl h1_17) rfl rfl rfl ?_
          clear hf a; intro a hf
          refine ⟨fun _ => hS, ?_⟩
          refine td_pno hf rfl rfl rfl (lk_b rfl h1_17) rfl rfl rfl ?_
          clear hf a; intro a hf
          refine td_p hf rfl rfl rfl rfl (fun w => y_pick_f rfl (ev_b rfl h1_17) rfl) ?_
          clear hf a; intro a hf
          refine td_p hf rfl rfl rfl rfl (fun w => y_assign rfl rfl) ?_
          clear hf a; intro a hf
          clear hS; refine td_end ?_
          refine x_then_n ?_
          obtain rfl := Option.some.inj hq0_4
          exact ⟨hf.sub ⟨rfl, trivial⟩, hm.pick [] (by decide) rfl⟩
        ·
         clear hf hm
         rintro a w ⟨hf, hm⟩
         refine x_then_n ?_
         refine wp_ret ?_
         refine x_blk_ret ?_
         refine x_then_ret ?_
         obtain rfl := Option.some.inj hq
         refine ret_tmp hf Try.results122 rfl ?_
         exact ⟨rfl, hm.below⟩
       ·
        replace hq := (ite_f h0_8).symm.trans hq
        have h0_10 := of_decide_eq_false h0_8
        refine cond_f hf rfl h0_8 ?_
        refine wp_skip ?_
        refine x_blk_n ?_
        refine x_then_n ?_
        refine wp_seq ?_
        obtain ⟨s0_5, hq0_5, hq⟩ := bnd hq
        refine code_cut (K := fun a w => Fr 91 [(6, (.bool (s0_5)))] a ∧ Mem w0 (hp w0) w []) ?_ ?_
        ·
         refine wp_tree (.p 0 (.e 1 (.p 2 (.p 3 (.p 4 (.p 7 (.q 5 (.p 6 (.e 8 (.e 9 (.p 10 (.p 11 (.p 12 .fin))) .nil) .nil))))))) .nil)) [8, 9] [0, 2, 3, 4, 6, 7, 10, 11, 12] (fun w => Mem w0 (hp w0) w [blk b0_1 [(.slice (some ⟨b0_3, o0_1, none⟩) u.codes.length c0_1)] 40, blk b0_2 [(.int .i64 (x_.op)), (.int .i64 (x_.to)), v2, (.int .i64 (x_.n_))] 57]) (by kernel_rfl) (by kernel_rfl) (fun _ _ _ h => h.2) ?_
         replace hm := hm.drew
         have hS : Mem w0 (hp w0) _ [blk b0_1 [(.slice (some ⟨b0_3, o0_1, none⟩) u.codes.length c0_1)] 40, blk b0_2 [(.int .i64 (x_.op)), (.int .i64 (x_.to)), v2, (.int .i64 (x_.n_))] 57] := hm.pick [0, 1] (by decide) rfl
         refine td_p hf rfl rfl rfl rfl (fun w => y_fieldAddr fo_57_3 rfl rfl) ?_
         clear hf a; intro a hf
         refine te_one ?_
         refine td_ef hf rfl rfl rfl rfl (ef_y hf (y_load1 Try.isAgg3 rfl rfl (hm.blk_cell 1 rfl rfl))) ?_
         clear hf a; rintro _ _ a ⟨rfl, rfl⟩ hf
         refine ⟨fun h => absurd h (by decide), ?_⟩
         refine td_p hf rfl rfl rfl rfl (fun w => y_eql rfl rfl rfl) ?_
         clear hf a; intro a hf
         refine td_p hf rfl rfl rfl rfl (fun w => y_move rfl rfl) ?_
         clear hf a; intro a hf
         rcases bcases (decide (x_.n_ = 0)) with h1_20 | h1_20
         ·
          replace hq0_5 := (ite_t h1_20).symm.trans hq0_5
          have h1_21 := of_decide_eq_true h1_20
          refine td_pg hf rfl rfl rfl (lk_b rfl h1_20) rfl rfl (fun w => y_fieldAddr fo_57_2 rfl rfl) ?_
          clear hf a; intro a hf
          refine td_pg hf rfl rfl rfl (lk_b rfl h1_20) rfl rfl (fun w => y_fieldAddr fo_57_0 rfl rfl) ?_
          clear hf a; intro a hf
          refine td_yg hf rfl rfl rfl (lk_b rfl h1_20) rfl rfl hS (fun w hm => y_load1 Try.isAgg26 rfl rfl (hm.blk_cell 1 rfl rfl)) ?_
          clear hf a; intro a hf
          obtain ⟨p1_3, c1_3, he, hl1_3⟩ := ro_slice h2
          subst he
          refine td_pg hf rfl rfl rfl (lk_b rfl h1_20) rfl rfl (fun w => y_len_slice st_26.und rfl rfl) ?_
          clear hf a; intro a hf
          refine te_one ?_
          refine td_efg hf rfl rfl rfl (lk_b rfl h1_20) rfl rfl (ef_y hf (y_load1 Try.isAgg3 rfl rfl (hm.blk_cell 1 rfl rfl))) ?_
          clear hf a; rintro _ _ a ⟨rfl, rfl⟩ hf
          refine ⟨fun _ => hS, ?_⟩
          refine te_one ?_
          obtain ⟨r1_9, hx1_11, hq0_5⟩ := bnd hq0_5
          refine td_efg hf rfl rfl rfl (lk_b rfl h1_20) rfl rfl (e_call hf rfl Try.call152 rfl (impl_insArgs_ok _ x_.op _ hx1_11)) ?_
          clear hf a; rintro v1_10 w1_9 a ho1_9 hf
          obtain ⟨rfl, hB⟩ := ho1_9
          replace hm := hm.below' hB; clear hB
          clear hS
          have hS : Mem w0 (hp w0) _ [blk b0_1 [(.slice (some ⟨b0_3, o0_1, none⟩) u.codes.length c0_1)] 40, blk b0_2 [(.int .i64 (x_.op)), (.int .i64 (x_.to)), (.slice p1_3 x_.args.length c1_3), (.int .i64 (x_.n_))] 57] := hm.pick [0, 1] (by decide) rfl
          refine ⟨fun _ => hS, ?_⟩
          refine td_pg hf rfl rfl rfl (lk_b rfl h1_20) rfl rfl (fun w => y_eql rfl rfl rfl) ?_
          clear hf a; intro a hf
          refine td_p hf rfl rfl rfl rfl (fun w => y_pick_t rfl (ev_b rfl h1_20) rfl) ?_
          clear hf a; intro a hf
          refine td_p hf rfl rfl rfl rfl (fun w => y_assign rfl rfl) ?_
          clear hf a; intro a hf
          clear hS; refine td_end ?_
          refine x_then_n ?_
          obtain rfl := Option.some.inj hq0_5
          exact ⟨hf.sub ⟨rfl, trivial⟩, hm.pick [] (by decide) rfl⟩
         ·
          replace hq0_5 := (ite_f h1_20).symm.trans hq0_5
          have h1_22 := of_decide_eq_false h1_20
          refine td_pno hf rfl rfl rfl (lk_b rfl h1_20) rfl rfl rfl ?_
          clear hf a; intro a hf
          refine td_pno hf rfl rfl rfl (lk_b rfl h1_20) rfl rfl rfl ?_
          clear hf a; intro a hf
          refine td_no hf rfl rfl rfl (lk_b rfl h1_20) rfl rfl rfl hS ?_
          clear hf a; intro a hf
          refine td_pno hf rfl rfl rfl (lk_b rfl h1_20) rfl rfl rfl ?_
          clear hf a; intro a hf
          refine te_one ?_
          refine td_no' hf rfl rfl rfl (lk_b rfl h1_20) rfl rfl rfl ?_
          clear hf a; intro a hf
          refine ⟨fun _ => hS, ?_⟩
          refine te_one ?_
          refine td_no' hf rfl rfl rfl (lk_b rfl h1_20) rfl rfl rfl ?_
          clear hf a; intro a hf
          refine ⟨fun _ => hS, ?_⟩
          refine td_pno hf rfl rfl rfl (lk_b rfl h1_20) rfl rfl rfl ?_
          clear hf a; intro a hf
          refine td_p hf rfl rfl rfl rfl (fun w => y_pick_f rfl (ev_b rfl h1_20) rfl) ?_
          clear hf a; intro a hf
          refine td_p hf rfl rfl rfl rfl (fun w => y_assign rfl rfl) ?_
          clear hf a; intro a hf
          clear hS; refine td_end ?_
          refine x_then_n ?_
          obtain rfl := Option.some.inj hq0_5
          exact ⟨hf.sub ⟨rfl, trivial⟩, hm.pick [] (by decide) rfl⟩
        ·
         clear hf hm
         rintro a w ⟨hf, hm⟩
         refine x_then_n ?_
         refine wp_ret ?_
         obtain rfl := Option.some.inj hq
         refine ret_tmp hf Try.results122 rfl ?_
         exact ⟨rfl, hm.below⟩

theorem impl_codeOk_3_ok (w0 : World) (i_ : Ins_) (v1 : Value) (h1 : GT.rep (hp w0) [v1] i_.args) (c0_ : Unit_) (v2 : Value) (h2 : GT.rep (hp w0) [v2] c0_.codes) (bf0 : Nat) (hbf0 : w0.heap[bf0]? = some (.cells ([v2] : List Value).toArray 40 (0, 0))) (c1_ : Int) (bf1 : Nat) (hbf1 : w0.heap[bf1]? = some (.cells ([(.int .i64 (c1_))] : List Value).toArray 3 (0, 0))) (r : Bool) (hq : impl_codeOk_3 i_ c0_ c1_ = some r) :
    Con Try.prog 121 [(.agg #[(.int .i64 (i_.op)), (.int .i64 (i_.to)), v1, (.int .i64 (i_.n_))]), (.pointer (some ⟨bf0, 0, none⟩)), (.pointer (some ⟨bf1, 0, none⟩))] w0 (fun v w' => v = (.bool (r)) ∧ Below w0.heap.size w0 w') := by
  unfold impl_codeOk_3 at hq
  refine con_body (l := [(0, (.agg #[(.int .i64 (i_.op)), (.int .i64 (i_.to)), v1, (.int .i64 (i_.n_))])), (1, (.pointer (some ⟨bf0, 0, none⟩))), (2, (.pointer (some ⟨bf1, 0, none⟩)))]) Try.func121 rfl Try.ntmps121 (Args.get ⟨rfl, rfl, rfl, trivial⟩) rfl ?_
  intro a hf
  have hm := Mem.start w0
  refine wp_seq ?_
  refine wp_region_lit ?_
  refine st_ef hf rfl rfl rfl (e_box hf hm rfl rfl rfl) ?_
  clear hf a; rintro _ w0_1 a ⟨b0_1, rfl, hm⟩ hf
  refine st_y hf rfl rfl rfl (y_assign rfl rfl) ?_
  clear hf a; intro a hf
  refine st_end ?_
  refine x_then_n ?_
  refine wp_seq ?_
  refine wp_region_lit ?_
  refine st_y hf rfl rfl rfl (y_loadN (cs := [v2]) Try.isAgg40 Try.sizeOf40 rfl rfl (hm.old_at hbf0)) ?_
  clear hf a; intro a hf
  refine st_y hf rfl rfl rfl (y_load1 Try.isAgg3 rfl rfl (hm.old_cell hbf1 rfl)) ?_
  clear hf a; intro a hf
  refine st_y hf rfl rfl rfl (y_loadN (cs := [(.int .i64 (i_.op)), (.int .i64 (i_.to)), v1, (.int .i64 (i_.n_))]) Try.isAgg57 Try.sizeOf57 rfl rfl (hm.blk_at 0 rfl)) ?_
  clear hf a; intro a hf
  obtain ⟨r0_1, hx0_1, hq⟩ := bnd hq
  refine st_ef hf rfl rfl rfl (e_call hf rfl Try.call122 rfl (impl_insOk_ok _ c0_ v2 (hm.now h2) c1_ i_ v1 (hm.now h1) _ hx0_1)) ?_
  clear hf a; rintro v0_1 w0_2 a ho0_1 hf
  obtain ⟨rfl, hB⟩ := ho0_1
  replace hm := hm.below' hB; clear hB
  refine st_y hf rfl rfl rfl (y_not rfl rfl) ?_
  clear hf a; intro a hf
  refine st_y hf rfl rfl rfl (y_assign rfl rfl) ?_
  clear hf a; intro a hf
  refine st_end ?_
  refine x_then_n ?_
  refine wp_ret ?_
  obtain rfl := Option.some.inj hq
  refine ret_tmp hf Try.results121 rfl ?_
  exact ⟨rfl, hm.below⟩

theorem slices_IndexFunc_S_impl_Ins_impl_Ins_ok (w0 : World) (s_ : List Ins_) (v1 : Value) (h1 : GT.rep (hp w0) [v1] s_) (f : Ins_ → Option Bool) (fv1 : Value) (hfn1 : ∀ (w : World) (y0 : Ins_) (z1 : Value) (_ : GT.rep (hp w) [z1] y0.args) (r : Bool), Below w0.heap.size w0 w → f y0 = some r → FnOk Try.prog fv1 [(.agg #[(.int .i64 (y0.op)), (.int .i64 (y0.to)), z1, (.int .i64 (y0.n_))])] w (fun v w' => v = (.bool (r)) ∧ Below w.heap.size w w')) (r : Int) (hq : slices_IndexFunc_S_impl_Ins_impl_Ins s_ f = some r) :
    Con Try.prog 148 [v1, fv1] w0 (fun v w' => v = (.int .i64 (r)) ∧ Below w0.heap.size w0 w') := by
  unfold slices_IndexFunc_S_impl_Ins_impl_Ins at hq
  refine con_body (l := [(0, v1), (1, fv1)]) Try.func148 rfl Try.ntmps148 (Args.get ⟨rfl, rfl, trivial⟩) rfl ?_
  intro a hf
  have hm := Mem.start w0
  refine wp_seq ?_
  refine wp_region_lit ?_
  refine st_y hf rfl rfl rfl (y_assign rfl rfl) ?_
  clear hf a; intro a hf
  refine st_end ?_
  refine x_then_n ?_
  refine wp_seq ?_
  refine wp_seq ?_
  refine wp_region_lit ?_
  refine st_y hf rfl rfl rfl (y_move rfl rfl) ?_
  clear hf a; intro a hf
  obtain ⟨p0_1, c0_1, he, hl0_1⟩ := ro_slice h1
  subst he
  refine st_y hf rfl rfl rfl (y_len_slice st_58.und rfl rfl) ?_
  clear hf a; intro a hf
  refine st_y hf rfl rfl rfl (y_move rfl rfl) ?_
  clear hf a; intro a hf
  refine st_end ?_
  refine x_then_n ?_
  refine wp_block ?_
  obtain ⟨r0_1, hl0_2, hq⟩ := bnd hq
  refine wp_forN _ (fun i1_1 xs1_1 a w => Fr 19 [(0, (.slice p0_1 s_.length c0_1)), (1, fv1), (7, (.int .i64 ((s_.length : Int)))), (8, (.int .i64 (i1_1)))] a ∧ Mem w0 (hp w0) w []) (0) ((s_.length : Int)) hl0_2 ?_ ?_ ?_
  ·
   exact ⟨hf.sub ⟨rfl, rfl, rfl, rfl, trivial⟩, hm.pick [] (by decide) rfl⟩
  ·
   clear hf hm
   rintro i1_1 xs1_1 a w ⟨hf, hm⟩ hi1_1 hi1_2 q0_1 hb0_1 ho0_1
   refine wp_seq ?_
   refine wp_region_lit ?_
   refine st_y hf rfl rfl rfl (y_lss rfl rfl rfl) ?_
   clear hf a; intro a hf
   refine st_end ?_
   refine x_then_n ?_
   refine wp_seq ?_
   refine cond_t hf rfl (decide_eq_true (by omega)) ?_
   refine wp_skip ?_
   refine x_then_n ?_
   refine wp_seq ?_
   refine wp_block ?_
   refine wp_seq ?_
   refine wp_region_lit ?_
   refine st_y hf rfl rfl rfl (y_move rfl rfl) ?_
   clear hf a; intro a hf
   refine st_y hf rfl rfl rfl (y_assign rfl rfl) ?_
   clear hf a; intro a hf
   refine st_end ?_
   refine x_then_n ?_
   refine wp_seq ?_
   refine wp_region_lit ?_
   refine st_y hf rfl rfl rfl (y_move rfl rfl) ?_
   clear hf a; intro a hf
   refine st_y hf rfl rfl rfl (y_move rfl rfl) ?_
   clear hf a; intro a hf
   refine st_y hf rfl rfl rfl (y_move rfl rfl) ?_
   clear hf a; intro a hf
   obtain ⟨x1_1, hx1_1, hb0_1⟩ := bnd hb0_1
   obtain ⟨h1_1, hx1_2⟩ := getI_some.1 hx1_1
   obtain ⟨b1_1, o1_1, c1_1, he⟩ := idx_form' h1 hx1_2
   simp only [Value.slice.injEq, Option.some.injEq] at he; obtain ⟨rfl, _, rfl⟩ := he
   obtain ⟨_, _, hc1_1, hr1_1⟩ := ro_get' h1 hx1_2
   obtain ⟨_, _, rfl, rfl, _, _, rfl, rfl, _, _, rfl, h1_2, rfl⟩ := hr1_1
   obtain ⟨v1_1, rfl, -⟩ := id h1_2
   replace h1_2 : GT.rep (hp w0) [v1_1] x1_1.args := h1_2
   replace hc1_1 : CellsAt (hp w0) b1_1 (o1_1 + (i1_1).toNat * 4) [(.int .i64 (x1_1.op)), (.int .i64 (x1_1.to)), v1_1, (.int .i64 (x1_1.n_))] := hc1_1
   refine st_y hf rfl rfl rfl (y_indexAddr st_58 rfl rfl rfl h1_1 (idx_lt hx1_2)) ?_
   clear hf a; intro a hf
   refine st_y hf rfl rfl rfl (y_loadN (cs := [(.int .i64 (x1_1.op)), (.int .i64 (x1_1.to)), v1_1, (.int .i64 (x1_1.n_))]) Try.isAgg57 Try.sizeOf57 rfl rfl (hc1_1.mono hm.lez)) ?_
   clear hf a; intro a hf
   obtain ⟨r1_1, hx1_3, hb0_1⟩ := bnd hb0_1
   refine st_ef hf rfl rfl rfl (e_callv hf rfl rfl rfl (hfn1 _ x1_1 v1_1 (hm.now h1_2) _ hm.below hx1_3)) ?_
   clear hf a; rintro v1_2 w1_1 a ho1_1 hf
   obtain ⟨rfl, hB⟩ := ho1_1
   replace hm := hm.below' hB; clear hB
   refine st_end ?_
   refine x_then_n ?_
   rcases bcases (r1_1) with h1_3 | h1_3
   ·
    replace hb0_1 := (ite_t h1_3).symm.trans hb0_1
    refine cond_t hf rfl h1_3 ?_
    refine wp_seq ?_
    refine wp_region_lit ?_
    refine st_y hf rfl rfl rfl (y_move rfl rfl) ?_
    clear hf a; intro a hf
    refine st_y hf rfl rfl rfl (y_assign rfl rfl) ?_
    clear hf a; intro a hf
    refine st_end ?_
    refine x_then_n ?_
    refine wp_ret ?_
    refine x_blk_ret ?_
    refine x_then_ret ?_
    refine x_then_ret ?_
    refine x_blk_ret ?_
    refine x_then_ret ?_
    obtain rfl := Option.some.inj hb0_1
    obtain rfl := ho0_1 _ rfl
    replace hq := sum_r hq
    obtain rfl := Option.some.inj hq
    refine ret_tmp hf Try.results148 rfl ?_
    exact ⟨rfl, hm.below⟩
   ·
    replace hb0_1 := (ite_f h1_3).symm.trans hb0_1
    refine cond_f hf rfl h1_3 ?_
    refine wp_skip ?_
    refine x_blk_n ?_
    refine x_then_n ?_
    refine wp_region_lit ?_
    refine st_y hf rfl rfl rfl (y_add64 rfl rfl rfl (by omega) (by omega)) ?_
    clear hf a; intro a hf
    refine st_y hf rfl rfl rfl (y_move rfl rfl) ?_
    clear hf a; intro a hf
    refine st_end ?_
    refine x_then_n ?_
    obtain rfl := Option.some.inj hb0_1
    exact ⟨_, rfl, hf.sub ⟨rfl, rfl, rfl, rfl, trivial⟩, hm.pick [] (by decide) rfl⟩
  ·
   clear hf hm
   rintro i0_1 xs0_1 a w ⟨hf, hm⟩ hi0_1 hi0_2 rfl
   replace hq := sum_l hq
   refine wp_seq ?_
   refine wp_region_lit ?_
   refine st_y hf rfl rfl rfl (y_lss rfl rfl rfl) ?_
   clear hf a; intro a hf
   refine st_end ?_
   refine x_then_n ?_
   refine wp_seq ?_
   refine cond_f hf rfl (decide_eq_false (by omega)) ?_
   refine wp_exit ?_
   refine x_then_exit ?_
   refine x_then_exit ?_
   refine x_blk_hit ?_
   refine x_then_n ?_
   refine wp_seq ?_
   refine wp_region_lit ?_
   refine st_y hf rfl rfl rfl (y_assign rfl rfl) ?_
   clear hf a; intro a hf
   refine st_end ?_
   refine x_then_n ?_
   refine wp_ret ?_
   obtain rfl := Option.some.inj hq
   refine ret_tmp hf Try.results148 rfl ?_
   exact ⟨rfl, hm.below⟩

theorem slices_ContainsFunc_S_impl_Ins_impl_Ins_ok (w0 : World) (s_ : List Ins_) (v1 : Value) (h1 : GT.rep (hp w0) [v1] s_) (f : Ins_ → Option Bool) (fv1 : Value) (hfn1 : ∀ (w : World) (y0 : Ins_) (z1 : Value) (_ : GT.rep (hp w) [z1] y0.args) (r : Bool), Below w0.heap.size w0 w → f y0 = some r → FnOk Try.prog fv1 [(.agg #[(.int .i64 (y0.op)), (.int .i64 (y0.to)), z1, (.int .i64 (y0.n_))])] w (fun v w' => v = (.bool (r)) ∧ Below w.heap.size w w')) (r : Bool) (hq : slices_ContainsFunc_S_impl_Ins_impl_Ins s_ f = some r) :
    Con Try.prog 120 [v1, fv1] w0 (fun v w' => v = (.bool (r)) ∧ Below w0.heap.size w0 w') := by
  unfold slices_ContainsFunc_S_impl_Ins_impl_Ins at hq
  refine con_body (l := [(0, v1), (1, fv1)]) Try.func120 rfl Try.ntmps120 (Args.get ⟨rfl, rfl, trivial⟩) rfl ?_
  intro a hf
  have hm := Mem.start w0
  refine wp_seq ?_
  refine wp_region_lit ?_
  refine st_y hf rfl rfl rfl (y_assign rfl rfl) ?_
  clear hf a; intro a hf
  refine st_end ?_
  refine x_then_n ?_
  refine wp_seq ?_
  refine wp_region_lit ?_
  refine st_y hf rfl rfl rfl (y_move rfl rfl) ?_
  clear hf a; intro a hf
  refine st_y hf rfl rfl rfl (y_move rfl rfl) ?_
  clear hf a; intro a hf
  obtain ⟨r0_1, hx0_1, hq⟩ := bnd hq
  refine st_ef hf rfl rfl rfl (e_call hf rfl Try.call148 rfl (slices_IndexFunc_S_impl_Ins_impl_Ins_ok _ s_ v1 (hm.now h1) f fv1 (fun w y0 z0_0 z0_1 r hB hq => hfn1 w y0 z0_0 z0_1 r (hm.below.trans (hB.mono hm.below.size)) hq) _ hx0_1)) ?_
  clear hf a; rintro v0_1 w0_1 a ho0_1 hf
  obtain ⟨rfl, hB⟩ := ho0_1
  replace hm := hm.below' hB; clear hB
  refine st_y hf rfl rfl rfl (y_geq rfl rfl rfl) ?_
  clear hf a; intro a hf
  refine st_y hf rfl rfl rfl (y_assign rfl rfl) ?_
  clear hf a; intro a hf
  refine st_end ?_
  refine x_then_n ?_
  refine wp_ret ?_
  obtain rfl := Option.some.inj hq
  refine ret_tmp hf Try.results120 rfl ?_
  exact ⟨rfl, hm.below⟩

theorem slices_Index_S_int_int_ok (w0 : World) (s_ : List Int) (v1 : Value) (h1 : GT.rep (hp w0) [v1] s_) (v_ : Int) (r : Int) (hq : slices_Index_S_int_int s_ v_ = some r) :
    Con Try.prog 106 [v1, (.int .i64 (v_))] w0 (fun v w' => v = (.int .i64 (r)) ∧ Below w0.heap.size w0 w') := by
  unfold slices_Index_S_int_int at hq
  refine con_body (l := [(0, v1), (1, (.int .i64 (v_)))]) Try.func106 rfl Try.ntmps106 (Args.get ⟨rfl, rfl, trivial⟩) rfl ?_
  intro a hf
  have hm := Mem.start w0
  refine wp_seq ?_
  refine wp_region_lit ?_
  refine st_y hf rfl rfl rfl (y_assign rfl rfl) ?_
  clear hf a; intro a hf
  refine st_end ?_
  refine x_then_n ?_
  refine wp_seq ?_
  refine wp_seq ?_
  refine wp_region_lit ?_
  refine st_y hf rfl rfl rfl (y_move rfl rfl) ?_
  clear hf a; intro a hf
  obtain ⟨p0_1, c0_1, he, hl0_1⟩ := ro_slice h1
  subst he
  refine st_y hf rfl rfl rfl (y_len_slice st_26.und rfl rfl) ?_
  clear hf a; intro a hf
  refine st_y hf rfl rfl rfl (y_move rfl rfl) ?_
  clear hf a; intro a hf
  refine st_end ?_
  refine x_then_n ?_
  refine wp_block ?_
  obtain ⟨r0_1, hl0_2, hq⟩ := bnd hq
  refine wp_forN _ (fun i1_1 xs1_1 a w => Fr 19 [(0, (.slice p0_1 s_.length c0_1)), (1, (.int .i64 (v_))), (7, (.int .i64 ((s_.length : Int)))), (8, (.int .i64 (i1_1)))] a ∧ Mem w0 (hp w0) w []) (0) ((s_.length : Int)) hl0_2 ?_ ?_ ?_
  ·
   exact ⟨hf.sub ⟨rfl, rfl, rfl, rfl, trivial⟩, hm.pick [] (by decide) rfl⟩
  ·
   clear hf hm
   rintro i1_1 xs1_1 a w ⟨hf, hm⟩ hi1_1 hi1_2 q0_1 hb0_1 ho0_1
   refine wp_seq ?_
   refine wp_region_lit ?_
   refine st_y hf rfl rfl rfl (y_lss rfl rfl rfl) ?_
   clear hf a; intro a hf
   refine st_end ?_
   refine x_then_n ?_
   refine wp_seq ?_
   refine cond_t hf rfl (decide_eq_true (by omega)) ?_
   refine wp_skip ?_
   refine x_then_n ?_
   refine wp_seq ?_
   refine wp_block ?_
   refine wp_seq ?_
   refine wp_region_lit ?_
   refine st_y hf rfl rfl rfl (y_move rfl rfl) ?_
   clear hf a; intro a hf
   refine st_y hf rfl rfl rfl (y_assign rfl rfl) ?_
   clear hf a; intro a hf
   refine st_end ?_
   refine x_then_n ?_
   refine wp_seq ?_
   refine wp_region_lit ?_
   refine st_y hf rfl rfl rfl (y_move rfl rfl) ?_
   clear hf a; intro a hf
   refine st_y hf rfl rfl rfl (y_move rfl rfl) ?_
   clear hf a; intro a hf
   refine st_y hf rfl rfl rfl (y_move rfl rfl) ?_
   clear hf a; intro a hf
   obtain ⟨x1_1, hx1_1, hb0_1⟩ := bnd hb0_1
   obtain ⟨h1_1, hx1_2⟩ := getI_some.1 hx1_1
   obtain ⟨b1_1, o1_1, c1_1, he⟩ := idx_form h1 hx1_2
   simp only [Value.slice.injEq, Option.some.injEq] at he; obtain ⟨rfl, _, rfl⟩ := he
   refine st_y hf rfl rfl rfl (y_indexAddr st_26 rfl rfl rfl h1_1 (idx_lt hx1_2)) ?_
   clear hf a; intro a hf
   refine st_y hf rfl rfl rfl (y_load1 Try.isAgg3 rfl rfl ((flat_cells (cs := [(.int .i64 (x1_1))]) (hm.now h1) hx1_2 rfl).cell (j := 0) rfl)) ?_
   clear hf a; intro a hf
   refine st_y hf rfl rfl rfl (y_eql rfl rfl rfl) ?_
   clear hf a; intro a hf
   refine st_end ?_
   refine x_then_n ?_
   rcases bcases (decide (v_ = x1_1)) with h1_2 | h1_2
   ·
    replace hb0_1 := (ite_t h1_2).symm.trans hb0_1
    have h1_3 := of_decide_eq_true h1_2
    refine cond_t hf rfl h1_2 ?_
    refine wp_seq ?_
    refine wp_region_lit ?_
    refine st_y hf rfl rfl rfl (y_move rfl rfl) ?_
    clear hf a; intro a hf
    refine st_y hf rfl rfl rfl (y_assign rfl rfl) ?_
    clear hf a; intro a hf
    refine st_end ?_
    refine x_then_n ?_
    refine wp_ret ?_
    refine x_blk_ret ?_
    refine x_then_ret ?_
    refine x_then_ret ?_
    refine x_blk_ret ?_
    refine x_then_ret ?_
    obtain rfl := Option.some.inj hb0_1
    obtain rfl := ho0_1 _ rfl
    replace hq := sum_r hq
    obtain rfl := Option.some.inj hq
    refine ret_tmp hf Try.results106 rfl ?_
    exact ⟨rfl, hm.below⟩
   ·
    replace hb0_1 := (ite_f h1_2).symm.trans hb0_1
    have h1_4 := of_decide_eq_false h1_2
    refine cond_f hf rfl h1_2 ?_
    refine wp_skip ?_
    refine x_blk_n ?_
    refine x_then_n ?_
    refine wp_region_lit ?_
    refine st_y hf rfl rfl rfl (y_add64 rfl rfl rfl (by omega) (by omega)) ?_
    clear hf a; intro a hf
    refine st_y hf rfl rfl rfl (y_move rfl rfl) ?_
    clear hf a; intro a hf
    refine st_end ?_
    refine x_then_n ?_
    obtain rfl := Option.some.inj hb0_1
    exact ⟨_, rfl, hf.sub ⟨rfl, rfl, rfl, rfl, trivial⟩, hm.pick [] (by decide) rfl⟩
  ·
   clear hf hm
   rintro i0_1 xs0_1 a w ⟨hf, hm⟩ hi0_1 hi0_2 rfl
   replace hq := sum_l hq
   refine wp_seq ?_
   refine wp_region_lit ?_
   refine st_y hf rfl rfl rfl (y_lss rfl rfl rfl) ?_
   clear hf a; intro a hf
   refine st_end ?_
   refine x_then_n ?_
   refine wp_seq ?_
   refine cond_f hf rfl (decide_eq_false (by omega)) ?_
   refine wp_exit ?_
   refine x_then_exit ?_
   refine x_then_exit ?_
   refine x_blk_hit ?_
   refine x_then_n ?_
   refine wp_seq ?_
   refine wp_region_lit ?_
   refine st_y hf rfl rfl rfl (y_assign rfl rfl) ?_
   clear hf a; intro a hf
   refine st_end ?_
   refine x_then_n ?_
   refine wp_ret ?_
   obtain rfl := Option.some.inj hq
   refine ret_tmp hf Try.results106 rfl ?_
   exact ⟨rfl, hm.below⟩

theorem slices_Contains_S_int_int_ok (w0 : World) (s_ : List Int) (v1 : Value) (h1 : GT.rep (hp w0) [v1] s_) (v_ : Int) (r : Bool) (hq : slices_Contains_S_int_int s_ v_ = some r) :
    Con Try.prog 138 [v1, (.int .i64 (v_))] w0 (fun v w' => v = (.bool (r)) ∧ Below w0.heap.size w0 w') := by
  unfold slices_Contains_S_int_int at hq
  refine con_body (l := [(0, v1), (1, (.int .i64 (v_)))]) Try.func138 rfl Try.ntmps138 (Args.get ⟨rfl, rfl, trivial⟩) rfl ?_
  intro a hf
  have hm := Mem.start w0
  refine wp_seq ?_
  refine wp_region_lit ?_
  refine st_y hf rfl rfl rfl (y_assign rfl rfl) ?_
  clear hf a; intro a hf
  refine st_end ?_
  refine x_then_n ?_
  refine wp_seq ?_
  refine wp_region_lit ?_
  refine st_y hf rfl rfl rfl (y_move rfl rfl) ?_
  clear hf a; intro a hf
  refine st_y hf rfl rfl rfl (y_move rfl rfl) ?_
  clear hf a; intro a hf
  obtain ⟨r0_1, hx0_1, hq⟩ := bnd hq
  refine st_ef hf rfl rfl rfl (e_call hf rfl Try.call106 rfl (slices_Index_S_int_int_ok _ s_ v1 (hm.now h1) v_ _ hx0_1)) ?_
  clear hf a; rintro v0_1 w0_1 a ho0_1 hf
  obtain ⟨rfl, hB⟩ := ho0_1
  replace hm := hm.below' hB; clear hB
  refine st_y hf rfl rfl rfl (y_geq rfl rfl rfl) ?_
  clear hf a; intro a hf
  refine st_y hf rfl rfl rfl (y_assign rfl rfl) ?_
  clear hf a; intro a hf
  refine st_end ?_
  refine x_then_n ?_
  refine wp_ret ?_
  obtain rfl := Option.some.inj hq
  refine ret_tmp hf Try.results138 rfl ?_
  exact ⟨rfl, hm.below⟩

theorem impl_PredsOf_ok (w0 : World) (c_ : Code_) (v1 : Value) (h1 : GT.rep (hp w0) [v1] c_.blocks) (b_ : Int) (r : (List Int)) (hq : impl_PredsOf c_ b_ = some r) :
    Con Try.prog 107 [(.agg #[(.int .i64 (c_.params)), (.int .i64 (c_.regs)), v1]), (.int .i64 (b_))] w0 (fun v w' => ∃ (x1 : Value), v = x1 ∧ Mem w0 (hp w0) w' [ow [x1] r]) := by
  unfold impl_PredsOf at hq
  refine con_body (l := [(0, (.agg #[(.int .i64 (c_.params)), (.int .i64 (c_.regs)), v1])), (1, (.int .i64 (b_)))]) Try.func107 rfl Try.ntmps107 (Args.get ⟨rfl, rfl, trivial⟩) rfl ?_
  intro a hf
  have hm := Mem.start w0
  refine wp_seq ?_
  refine wp_region_lit ?_
  refine st_ef hf rfl rfl rfl (e_box hf hm rfl rfl rfl) ?_
  clear hf a; rintro _ w0_1 a ⟨b0_1, rfl, hm⟩ hf
  refine st_y hf rfl rfl rfl (y_assign rfl rfl) ?_
  clear hf a; intro a hf
  refine st_end ?_
  refine x_then_n ?_
  refine wp_seq ?_
  refine wp_region_lit ?_
  refine st_y hf rfl rfl rfl (y_assign rfl rfl) ?_
  clear hf a; intro a hf
  refine st_end ?_
  refine x_then_n ?_
  refine wp_seq ?_
  refine wp_seq ?_
  refine wp_region_lit ?_
  refine st_y hf rfl rfl rfl (y_move rfl rfl) ?_
  clear hf a; intro a hf
  refine st_y hf rfl rfl rfl (y_fieldAddr fo_55_2 rfl rfl) ?_
  clear hf a; intro a hf
  refine st_y hf rfl rfl rfl (y_load1 Try.isAgg53 rfl rfl (hm.blk_cell 0 rfl rfl)) ?_
  clear hf a; intro a hf
  obtain ⟨p0_1, c0_1, he, hl0_1⟩ := ro_slice h1
  subst he
  refine st_y hf rfl rfl rfl (y_len_slice st_53.und rfl rfl) ?_
  clear hf a; intro a hf
  refine st_y hf rfl rfl rfl (y_sub64 rfl rfl rfl (by omega) (by omega)) ?_
  clear hf a; intro a hf
  obtain ⟨r0_1, hx0_1, hq⟩ := bnd hq
  refine st_ef hf rfl rfl rfl (e_call hf rfl Try.call73 rfl (impl_within_ok _ b_ 0 (((c_.blocks.length : Int)) - 1) _ hx0_1)) ?_
  clear hf a; rintro v0_1 w0_2 a ho0_1 hf
  obtain ⟨rfl, hB⟩ := ho0_1
  replace hm := hm.below' hB; clear hB
  refine st_y hf rfl rfl rfl (y_not rfl rfl) ?_
  clear hf a; intro a hf
  refine st_end ?_
  refine x_then_n ?_
  rcases bcases (!(r0_1)) with h0_1 | h0_1
  ·
   replace hq := (ite_t h0_1).symm.trans hq
   have h0_2 := bnot_t' h0_1
   refine cond_t hf rfl h0_1 ?_
   refine wp_seq ?_
   refine wp_region_lit ?_
   refine st_y hf rfl rfl rfl (y_assign rfl rfl) ?_
   clear hf a; intro a hf
   refine st_end ?_
   refine x_then_n ?_
   refine wp_ret ?_
   refine x_then_ret ?_
   obtain rfl := Option.some.inj hq
   have hm := hm.nilow (α := Int)
   refine ret_tmp hf Try.results107 rfl ?_
   exact ⟨(.slice none 0 0), rfl, hm.pick [0] (by decide) rfl⟩
  ·
   replace hq := (ite_f h0_1).symm.trans hq
   have h0_3 := bnot_f' h0_1
   refine cond_f hf rfl h0_1 ?_
   refine wp_skip ?_
   refine x_then_n ?_
   refine wp_seq ?_
   refine wp_seq ?_
   refine wp_region_lit ?_
   refine st_y hf rfl rfl rfl (y_fieldAddr fo_55_2 rfl rfl) ?_
   clear hf a; intro a hf
   refine st_y hf rfl rfl rfl (y_load1 Try.isAgg53 rfl rfl (hm.blk_cell 0 rfl rfl)) ?_
   clear hf a; intro a hf
   refine st_y hf rfl rfl rfl (y_len_slice st_53.und rfl rfl) ?_
   clear hf a; intro a hf
   refine st_y hf rfl rfl rfl (y_move rfl rfl) ?_
   clear hf a; intro a hf
   refine st_end ?_
   refine x_then_n ?_
   refine wp_block ?_
   obtain ⟨r0_2, hl0_2, hq⟩ := bnd hq
   refine wp_forN _ (fun i1_1 xs1_1 a w => ∃ (v1_1 : Value), Fr 33 [(1, (.int .i64 (b_))), (5, v1_1), (16, (.slice p0_1 c_.blocks.length c0_1)), (17, (.int .i64 ((c_.blocks.length : Int)))), (18, (.int .i64 (i1_1)))] a ∧ Mem w0 (hp w0) w [ow [v1_1] xs1_1]) (0) ((c_.blocks.length : Int)) hl0_2 ?_ ?_ ?_
   ·
    have hm := hm.nilow (α := Int)
    exact ⟨(.slice none 0 0), hf.sub ⟨rfl, rfl, rfl, rfl, rfl, trivial⟩, hm.pick [0] (by decide) rfl⟩
   ·
    clear hf hm
    rintro i1_1 xs1_1 a w ⟨v1_1, hf, hm⟩ hi1_1 hi1_2 q0_1 hb0_1 ho0_2
    refine wp_seq ?_
    refine wp_region_lit ?_
    refine st_y hf rfl rfl rfl (y_lss rfl rfl rfl) ?_
    clear hf a; intro a hf
    refine st_end ?_
    refine x_then_n ?_
    refine wp_seq ?_
    refine cond_t hf rfl (decide_eq_true (by omega)) ?_
    refine wp_skip ?_
    refine x_then_n ?_
    refine wp_seq ?_
    obtain ⟨s1_1, hq1_1, hb0_1⟩ := bnd hb0_1
    refine code_cut (K := fun a w => ∃ (v1_2 : Value), Fr 33 [(1, (.int .i64 (b_))), (5, v1_2), (16, (.slice p0_1 c_.blocks.length c0_1)), (17, (.int .i64 ((c_.blocks.length : Int)))), (18, (.int .i64 (i1_1)))] a ∧ Mem w0 (hp w0) w [ow [v1_2] s1_1]) ?_ ?_
    ·
     refine wp_block ?_
     refine wp_seq ?_
     refine wp_region_lit ?_
     refine st_y hf rfl rfl rfl (y_move rfl rfl) ?_
     clear hf a; intro a hf
     obtain ⟨x2_1, hx2_1, hq1_1⟩ := bnd hq1_1
     obtain ⟨h2_1, hx2_2⟩ := getI_some.1 hx2_1
     obtain ⟨b2_1, o2_1, c2_1, he⟩ := idx_form' h1 hx2_2
     simp only [Value.slice.injEq, Option.some.injEq] at he; obtain ⟨rfl, _, rfl⟩ := he
     obtain ⟨_, _, hc2_1, hr2_1⟩ := ro_get' h1 hx2_2
     obtain ⟨_, _, rfl, h2_2, _, _, rfl, h2_3, _, _, rfl, rfl, _, _, rfl, rfl, h2_4⟩ := hr2_1
     obtain ⟨v2_1, rfl, -⟩ := id h2_2
     replace h2_2 : GT.rep (hp w0) [v2_1] x2_1.phis := h2_2
     obtain ⟨v2_2, rfl, -⟩ := id h2_3
     replace h2_3 : GT.rep (hp w0) [v2_2] x2_1.ins := h2_3
     obtain ⟨v2_3, rfl, -⟩ := id h2_4
     replace h2_4 : GT.rep (hp w0) [v2_3] x2_1.next_ := h2_4
     replace hc2_1 : CellsAt (hp w0) b2_1 (o2_1 + (i1_1).toNat * 5) [v2_1, v2_2, (.int .i64 (x2_1.jump)), (.int .i64 (x2_1.on)), v2_3] := hc2_1
     refine st_y hf rfl rfl rfl (y_indexAddr st_53 rfl rfl rfl h2_1 (idx_lt hx2_2)) ?_
     clear hf a; intro a hf
     refine st_y hf rfl rfl rfl (y_loadN (cs := [v2_1, v2_2, (.int .i64 (x2_1.jump)), (.int .i64 (x2_1.on)), v2_3]) Try.isAgg61 Try.sizeOf61 rfl rfl (hc2_1.mono hm.lez)) ?_
     clear hf a; intro a hf
     refine st_ef hf rfl rfl rfl (e_alloc hm Try.zeroValue61 rfl rfl) ?_
     clear hf a; rintro _ w2_1 a ⟨b2_2, rfl, hm⟩ hf
     refine st_y hf rfl rfl rfl (y_assign rfl rfl) ?_
     clear hf a; intro a hf
     refine st_ef0 hf rfl rfl (e_storeN 0 hf hm rfl Try.sizeOf61 rfl rfl rfl (one_cons (rep_one h2_2) (one_cons (rep_one h2_3) (one_cons rfl (one_cons rfl (one_cons (rep_one h2_4) one_nil))))) rfl rfl) ?_
     clear hf a; rintro _ w2_2 a hm hf
     refine st_end ?_
     refine x_then_n ?_
     refine wp_seq ?_
     refine wp_region_lit ?_
     refine st_y hf rfl rfl rfl (y_fieldAddr fo_61_4 rfl rfl) ?_
     clear hf a; intro a hf
     refine st_y hf rfl rfl rfl (y_load1 Try.isAgg26 rfl rfl (hm.blk_cell 0 rfl rfl)) ?_
     clear hf a; intro a hf
     refine st_y hf rfl rfl rfl (y_move rfl rfl) ?_
     clear hf a; intro a hf
     obtain ⟨r2_1, hx2_3, hq1_1⟩ := bnd hq1_1
     refine st_ef hf rfl rfl rfl (e_call hf rfl Try.call138 rfl (slices_Contains_S_int_int_ok _ x2_1.next_ v2_3 (hm.now h2_4) b_ _ hx2_3)) ?_
     clear hf a; rintro v2_4 w2_3 a ho2_1 hf
     obtain ⟨rfl, hB⟩ := ho2_1
     replace hm := hm.below' hB; clear hB
     refine st_end ?_
     refine x_then_n ?_
     obtain ⟨s2_1, hq2_1, hq1_1⟩ := bnd hq1_1
     refine code_cut (K := fun a w => ∃ (v2_5 : Value), Fr 33 [(1, (.int .i64 (b_))), (5, v2_5), (16, (.slice (some ⟨b2_1, o2_1, none⟩) c_.blocks.length c0_1)), (17, (.int .i64 ((c_.blocks.length : Int)))), (18, (.int .i64 (i1_1)))] a ∧ Mem w0 (hp w0) w [ow [v2_5] s2_1]) ?_ ?_
     ·
      rcases bcases (r2_1) with h3_1 | h3_1
      ·
       replace hq2_1 := (ite_t h3_1).symm.trans hq2_1
       refine cond_t hf rfl h3_1 ?_
       refine wp_region_lit ?_
       refine st_y hf rfl rfl rfl (y_move rfl rfl) ?_
       clear hf a; intro a hf
       refine st_y hf rfl rfl rfl (y_move rfl rfl) ?_
       clear hf a; intro a hf
       refine st_ef hf rfl rfl rfl (e_build (vs := #[(0, (.int .i64 (i1_1)))]) (cs := [(.int .i64 (i1_1))]) et_26 hf hm rfl rfl (by kernel_rfl) rfl rfl) ?_
       clear hf a; rintro _ w3_1 a ⟨b3_1, rfl, hm⟩ hf
       replace hm := hm.lit (xs := ([i1_1] : List Int)) 0 rfl rfl rfl rfl
       obtain ⟨ys3_1, hx3_1, hq2_1⟩ := bnd hq2_1
       obtain ⟨h3_2, h3_2e⟩ := appM_some.1 hx3_1
       refine st_ef hf rfl rfl rfl (e_append 2 et_26 hf hm rfl (hm.ow_rep 0 rfl) rfl rfl rfl h3_2) ?_
       clear hf a; rintro v3_1 w3_2 a hm hf
       rw [h3_2e] at hm
       refine st_y hf rfl rfl rfl (y_assign rfl rfl) ?_
       clear hf a; intro a hf
       refine st_end ?_
       refine x_then_n ?_
       obtain rfl := Option.some.inj hq2_1
       exact ⟨v3_1, hf.sub ⟨rfl, rfl, rfl, rfl, rfl, trivial⟩, hm.pick [2] (by decide) rfl⟩
      ·
       replace hq2_1 := (ite_f h3_1).symm.trans hq2_1
       refine cond_f hf rfl h3_1 ?_
       refine wp_skip ?_
       refine x_then_n ?_
       obtain rfl := Option.some.inj hq2_1
       exact ⟨v1_1, hf.sub ⟨rfl, rfl, rfl, rfl, rfl, trivial⟩, hm.pick [1] (by decide) rfl⟩
     ·
      clear hf hm
      rintro a w ⟨v2_5, hf, hm⟩
      refine x_blk_n ?_
      refine x_then_n ?_
      obtain rfl := Option.some.inj hq1_1
      exact ⟨v2_5, hf.sub ⟨rfl, rfl, rfl, rfl, rfl, trivial⟩, hm.pick [0] (by decide) rfl⟩
    ·
     clear hf hm
     rintro a w ⟨v1_2, hf, hm⟩
     refine x_then_n ?_
     refine wp_region_lit ?_
     refine st_y hf rfl rfl rfl (y_add64 rfl rfl rfl (by omega) (by omega)) ?_
     clear hf a; intro a hf
     refine st_y hf rfl rfl rfl (y_move rfl rfl) ?_
     clear hf a; intro a hf
     refine st_end ?_
     refine x_then_n ?_
     obtain rfl := Option.some.inj hb0_1
     exact ⟨_, rfl, v1_2, hf.sub ⟨rfl, rfl, rfl, rfl, rfl, trivial⟩, hm.pick [0] (by decide) rfl⟩
   ·
    clear hf hm
    rintro i0_1 xs0_1 a w ⟨v0_2, hf, hm⟩ hi0_1 hi0_2 rfl
    replace hq := sum_l hq
    refine wp_seq ?_
    refine wp_region_lit ?_
    refine st_y hf rfl rfl rfl (y_lss rfl rfl rfl) ?_
    clear hf a; intro a hf
    refine st_end ?_
    refine x_then_n ?_
    refine wp_seq ?_
    refine cond_f hf rfl (decide_eq_false (by omega)) ?_
    refine wp_exit ?_
    refine x_then_exit ?_
    refine x_then_exit ?_
    refine x_blk_hit ?_
    refine x_then_n ?_
    refine wp_seq ?_
    refine wp_region_lit ?_
    refine st_y hf rfl rfl rfl (y_move rfl rfl) ?_
    clear hf a; intro a hf
    refine st_y hf rfl rfl rfl (y_assign rfl rfl) ?_
    clear hf a; intro a hf
    refine st_end ?_
    refine x_then_n ?_
    refine wp_ret ?_
    obtain rfl := Option.some.inj hq
    refine ret_tmp hf Try.results107 rfl ?_
    exact ⟨v0_2, rfl, hm.pick [0] (by decide) rfl⟩

theorem impl_codeOk_4_ok (w0 : World) (r_ : Int) (c0_0_ : Code_) (v1 : Value) (h1 : GT.rep (hp w0) [v1] c0_0_.blocks) (bf0_0 : Nat) (hbf0_0 : w0.heap[bf0_0]? = some (.cells ([(.int .i64 (c0_0_.params)), (.int .i64 (c0_0_.regs)), v1] : List Value).toArray 55 (0, 0))) (bf0 : Nat) (hbf0 : w0.heap[bf0]? = some (.cells ([(.func (.func 116) #[] #[(.pointer (some ⟨bf0_0, 0, none⟩))])] : List Value).toArray 84 (0, 0))) (r : Bool) (hq : impl_codeOk_4 r_ c0_0_ = some r) :
    Con Try.prog 123 [(.int .i64 (r_)), (.pointer (some ⟨bf0, 0, none⟩))] w0 (fun v w' => v = (.bool (r)) ∧ Below w0.heap.size w0 w') := by
  unfold impl_codeOk_4 at hq
  refine con_body (l := [(0, (.int .i64 (r_))), (1, (.pointer (some ⟨bf0, 0, none⟩)))]) Try.func123 rfl Try.ntmps123 (Args.get ⟨rfl, rfl, trivial⟩) rfl ?_
  intro a hf
  have hm := Mem.start w0
  refine wp_seq ?_
  refine wp_region_lit ?_
  refine st_y hf rfl rfl rfl (y_assign rfl rfl) ?_
  clear hf a; intro a hf
  refine st_end ?_
  refine x_then_n ?_
  refine wp_seq ?_
  refine wp_region_lit ?_
  refine st_y hf rfl rfl rfl (y_load1 Try.isAgg84 rfl rfl (hm.old_cell hbf0 rfl)) ?_
  clear hf a; intro a hf
  refine st_y hf rfl rfl rfl (y_move rfl rfl) ?_
  clear hf a; intro a hf
  obtain ⟨r0_1, hx0_1, hq⟩ := bnd hq
  refine st_ef hf rfl rfl rfl (e_callv hf rfl rfl rfl ⟨116, [(.pointer (some ⟨bf0_0, 0, none⟩))], rfl, Try.call116, impl_codeOk_1_ok _ r_ c0_0_ v1 (rep_later (hm.now h1) (Below.refl _ _)) bf0_0 (hm.old_later hbf0_0 (Below.refl _ _)) _ hx0_1⟩) ?_
  clear hf a; rintro v0_1 w0_1 a ho0_1 hf
  obtain ⟨rfl, hB⟩ := ho0_1
  replace hm := hm.below' hB; clear hB
  refine st_y hf rfl rfl rfl (y_not rfl rfl) ?_
  clear hf a; intro a hf
  refine st_y hf rfl rfl rfl (y_assign rfl rfl) ?_
  clear hf a; intro a hf
  refine st_end ?_
  refine x_then_n ?_
  refine wp_ret ?_
  obtain rfl := Option.some.inj hq
  refine ret_tmp hf Try.results123 rfl ?_
  exact ⟨rfl, hm.below⟩

theorem impl_codeOk_ok (w0 : World) (u : Unit_) (v1 : Value) (h1 : GT.rep (hp w0) [v1] u.codes) (k_ : Int) (r : Bool) (hq : impl_codeOk u k_ = some r) :
    Con Try.prog 89 [(.agg #[v1]), (.int .i64 (k_))] w0 (fun v w' => v = (.bool (r)) ∧ Below w0.heap.size w0 w') := by
  unfold impl_codeOk at hq
  refine con_body (l := [(0, (.agg #[v1])), (1, (.int .i64 (k_)))]) Try.func89 rfl Try.ntmps89 (Args.get ⟨rfl, rfl, trivial⟩) rfl ?_
  intro a hf
  have hm := Mem.start w0
  refine wp_seq ?_
  refine wp_region_lit ?_
  refine st_ef hf rfl rfl rfl (e_box hf hm rfl rfl rfl) ?_
  clear hf a; rintro _ w0_1 a ⟨b0_1, rfl, hm⟩ hf
  refine st_ef hf rfl rfl rfl (e_box hf hm rfl rfl rfl) ?_
  clear hf a; rintro _ w0_2 a ⟨b0_2, rfl, hm⟩ hf
  refine st_y hf rfl rfl rfl (y_assign rfl rfl) ?_
  clear hf a; intro a hf
  refine st_end ?_
  refine x_then_n ?_
  refine wp_seq ?_
  refine wp_region_lit ?_
  refine st_y hf rfl rfl rfl (y_fieldAddr fo_40_0 rfl rfl) ?_
  clear hf a; intro a hf
  refine st_y hf rfl rfl rfl (y_load1 Try.isAgg38 rfl rfl (hm.blk_cell 1 rfl rfl)) ?_
  clear hf a; intro a hf
  refine st_y hf rfl rfl rfl (y_load1 Try.isAgg3 rfl rfl (hm.blk_cell 0 rfl rfl)) ?_
  clear hf a; intro a hf
  obtain ⟨x0_1, hx0_1, hq⟩ := bnd hq
  obtain ⟨h0_1, hx0_2⟩ := getI_some.1 hx0_1
  obtain ⟨b0_3, o0_1, c0_1, he⟩ := idx_form' h1 hx0_2
  subst he
  obtain ⟨_, _, hc0_1, hr0_1⟩ := ro_get' h1 hx0_2
  obtain ⟨_, _, rfl, rfl, _, _, rfl, rfl, h0_2⟩ := hr0_1
  obtain ⟨v0_1, rfl, -⟩ := id h0_2
  replace h0_2 : GT.rep (hp w0) [v0_1] x0_1.blocks := h0_2
  replace hc0_1 : CellsAt (hp w0) b0_3 (o0_1 + (k_).toNat * 3) [(.int .i64 (x0_1.params)), (.int .i64 (x0_1.regs)), v0_1] := hc0_1
  refine st_y hf rfl rfl rfl (y_indexAddr st_38 rfl rfl rfl h0_1 (idx_lt hx0_2)) ?_
  clear hf a; intro a hf
  refine st_y hf rfl rfl rfl (y_loadN (cs := [(.int .i64 (x0_1.params)), (.int .i64 (x0_1.regs)), v0_1]) Try.isAgg55 Try.sizeOf55 rfl rfl (hc0_1.mono hm.lez)) ?_
  clear hf a; intro a hf
  refine st_ef hf rfl rfl rfl (e_alloc hm Try.zeroValue55 rfl rfl) ?_
  clear hf a; rintro _ w0_3 a ⟨b0_4, rfl, hm⟩ hf
  refine st_ef0 hf rfl rfl (e_storeN 0 hf hm rfl Try.sizeOf55 rfl rfl rfl (one_cons rfl (one_cons rfl (one_cons (rep_one h0_2) one_nil))) rfl rfl) ?_
  clear hf a; rintro _ w0_4 a hm hf
  refine st_end ?_
  refine x_then_n ?_
  refine wp_seq ?_
  refine wp_seq ?_
  obtain ⟨s0_1, hq0_1, hq⟩ := bnd hq
  refine code_cut (K := fun a w => Fr 121 [(2, (.pointer (some ⟨b0_1, 0, none⟩))), (3, (.pointer (some ⟨b0_2, 0, none⟩))), (5, (.pointer (some ⟨b0_4, 0, none⟩))), (36, (.bool (s0_1)))] a ∧ Mem w0 (hp w0) w [blk b0_1 [(.slice (some ⟨b0_3, o0_1, none⟩) u.codes.length c0_1)] 40, blk b0_2 [(.int .i64 (k_))] 3, blk b0_4 [(.int .i64 (x0_1.params)), (.int .i64 (x0_1.regs)), v0_1] 55]) ?_ ?_
  ·
   refine wp_region_lit ?_
   refine st_y hf rfl rfl rfl (y_fieldAddr fo_55_1 rfl rfl) ?_
   clear hf a; intro a hf
   refine st_y hf rfl rfl rfl (y_load1 Try.isAgg3 rfl rfl (hm.blk_cell 0 rfl rfl)) ?_
   clear hf a; intro a hf
   obtain ⟨r1_1, hx1_1, hq0_1⟩ := bnd hq0_1
   refine st_ef hf rfl rfl rfl (e_call hf rfl Try.call73 rfl (impl_within_ok _ x0_1.regs 0 300 _ hx1_1)) ?_
   clear hf a; rintro v1_1 w1_1 a ho1_1 hf
   obtain ⟨rfl, hB⟩ := ho1_1
   replace hm := hm.below' hB; clear hB
   refine st_y hf rfl rfl rfl (y_not rfl rfl) ?_
   clear hf a; intro a hf
   refine st_y hf rfl rfl rfl (y_move rfl rfl) ?_
   clear hf a; intro a hf
   rcases bcases (!(r1_1)) with h1_1 | h1_1
   ·
    replace hq0_1 := (ite_t h1_1).symm.trans hq0_1
    have h1_2 := bnot_t' h1_1
    refine st_no hf rfl rfl (lk_b rfl h1_1) rfl rfl rfl ?_
    clear hf a; intro a hf
    refine st_no hf rfl rfl (lk_b rfl h1_1) rfl rfl rfl ?_
    clear hf a; intro a hf
    refine st_no hf rfl rfl (lk_b rfl h1_1) rfl rfl rfl ?_
    clear hf a; intro a hf
    refine st_no hf rfl rfl (lk_b rfl h1_1) rfl rfl rfl ?_
    clear hf a; intro a hf
    refine st_no hf rfl rfl (lk_b rfl h1_1) rfl rfl rfl ?_
    clear hf a; intro a hf
    refine st_no hf rfl rfl (lk_b rfl h1_1) rfl rfl rfl ?_
    clear hf a; intro a hf
    refine st_no hf rfl rfl (lk_b rfl h1_1) rfl rfl rfl ?_
    clear hf a; intro a hf
    refine st_y hf rfl rfl rfl (y_pick_t rfl (ev_b rfl h1_1) rfl) ?_
    clear hf a; intro a hf
    refine st_y hf rfl rfl rfl (y_move rfl rfl) ?_
    clear hf a; intro a hf
    refine st_no hf rfl rfl (lk_b rfl rfl) rfl rfl rfl ?_
    clear hf a; intro a hf
    refine st_no hf rfl rfl (lk_b rfl rfl) rfl rfl rfl ?_
    clear hf a; intro a hf
    refine st_no hf rfl rfl (lk_b rfl rfl) rfl rfl rfl ?_
    clear hf a; intro a hf
    refine st_no hf rfl rfl (lk_b rfl rfl) rfl rfl rfl ?_
    clear hf a; intro a hf
    refine st_no hf rfl rfl (lk_b rfl rfl) rfl rfl rfl ?_
    clear hf a; intro a hf
    refine st_y hf rfl rfl rfl (y_pick_t rfl (ev_b rfl rfl) rfl) ?_
    clear hf a; intro a hf
    refine st_end ?_
    refine x_then_n ?_
    obtain rfl := Option.some.inj hq0_1
    exact ⟨hf.sub ⟨rfl, rfl, rfl, rfl, trivial⟩, hm.pick [2, 1, 0] (by decide) rfl⟩
   ·
    replace hq0_1 := (ite_f h1_1).symm.trans hq0_1
    have h1_3 := bnot_f' h1_1
    refine st_yg hf rfl rfl (lk_b rfl h1_1) rfl rfl (y_fieldAddr fo_55_0 rfl rfl) ?_
    clear hf a; intro a hf
    refine st_yg hf rfl rfl (lk_b rfl h1_1) rfl rfl (y_load1 Try.isAgg3 rfl rfl (hm.blk_cell 0 rfl rfl)) ?_
    clear hf a; intro a hf
    refine st_yg hf rfl rfl (lk_b rfl h1_1) rfl rfl (y_fieldAddr fo_55_1 rfl rfl) ?_
    clear hf a; intro a hf
    refine st_yg hf rfl rfl (lk_b rfl h1_1) rfl rfl (y_load1 Try.isAgg3 rfl rfl (hm.blk_cell 0 rfl rfl)) ?_
    clear hf a; intro a hf
    refine st_yg hf rfl rfl (lk_b rfl h1_1) rfl rfl (y_min rfl rfl rfl) ?_
    clear hf a; intro a hf
    have h1_4 : minI 3 x0_1.regs = min 3 x0_1.regs := minI_eq _ _
    obtain ⟨r1_2, hx1_2, hq0_1⟩ := bnd hq0_1
    refine st_efg hf rfl rfl (lk_b rfl h1_1) rfl rfl (e_call hf rfl Try.call73 rfl (impl_within_ok _ x0_1.params 0 (minI 3 x0_1.regs) _ hx1_2)) ?_
    clear hf a; rintro v1_2 w1_2 a ho1_2 hf
    obtain ⟨rfl, hB⟩ := ho1_2
    replace hm := hm.below' hB; clear hB
    refine st_yg hf rfl rfl (lk_b rfl h1_1) rfl rfl (y_not rfl rfl) ?_
    clear hf a; intro a hf
    refine st_y hf rfl rfl rfl (y_pick_f rfl (ev_b rfl h1_1) rfl) ?_
    clear hf a; intro a hf
    refine st_y hf rfl rfl rfl (y_move rfl rfl) ?_
    clear hf a; intro a hf
    rcases bcases (!(r1_2)) with h1_5 | h1_5
    ·
     replace hq0_1 := (ite_t h1_5).symm.trans hq0_1
     have h1_6 := bnot_t' h1_5
     refine st_no hf rfl rfl (lk_b rfl h1_5) rfl rfl rfl ?_
     clear hf a; intro a hf
     refine st_no hf rfl rfl (lk_b rfl h1_5) rfl rfl rfl ?_
     clear hf a; intro a hf
     refine st_no hf rfl rfl (lk_b rfl h1_5) rfl rfl rfl ?_
     clear hf a; intro a hf
     refine st_no hf rfl rfl (lk_b rfl h1_5) rfl rfl rfl ?_
     clear hf a; intro a hf
     refine st_no hf rfl rfl (lk_b rfl h1_5) rfl rfl rfl ?_
     clear hf a; intro a hf
     refine st_y hf rfl rfl rfl (y_pick_t rfl (ev_b rfl h1_5) rfl) ?_
     clear hf a; intro a hf
     refine st_end ?_
     refine x_then_n ?_
     obtain rfl := Option.some.inj hq0_1
     exact ⟨hf.sub ⟨rfl, rfl, rfl, rfl, trivial⟩, hm.pick [2, 1, 0] (by decide) rfl⟩
    ·
     replace hq0_1 := (ite_f h1_5).symm.trans hq0_1
     have h1_7 := bnot_f' h1_5
     refine st_yg hf rfl rfl (lk_b rfl h1_5) rfl rfl (y_fieldAddr fo_55_2 rfl rfl) ?_
     clear hf a; intro a hf
     refine st_yg hf rfl rfl (lk_b rfl h1_5) rfl rfl (y_load1 Try.isAgg53 rfl rfl (hm.blk_cell 0 rfl rfl)) ?_
     clear hf a; intro a hf
     obtain ⟨p1_1, c1_1, he, hl1_1⟩ := ro_slice h0_2
     subst he
     refine st_yg hf rfl rfl (lk_b rfl h1_5) rfl rfl (y_len_slice st_53.und rfl rfl) ?_
     clear hf a; intro a hf
     obtain ⟨r1_3, hx1_3, hq0_1⟩ := bnd hq0_1
     refine st_efg hf rfl rfl (lk_b rfl h1_5) rfl rfl (e_call hf rfl Try.call73 rfl (impl_within_ok _ (x0_1.blocks.length : Int) 1 160 _ hx1_3)) ?_
     clear hf a; rintro v1_3 w1_3 a ho1_3 hf
     obtain ⟨rfl, hB⟩ := ho1_3
     replace hm := hm.below' hB; clear hB
     refine st_yg hf rfl rfl (lk_b rfl h1_5) rfl rfl (y_not rfl rfl) ?_
     clear hf a; intro a hf
     refine st_y hf rfl rfl rfl (y_pick_f rfl (ev_b rfl h1_5) rfl) ?_
     clear hf a; intro a hf
     refine st_end ?_
     refine x_then_n ?_
     obtain rfl := Option.some.inj hq0_1
     exact ⟨hf.sub ⟨rfl, rfl, rfl, rfl, trivial⟩, hm.pick [2, 1, 0] (by decide) rfl⟩
  ·
   clear hf hm
   rintro a w ⟨hf, hm⟩
   refine x_then_n ?_
   rcases bcases (s0_1) with h0_3 | h0_3
   ·
    replace hq := (ite_t h0_3).symm.trans hq
    refine cond_t hf rfl h0_3 ?_
    refine wp_seq ?_
    refine wp_region_lit ?_
    refine st_y hf rfl rfl rfl (y_assign rfl rfl) ?_
    clear hf a; intro a hf
    refine st_end ?_
    refine x_then_n ?_
    refine wp_ret ?_
    refine x_then_ret ?_
    obtain rfl := Option.some.inj hq
    refine ret_tmp hf Try.results89 rfl ?_
    exact ⟨rfl, hm.below⟩
   ·
    replace hq := (ite_f h0_3).symm.trans hq
    refine cond_f hf rfl h0_3 ?_
    refine wp_skip ?_
    refine x_then_n ?_
    refine wp_seq ?_
    refine wp_region_lit ?_
    refine st_y hf rfl rfl rfl (y_makeFunc rfl rfl) ?_
    clear hf a; intro a hf
    refine st_ef hf rfl rfl rfl (e_alloc hm Try.zeroValue84 rfl rfl) ?_
    clear hf a; rintro _ w0_5 a ⟨b0_5, rfl, hm⟩ hf
    refine st_ef0 hf rfl rfl (e_store1 0 hf hm rfl Try.sizeOf84 rfl rfl rfl rfl rfl) ?_
    clear hf a; rintro _ w0_6 a hm hf
    refine st_end ?_
    refine x_then_n ?_
    refine wp_seq ?_
    refine wp_seq ?_
    refine wp_region_lit ?_
    refine st_y hf rfl rfl rfl (y_fieldAddr fo_55_2 rfl rfl) ?_
    clear hf a; intro a hf
    refine st_y hf rfl rfl rfl (y_load1 Try.isAgg53 rfl rfl (hm.blk_cell 3 rfl rfl)) ?_
    clear hf a; intro a hf
    obtain ⟨p0_1, c0_2, he, hl0_1⟩ := ro_slice h0_2
    subst he
    refine st_y hf rfl rfl rfl (y_len_slice st_53.und rfl rfl) ?_
    clear hf a; intro a hf
    refine st_y hf rfl rfl rfl (y_move rfl rfl) ?_
    clear hf a; intro a hf
    refine st_end ?_
    refine x_then_n ?_
    refine wp_block ?_
    obtain ⟨r0_1, hl0_2, hq⟩ := bnd hq
    refine wp_forN _ (fun i1_1 xs1_1 a w => Fr 121 [(2, (.pointer (some ⟨b0_1, 0, none⟩))), (3, (.pointer (some ⟨b0_2, 0, none⟩))), (5, (.pointer (some ⟨b0_4, 0, none⟩))), (6, (.pointer (some ⟨b0_5, 0, none⟩))), (39, (.slice p0_1 x0_1.blocks.length c0_2)), (40, (.int .i64 ((x0_1.blocks.length : Int)))), (41, (.int .i64 (i1_1)))] a ∧ Mem w0 (hp w0) w [blk b0_1 [(.slice (some ⟨b0_3, o0_1, none⟩) u.codes.length c0_1)] 40, blk b0_2 [(.int .i64 (k_))] 3, blk b0_4 [(.int .i64 (x0_1.params)), (.int .i64 (x0_1.regs)), (.slice p0_1 x0_1.blocks.length c0_2)] 55, blk b0_5 [(.func (.func 116) #[] #[(.pointer (some ⟨b0_4, 0, none⟩))])] 84]) (0) ((x0_1.blocks.length : Int)) hl0_2 ?_ ?_ ?_
    ·
     exact ⟨hf.sub ⟨rfl, rfl, rfl, rfl, rfl, rfl, rfl, trivial⟩, hm.pick [1, 2, 3, 0] (by decide) rfl⟩
    ·
     clear hf hm
     rintro i1_1 xs1_1 a w ⟨hf, hm⟩ hi1_1 hi1_2 q0_1 hb0_1 ho0_1
     refine wp_seq ?_
     refine wp_region_lit ?_
     refine st_y hf rfl rfl rfl (y_lss rfl rfl rfl) ?_
     clear hf a; intro a hf
     refine st_end ?_
     refine x_then_n ?_
     refine wp_seq ?_
     refine cond_t hf rfl (decide_eq_true (by omega)) ?_
     refine wp_skip ?_
     refine x_then_n ?_
     refine wp_seq ?_
     refine wp_block ?_
     refine wp_seq ?_
     refine wp_region_lit ?_
     refine st_y hf rfl rfl rfl (y_move rfl rfl) ?_
     clear hf a; intro a hf
     obtain ⟨x1_1, hx1_4, hb0_1⟩ := bnd hb0_1
     obtain ⟨h1_8, hx1_5⟩ := getI_some.1 hx1_4
     obtain ⟨b1_1, o1_1, c1_2, he⟩ := idx_form' h0_2 hx1_5
     simp only [Value.slice.injEq, Option.some.injEq] at he; obtain ⟨rfl, _, rfl⟩ := he
     obtain ⟨_, _, hc1_1, hr1_1⟩ := ro_get' h0_2 hx1_5
     obtain ⟨_, _, rfl, h1_9, _, _, rfl, h1_10, _, _, rfl, rfl, _, _, rfl, rfl, h1_11⟩ := hr1_1
     obtain ⟨v1_4, rfl, -⟩ := id h1_9
     replace h1_9 : GT.rep (hp w0) [v1_4] x1_1.phis := h1_9
     obtain ⟨v1_5, rfl, -⟩ := id h1_10
     replace h1_10 : GT.rep (hp w0) [v1_5] x1_1.ins := h1_10
     obtain ⟨v1_6, rfl, -⟩ := id h1_11
     replace h1_11 : GT.rep (hp w0) [v1_6] x1_1.next_ := h1_11
     replace hc1_1 : CellsAt (hp w0) b1_1 (o1_1 + (i1_1).toNat * 5) [v1_4, v1_5, (.int .i64 (x1_1.jump)), (.int .i64 (x1_1.on)), v1_6] := hc1_1
     refine st_y hf rfl rfl rfl (y_indexAddr st_53 rfl rfl rfl h1_8 (idx_lt hx1_5)) ?_
     clear hf a; intro a hf
     refine st_y hf rfl rfl rfl (y_loadN (cs := [v1_4, v1_5, (.int .i64 (x1_1.jump)), (.int .i64 (x1_1.on)), v1_6]) Try.isAgg61 Try.sizeOf61 rfl rfl (hc1_1.mono hm.lez)) ?_
     clear hf a; intro a hf
     refine st_ef hf rfl rfl rfl (e_alloc hm Try.zeroValue61 rfl rfl) ?_
     clear hf a; rintro _ w1_4 a ⟨b1_2, rfl, hm⟩ hf
     refine st_y hf rfl rfl rfl (y_assign rfl rfl) ?_
     clear hf a; intro a hf
     refine st_ef0 hf rfl rfl (e_storeN 0 hf hm rfl Try.sizeOf61 rfl rfl rfl (one_cons (rep_one h1_9) (one_cons (rep_one h1_10) (one_cons rfl (one_cons rfl (one_cons (rep_one h1_11) one_nil))))) rfl rfl) ?_
     clear hf a; rintro _ w1_5 a hm hf
     refine st_end ?_
     refine x_then_n ?_
     refine wp_seq ?_
     refine wp_seq ?_
     obtain ⟨s1_1, hq1_1, hb0_1⟩ := bnd hb0_1
     refine code_cut (K := fun a w => Fr 121 [(2, (.pointer (some ⟨b0_1, 0, none⟩))), (3, (.pointer (some ⟨b0_2, 0, none⟩))), (5, (.pointer (some ⟨b0_4, 0, none⟩))), (6, (.pointer (some ⟨b0_5, 0, none⟩))), (7, (.int .i64 (i1_1))), (8, (.pointer (some ⟨b1_2, 0, none⟩))), (39, (.slice (some ⟨b1_1, o1_1, none⟩) x0_1.blocks.length c0_2)), (40, (.int .i64 ((x0_1.blocks.length : Int)))), (41, (.int .i64 (i1_1))), (75, (.bool (s1_1)))] a ∧ Mem w0 (hp w0) w [blk b0_1 [(.slice (some ⟨b0_3, o0_1, none⟩) u.codes.length c0_1)] 40, blk b0_2 [(.int .i64 (k_))] 3, blk b0_4 [(.int .i64 (x0_1.params)), (.int .i64 (x0_1.regs)), (.slice (some ⟨b1_1, o1_1, none⟩) x0_1.blocks.length c0_2)] 55, blk b0_5 [(.func (.func 116) #[] #[(.pointer (some ⟨b0_4, 0, none⟩))])] 84, blk b1_2 [v1_4, v1_5, (.int .i64 (x1_1.jump)), (.int .i64 (x1_1.on)), v1_6] 61]) ?_ ?_
     ·
      refine wp_tree (.p 0 (.p 3 (.q 1 (.p 2 (.e 4 (.e 5 (.p 6 (.p 7 (.p 8 (.e 9 (.e 10 (.p 11 (.p 13 (.q 12 (.e 14 (.e 15 (.p 16 (.p 17 (.p 18 (.p 19 (.p 20 (.e 21 (.e 22 (.p 23 (.p 24 (.p 25 (.e 26 (.p 27 (.p 28 (.p 29 .fin))) .nil)))) .nil) .nil)))))) .nil) .nil)))) .nil) .nil)))) .nil) .nil))))) [4, 5, 14] [0, 2, 3, 6, 7, 8, 11, 13, 16, 17, 18, 19, 20, 23, 24, 25, 27, 28, 29] (fun w => Mem w0 (hp w0) w [blk b1_2 [v1_4, v1_5, (.int .i64 (x1_1.jump)), (.int .i64 (x1_1.on)), v1_6] 61, blk b0_1 [(.slice (some ⟨b0_3, o0_1, none⟩) u.codes.length c0_1)] 40, blk b0_2 [(.int .i64 (k_))] 3, blk b0_4 [(.int .i64 (x0_1.params)), (.int .i64 (x0_1.regs)), (.slice (some ⟨b1_1, o1_1, none⟩) x0_1.blocks.length c0_2)] 55, blk b0_5 [(.func (.func 116) #[] #[(.pointer (some ⟨b0_4, 0, none⟩))])] 84]) (by kernel_rfl) (by kernel_rfl) (fun _ _ _ h => h.2) ?_
      replace hm := hm.drew
      have hS : Mem w0 (hp w0) _ [blk b1_2 [v1_4, v1_5, (.int .i64 (x1_1.jump)), (.int .i64 (x1_1.on)), v1_6] 61, blk b0_1 [(.slice (some ⟨b0_3, o0_1, none⟩) u.codes.length c0_1)] 40, blk b0_2 [(.int .i64 (k_))] 3, blk b0_4 [(.int .i64 (x0_1.params)), (.int .i64 (x0_1.regs)), (.slice (some ⟨b1_1, o1_1, none⟩) x0_1.blocks.length c0_2)] 55, blk b0_5 [(.func (.func 116) #[] #[(.pointer (some ⟨b0_4, 0, none⟩))])] 84] := hm.pick [0, 1, 2, 3, 4] (by decide) rfl
      refine td_p hf rfl rfl rfl rfl (fun w => y_fieldAddr fo_61_4 rfl rfl) ?_
      clear hf a; intro a hf
      refine td_p hf rfl rfl rfl rfl (fun w => y_fieldAddr fo_61_2 rfl rfl) ?_
      clear hf a; intro a hf
      refine td_y hf rfl rfl rfl rfl hS (fun w hm => y_load1 Try.isAgg26 rfl rfl (hm.blk_cell 0 rfl rfl)) ?_
      clear hf a; intro a hf
      obtain ⟨p2_1, c2_1, he, hl2_1⟩ := ro_slice h1_11
      subst he
      refine td_p hf rfl rfl rfl rfl (fun w => y_len_slice st_26.und rfl rfl) ?_
      clear hf a; intro a hf
      refine te_one ?_
      refine td_ef hf rfl rfl rfl rfl (ef_y hf (y_load1 Try.isAgg3 rfl rfl (hm.blk_cell 0 rfl rfl))) ?_
      clear hf a; rintro _ _ a ⟨rfl, rfl⟩ hf
      refine ⟨fun _ => hS, ?_⟩
      refine te_one ?_
      obtain ⟨r2_1, hx2_1, hq1_1⟩ := bnd hq1_1
      refine td_ef hf rfl rfl rfl rfl (e_call hf rfl Try.call117 rfl (impl_nextCount_ok _ x1_1.jump _ hx2_1)) ?_
      clear hf a; rintro v2_1 w2_1 a ho2_1 hf
      obtain ⟨rfl, hB⟩ := ho2_1
      replace hm := hm.below' hB; clear hB
      clear hS
      have hS : Mem w0 (hp w0) _ [blk b1_2 [v1_4, v1_5, (.int .i64 (x1_1.jump)), (.int .i64 (x1_1.on)), (.slice p2_1 x1_1.next_.length c2_1)] 61, blk b0_1 [(.slice (some ⟨b0_3, o0_1, none⟩) u.codes.length c0_1)] 40, blk b0_2 [(.int .i64 (k_))] 3, blk b0_4 [(.int .i64 (x0_1.params)), (.int .i64 (x0_1.regs)), (.slice (some ⟨b1_1, o1_1, none⟩) x0_1.blocks.length c0_2)] 55, blk b0_5 [(.func (.func 116) #[] #[(.pointer (some ⟨b0_4, 0, none⟩))])] 84] := hm.pick [0, 1, 2, 3, 4] (by decide) rfl
      refine ⟨fun _ => hS, ?_⟩
      refine td_p hf rfl rfl rfl rfl (fun w => y_neq rfl rfl rfl) ?_
      clear hf a; intro a hf
      refine td_p hf rfl rfl rfl rfl (fun w => y_move rfl rfl) ?_
      clear hf a; intro a hf
      rcases bcases (decide (((x1_1.next_.length : Int)) ≠ r2_1)) with h2_1 | h2_1
      ·
       replace hq1_1 := (ite_t h2_1).symm.trans hq1_1
       have h2_2 := of_decide_eq_true h2_1
       refine td_pno hf rfl rfl rfl (lk_b rfl h2_1) rfl rfl rfl ?_
       clear hf a; intro a hf
       refine te_one ?_
       refine td_no' hf rfl rfl rfl (lk_b rfl h2_1) rfl rfl rfl ?_
       clear hf a; intro a hf
       refine ⟨fun h => absurd h (by decide), ?_⟩
       refine te_one ?_
       refine td_no' hf rfl rfl rfl (lk_b rfl h2_1) rfl rfl rfl ?_
       clear hf a; intro a hf
       refine ⟨fun h => absurd h (by decide), ?_⟩
       refine td_pno hf rfl rfl rfl (lk_b rfl h2_1) rfl rfl rfl ?_
       clear hf a; intro a hf
       refine td_pnou hf rfl rfl rfl rfl rfl rfl ?_
       clear hf a; intro a hf
       refine td_nou hf rfl rfl rfl rfl rfl rfl hS ?_
       clear hf a; intro a hf
       refine te_one ?_
       refine td_nou' hf rfl rfl rfl rfl rfl rfl ?_
       clear hf a; intro a hf
       refine ⟨fun _ => hS, ?_⟩
       refine te_one ?_
       refine td_nou' hf rfl rfl rfl rfl rfl rfl ?_
       clear hf a; intro a hf
       refine ⟨fun h => absurd h (by decide), ?_⟩
       refine td_pnou hf rfl rfl rfl rfl rfl rfl ?_
       clear hf a; intro a hf
       refine td_pno hf rfl rfl rfl (lk_b rfl h2_1) rfl rfl rfl ?_
       clear hf a; intro a hf
       refine td_p hf rfl rfl rfl rfl (fun w => y_pick_t rfl (ev_b rfl h2_1) rfl) ?_
       clear hf a; intro a hf
       refine td_p hf rfl rfl rfl rfl (fun w => y_move rfl rfl) ?_
       clear hf a; intro a hf
       refine td_pno hf rfl rfl rfl (lk_b rfl rfl) rfl rfl rfl ?_
       clear hf a; intro a hf
       refine te_one ?_
       refine td_no' hf rfl rfl rfl (lk_b rfl rfl) rfl rfl rfl ?_
       clear hf a; intro a hf
       refine ⟨fun h => absurd h (by decide), ?_⟩
       refine te_one ?_
       refine td_no' hf rfl rfl rfl (lk_b rfl rfl) rfl rfl rfl ?_
       clear hf a; intro a hf
       refine ⟨fun h => absurd h (by decide), ?_⟩
       refine td_pno hf rfl rfl rfl (lk_b rfl rfl) rfl rfl rfl ?_
       clear hf a; intro a hf
       refine td_pno hf rfl rfl rfl (lk_b rfl rfl) rfl rfl rfl ?_
       clear hf a; intro a hf
       refine td_pnou hf rfl rfl rfl rfl rfl rfl ?_
       clear hf a; intro a hf
       refine te_one ?_
       refine td_nou' hf rfl rfl rfl rfl rfl rfl ?_
       clear hf a; intro a hf
       refine ⟨fun h => absurd h (by decide), ?_⟩
       refine td_pnou hf rfl rfl rfl rfl rfl rfl ?_
       clear hf a; intro a hf
       refine td_pno hf rfl rfl rfl (lk_b rfl rfl) rfl rfl rfl ?_
       clear hf a; intro a hf
       refine td_p hf rfl rfl rfl rfl (fun w => y_pick_t rfl (ev_b rfl rfl) rfl) ?_
       clear hf a; intro a hf
       clear hS; refine td_end ?_
       refine x_then_n ?_
       obtain rfl := Option.some.inj hq1_1
       exact ⟨hf.sub ⟨rfl, rfl, rfl, rfl, rfl, rfl, rfl, rfl, rfl, rfl, trivial⟩, hm.pick [1, 2, 3, 4, 0] (by decide) rfl⟩
      ·
       replace hq1_1 := (ite_f h2_1).symm.trans hq1_1
       have h2_3 := of_decide_eq_false h2_1
       refine td_pg hf rfl rfl rfl (lk_b rfl h2_1) rfl rfl (fun w => y_fieldAddr fo_61_2 rfl rfl) ?_
       clear hf a; intro a hf
       refine te_one ?_
       refine td_efg hf rfl rfl rfl (lk_b rfl h2_1) rfl rfl (ef_y hf (y_load1 Try.isAgg3 rfl rfl (hm.blk_cell 0 rfl rfl))) ?_
       clear hf a; rintro _ _ a ⟨rfl, rfl⟩ hf
       refine ⟨fun h => absurd h (by decide), ?_⟩
       refine te_one ?_
       obtain ⟨r2_2, hx2_2, hq1_1⟩ := bnd hq1_1
       refine td_efg hf rfl rfl rfl (lk_b rfl h2_1) rfl rfl (e_call hf rfl Try.call118 rfl (impl_usesOn_ok _ x1_1.jump _ hx2_2)) ?_
       clear hf a; rintro v2_2 w2_2 a ho2_2 hf
       obtain ⟨rfl, hB⟩ := ho2_2
       replace hm := hm.below' hB; clear hB
       clear hS
       have hS : Mem w0 (hp w0) _ [blk b1_2 [v1_4, v1_5, (.int .i64 (x1_1.jump)), (.int .i64 (x1_1.on)), (.slice p2_1 x1_1.next_.length c2_1)] 61, blk b0_1 [(.slice (some ⟨b0_3, o0_1, none⟩) u.codes.length c0_1)] 40, blk b0_2 [(.int .i64 (k_))] 3, blk b0_4 [(.int .i64 (x0_1.params)), (.int .i64 (x0_1.regs)), (.slice (some ⟨b1_1, o1_1, none⟩) x0_1.blocks.length c0_2)] 55, blk b0_5 [(.func (.func 116) #[] #[(.pointer (some ⟨b0_4, 0, none⟩))])] 84] := hm.pick [0, 1, 2, 3, 4] (by decide) rfl
       refine ⟨fun h => absurd h (by decide), ?_⟩
       refine td_pg hf rfl rfl rfl (lk_b rfl h2_1) rfl rfl (fun w => y_move rfl rfl) ?_
       clear hf a; intro a hf
       rcases bcases (r2_2) with h2_4 | h2_4
       ·
        replace hq1_1 := (ite_t h2_4).symm.trans hq1_1
        refine td_pg hf rfl rfl rfl (lk_b rfl h2_4) rfl rfl (fun w => y_fieldAddr fo_61_3 rfl rfl) ?_
        clear hf a; intro a hf
        refine td_yg hf rfl rfl rfl (lk_b rfl h2_4) rfl rfl hS (fun w hm => y_load1 Try.isAgg84 rfl rfl (hm.blk_cell 4 rfl rfl)) ?_
        clear hf a; intro a hf
        refine te_one ?_
        refine td_efg hf rfl rfl rfl (lk_b rfl h2_4) rfl rfl (ef_y hf (y_load1 Try.isAgg3 rfl rfl (hm.blk_cell 0 rfl rfl))) ?_
        clear hf a; rintro _ _ a ⟨rfl, rfl⟩ hf
        refine ⟨fun _ => hS, ?_⟩
        refine te_one ?_
        obtain ⟨r2_3, hx2_3, hq1_1⟩ := bnd hq1_1
        refine td_efg hf rfl rfl rfl (lk_b rfl h2_4) rfl rfl (e_callv hf rfl rfl rfl ⟨116, [(.pointer (some ⟨b0_4, 0, none⟩))], rfl, Try.call116, impl_codeOk_1_ok _ x1_1.on x0_1 (.slice (some ⟨b1_1, o1_1, none⟩) x0_1.blocks.length c0_2) (rep_later (hm.now h0_2) (Below.refl _ _)) b0_4 (hm.blk_later 3 rfl (Below.refl _ _)) _ hx2_3⟩) ?_
        clear hf a; rintro v2_3 w2_3 a ho2_3 hf
        obtain ⟨rfl, hB⟩ := ho2_3
        replace hm := hm.below' hB; clear hB
        refine ⟨fun h => absurd h (by decide), ?_⟩
        refine td_pg hf rfl rfl rfl (lk_b rfl h2_4) rfl rfl (fun w => y_not rfl rfl) ?_
        clear hf a; intro a hf
        refine td_pg hf rfl rfl rfl (lk_b rfl h2_1) rfl rfl (fun w => y_pick_t rfl (ev_b rfl h2_4) rfl) ?_
        clear hf a; intro a hf
        refine td_p hf rfl rfl rfl rfl (fun w => y_pick_f rfl (ev_b rfl h2_1) rfl) ?_
        clear hf a; intro a hf
        refine td_p hf rfl rfl rfl rfl (fun w => y_move rfl rfl) ?_
        clear hf a; intro a hf
        rcases bcases (!(r2_3)) with h2_5 | h2_5
        ·
         replace hq1_1 := (ite_t h2_5).symm.trans hq1_1
         have h2_6 := bnot_t' h2_5
         refine td_pno hf rfl rfl rfl (lk_b rfl h2_5) rfl rfl rfl ?_
         clear hf a; intro a hf
         refine te_one ?_
         refine td_no' hf rfl rfl rfl (lk_b rfl h2_5) rfl rfl rfl ?_
         clear hf a; intro a hf
         refine ⟨fun h => absurd h (by decide), ?_⟩
         refine te_one ?_
         refine td_no' hf rfl rfl rfl (lk_b rfl h2_5) rfl rfl rfl ?_
         clear hf a; intro a hf
         refine ⟨fun h => absurd h (by decide), ?_⟩
         refine td_pno hf rfl rfl rfl (lk_b rfl h2_5) rfl rfl rfl ?_
         clear hf a; intro a hf
         refine td_pno hf rfl rfl rfl (lk_b rfl h2_5) rfl rfl rfl ?_
         clear hf a; intro a hf
         refine td_pnou hf rfl rfl rfl rfl rfl rfl ?_
         clear hf a; intro a hf
         refine te_one ?_
         refine td_nou' hf rfl rfl rfl rfl rfl rfl ?_
         clear hf a; intro a hf
         refine ⟨fun h => absurd h (by decide), ?_⟩
         refine td_pnou hf rfl rfl rfl rfl rfl rfl ?_
         clear hf a; intro a hf
         refine td_pno hf rfl rfl rfl (lk_b rfl h2_5) rfl rfl rfl ?_
         clear hf a; intro a hf
         refine td_p hf rfl rfl rfl rfl (fun w => y_pick_t rfl (ev_b rfl h2_5) rfl) ?_
         clear hf a; intro a hf
         clear hS; refine td_end ?_
         refine x_then_n ?_
         obtain rfl := Option.some.inj hq1_1
         exact ⟨hf.sub ⟨rfl, rfl, rfl, rfl, rfl, rfl, rfl, rfl, rfl, rfl, trivial⟩, hm.pick [1, 2, 3, 4, 0] (by decide) rfl⟩
        ·
         replace hq1_1 := (ite_f h2_5).symm.trans hq1_1
         have h2_7 := bnot_f' h2_5
         refine td_pg hf rfl rfl rfl (lk_b rfl h2_5) rfl rfl (fun w => y_fieldAddr fo_61_2 rfl rfl) ?_
         clear hf a; intro a hf
         refine te_one ?_
         refine td_efg hf rfl rfl rfl (lk_b rfl h2_5) rfl rfl (ef_y hf (y_load1 Try.isAgg3 rfl rfl (hm.blk_cell 0 rfl rfl))) ?_
         clear hf a; rintro _ _ a ⟨rfl, rfl⟩ hf
         refine ⟨fun h => absurd h (by decide), ?_⟩
         refine te_one ?_
         obtain ⟨r2_4, hx2_4, hq1_1⟩ := bnd hq1_1
         refine td_efg hf rfl rfl rfl (lk_b rfl h2_5) rfl rfl (e_call hf rfl Try.call118 rfl (impl_usesOn_ok _ x1_1.jump _ hx2_4)) ?_
         clear hf a; rintro v2_4 w2_4 a ho2_4 hf
         obtain ⟨rfl, hB⟩ := ho2_4
         replace hm := hm.below' hB; clear hB
         refine ⟨fun h => absurd h (by decide), ?_⟩
         refine td_pg hf rfl rfl rfl (lk_b rfl h2_5) rfl rfl (fun w => y_not rfl rfl) ?_
         clear hf a; intro a hf
         refine td_pg hf rfl rfl rfl (lk_b rfl h2_5) rfl rfl (fun w => y_move rfl rfl) ?_
         clear hf a; intro a hf
         rcases bcases (!(r2_4)) with h2_8 | h2_8
         ·
          replace hq1_1 := (ite_t h2_8).symm.trans hq1_1
          have h2_9 := bnot_t' h2_8
          refine td_pg hf rfl rfl rfl (lk_b rfl h2_8) rfl rfl (fun w => y_fieldAddr fo_61_3 rfl rfl) ?_
          clear hf a; intro a hf
          refine te_one ?_
          refine td_efg hf rfl rfl rfl (lk_b rfl h2_8) rfl rfl (ef_y hf (y_load1 Try.isAgg3 rfl rfl (hm.blk_cell 0 rfl rfl))) ?_
          clear hf a; rintro _ _ a ⟨rfl, rfl⟩ hf
          refine ⟨fun h => absurd h (by decide), ?_⟩
          refine td_pg hf rfl rfl rfl (lk_b rfl h2_8) rfl rfl (fun w => y_neq rfl rfl rfl) ?_
          clear hf a; intro a hf
          refine td_pg hf rfl rfl rfl (lk_b rfl h2_5) rfl rfl (fun w => y_pick_t rfl (ev_b rfl h2_8) rfl) ?_
          clear hf a; intro a hf
          refine td_p hf rfl rfl rfl rfl (fun w => y_pick_f rfl (ev_b rfl h2_5) rfl) ?_
          clear hf a; intro a hf
          clear hS; refine td_end ?_
          refine x_then_n ?_
          obtain rfl := Option.some.inj hq1_1
          exact ⟨hf.sub ⟨rfl, rfl, rfl, rfl, rfl, rfl, rfl, rfl, rfl, rfl, trivial⟩, hm.pick [1, 2, 3, 4, 0] (by decide) rfl⟩
         ·
          replace hq1_1 := (ite_f h2_8).symm.trans hq1_1
          have h2_10 := bnot_f' h2_8
          refine td_pno hf rfl rfl rfl (lk_b rfl h2_8) rfl rfl rfl ?_
          clear hf a; intro a hf
          refine te_one ?_
          refine td_no' hf rfl rfl rfl (lk_b rfl h2_8) rfl rfl rfl ?_
          clear hf a; intro a hf
          refine ⟨fun h => absurd h (by decide), ?_⟩
          refine td_pno hf rfl rfl rfl (lk_b rfl h2_8) rfl rfl rfl ?_
          clear hf a; intro a hf
          refine td_pg hf rfl rfl rfl (lk_b rfl h2_5) rfl rfl (fun w => y_pick_f rfl (ev_b rfl h2_8) rfl) ?_
          clear hf a; intro a hf
          refine td_p hf rfl rfl rfl rfl (fun w => y_pick_f rfl (ev_b rfl h2_5) rfl) ?_
          clear hf a; intro a hf
          clear hS; refine td_end ?_
          refine x_then_n ?_
          obtain rfl := Option.some.inj hq1_1
          exact ⟨hf.sub ⟨rfl, rfl, rfl, rfl, rfl, rfl, rfl, rfl, rfl, rfl, trivial⟩, hm.pick [1, 2, 3, 4, 0] (by decide) rfl⟩
       ·
        replace hq1_1 := (ite_f h2_4).symm.trans hq1_1
        refine td_pno hf rfl rfl rfl (lk_b rfl h2_4) rfl rfl rfl ?_
        clear hf a; intro a hf
        refine td_no hf rfl rfl rfl (lk_b rfl h2_4) rfl rfl rfl hS ?_
        clear hf a; intro a hf
        refine te_one ?_
        refine td_no' hf rfl rfl rfl (lk_b rfl h2_4) rfl rfl rfl ?_
        clear hf a; intro a hf
        refine ⟨fun _ => hS, ?_⟩
        refine te_one ?_
        refine td_no' hf rfl rfl rfl (lk_b rfl h2_4) rfl rfl rfl ?_
        clear hf a; intro a hf
        refine ⟨fun h => absurd h (by decide), ?_⟩
        refine td_pno hf rfl rfl rfl (lk_b rfl h2_4) rfl rfl rfl ?_
        clear hf a; intro a hf
        refine td_pg hf rfl rfl rfl (lk_b rfl h2_1) rfl rfl (fun w => y_pick_f rfl (ev_b rfl h2_4) rfl) ?_
        clear hf a; intro a hf
        refine td_p hf rfl rfl rfl rfl (fun w => y_pick_f rfl (ev_b rfl h2_1) rfl) ?_
        clear hf a; intro a hf
        refine td_p hf rfl rfl rfl rfl (fun w => y_move rfl rfl) ?_
        clear hf a; intro a hf
        refine td_pg hf rfl rfl rfl (lk_b rfl rfl) rfl rfl (fun w => y_fieldAddr fo_61_2 rfl rfl) ?_
        clear hf a; intro a hf
        refine te_one ?_
        refine td_efg hf rfl rfl rfl (lk_b rfl rfl) rfl rfl (ef_y hf (y_load1 Try.isAgg3 rfl rfl (hm.blk_cell 0 rfl rfl))) ?_
        clear hf a; rintro _ _ a ⟨rfl, rfl⟩ hf
        refine ⟨fun h => absurd h (by decide), ?_⟩
        refine te_one ?_
        obtain ⟨r2_5, hx2_5, hq1_1⟩ := bnd hq1_1
        refine td_efg hf rfl rfl rfl (lk_b rfl rfl) rfl rfl (e_call hf rfl Try.call118 rfl (impl_usesOn_ok _ x1_1.jump _ hx2_5)) ?_
        clear hf a; rintro v2_5 w2_5 a ho2_5 hf
        obtain ⟨rfl, hB⟩ := ho2_5
        replace hm := hm.below' hB; clear hB
        refine ⟨fun h => absurd h (by decide), ?_⟩
        refine td_pg hf rfl rfl rfl (lk_b rfl rfl) rfl rfl (fun w => y_not rfl rfl) ?_
        clear hf a; intro a hf
        refine td_pg hf rfl rfl rfl (lk_b rfl rfl) rfl rfl (fun w => y_move rfl rfl) ?_
        clear hf a; intro a hf
        rcases bcases (!(r2_5)) with h2_11 | h2_11
        ·
         replace hq1_1 := (ite_t h2_11).symm.trans hq1_1
         have h2_12 := bnot_t' h2_11
         refine td_pg hf rfl rfl rfl (lk_b rfl h2_11) rfl rfl (fun w => y_fieldAddr fo_61_3 rfl rfl) ?_
         clear hf a; intro a hf
         refine te_one ?_
         refine td_efg hf rfl rfl rfl (lk_b rfl h2_11) rfl rfl (ef_y hf (y_load1 Try.isAgg3 rfl rfl (hm.blk_cell 0 rfl rfl))) ?_
         clear hf a; rintro _ _ a ⟨rfl, rfl⟩ hf
         refine ⟨fun h => absurd h (by decide), ?_⟩
         refine td_pg hf rfl rfl rfl (lk_b rfl h2_11) rfl rfl (fun w => y_neq rfl rfl rfl) ?_
         clear hf a; intro a hf
         refine td_pg hf rfl rfl rfl (lk_b rfl rfl) rfl rfl (fun w => y_pick_t rfl (ev_b rfl h2_11) rfl) ?_
         clear hf a; intro a hf
         refine td_p hf rfl rfl rfl rfl (fun w => y_pick_f rfl (ev_b rfl rfl) rfl) ?_
         clear hf a; intro a hf
         clear hS; refine td_end ?_
         refine x_then_n ?_
         obtain rfl := Option.some.inj hq1_1
         exact ⟨hf.sub ⟨rfl, rfl, rfl, rfl, rfl, rfl, rfl, rfl, rfl, rfl, trivial⟩, hm.pick [1, 2, 3, 4, 0] (by decide) rfl⟩
        ·
         replace hq1_1 := (ite_f h2_11).symm.trans hq1_1
         have h2_13 := bnot_f' h2_11
         refine td_pno hf rfl rfl rfl (lk_b rfl h2_11) rfl rfl rfl ?_
         clear hf a; intro a hf
         refine te_one ?_
         refine td_no' hf rfl rfl rfl (lk_b rfl h2_11) rfl rfl rfl ?_
         clear hf a; intro a hf
         refine ⟨fun h => absurd h (by decide), ?_⟩
         refine td_pno hf rfl rfl rfl (lk_b rfl h2_11) rfl rfl rfl ?_
         clear hf a; intro a hf
         refine td_pg hf rfl rfl rfl (lk_b rfl rfl) rfl rfl (fun w => y_pick_f rfl (ev_b rfl h2_11) rfl) ?_
         clear hf a; intro a hf
         refine td_p hf rfl rfl rfl rfl (fun w => y_pick_f rfl (ev_b rfl rfl) rfl) ?_
         clear hf a; intro a hf
         clear hS; refine td_end ?_
         refine x_then_n ?_
         obtain rfl := Option.some.inj hq1_1
         exact ⟨hf.sub ⟨rfl, rfl, rfl, rfl, rfl, rfl, rfl, rfl, rfl, rfl, trivial⟩, hm.pick [1, 2, 3, 4, 0] (by decide) rfl⟩
     ·
      clear hf hm
      rintro a w ⟨hf, hm⟩
      refine x_then_n ?_
      rcases bcases (s1_1) with h1_12 | h1_12
      ·
       replace hb0_1 := (ite_t h1_12).symm.trans hb0_1
       refine cond_t hf rfl h1_12 ?_
       refine wp_seq ?_
       refine wp_region_lit ?_
       refine st_y hf rfl rfl rfl (y_assign rfl rfl) ?_
       clear hf a; intro a hf
       refine st_end ?_
       refine x_then_n ?_
       refine wp_ret ?_
       refine x_then_ret ?_
       refine x_blk_ret ?_
       refine x_then_ret ?_
       refine x_then_ret ?_
       refine x_blk_ret ?_
       refine x_then_ret ?_
       obtain rfl := Option.some.inj hb0_1
       obtain rfl := ho0_1 _ rfl
       replace hq := sum_r hq
       obtain rfl := Option.some.inj hq
       refine ret_tmp hf Try.results89 rfl ?_
       exact ⟨rfl, hm.below⟩
      ·
       replace hb0_1 := (ite_f h1_12).symm.trans hb0_1
       refine cond_f hf rfl h1_12 ?_
       refine wp_skip ?_
       refine x_then_n ?_
       refine wp_seq ?_
       refine wp_seq ?_
       obtain ⟨s1_2, hq1_2, hb0_1⟩ := bnd hb0_1
       refine code_cut (K := fun a w => Fr 121 [(2, (.pointer (some ⟨b0_1, 0, none⟩))), (3, (.pointer (some ⟨b0_2, 0, none⟩))), (5, (.pointer (some ⟨b0_4, 0, none⟩))), (6, (.pointer (some ⟨b0_5, 0, none⟩))), (7, (.int .i64 (i1_1))), (8, (.pointer (some ⟨b1_2, 0, none⟩))), (39, (.slice (some ⟨b1_1, o1_1, none⟩) x0_1.blocks.length c0_2)), (40, (.int .i64 ((x0_1.blocks.length : Int)))), (41, (.int .i64 (i1_1))), (85, (.bool (s1_2)))] a ∧ Mem w0 (hp w0) w [blk b0_1 [(.slice (some ⟨b0_3, o0_1, none⟩) u.codes.length c0_1)] 40, blk b0_2 [(.int .i64 (k_))] 3, blk b0_4 [(.int .i64 (x0_1.params)), (.int .i64 (x0_1.regs)), (.slice (some ⟨b1_1, o1_1, none⟩) x0_1.blocks.length c0_2)] 55, blk b0_5 [(.func (.func 116) #[] #[(.pointer (some ⟨b0_4, 0, none⟩))])] 84, blk b1_2 [v1_4, v1_5, (.int .i64 (x1_1.jump)), (.int .i64 (x1_1.on)), v1_6] 61]) ?_ ?_
       ·
        refine wp_region_lit ?_
        refine st_y hf rfl rfl rfl (y_fieldAddr fo_61_4 rfl rfl) ?_
        clear hf a; intro a hf
        refine st_y hf rfl rfl rfl (y_load1 Try.isAgg26 rfl rfl (hm.blk_cell 4 rfl rfl)) ?_
        clear hf a; intro a hf
        refine st_y hf rfl rfl rfl (y_makeFunc rfl rfl) ?_
        clear hf a; intro a hf
        obtain ⟨r2_6, hx2_6, hq1_2⟩ := bnd hq1_2
        refine st_ef hf rfl rfl rfl (e_call hf rfl Try.call102 rfl (slices_ContainsFunc_S_int_int_ok _ x1_1.next_ v1_6 (hm.now h1_11) (fun y0 => impl_codeOk_2 y0 x0_1) (.func (.func 119) #[] #[(.pointer (some ⟨b0_4, 0, none⟩))]) (fun w y0 r hB hq => ⟨119, [(.pointer (some ⟨b0_4, 0, none⟩))], rfl, Try.call119, impl_codeOk_2_ok w y0 x0_1 (.slice (some ⟨b1_1, o1_1, none⟩) x0_1.blocks.length c0_2) (rep_later (hm.now h0_2) hB) b0_4 (hm.blk_later 2 rfl hB) r hq⟩) _ hx2_6)) ?_
        clear hf a; rintro v2_6 w2_6 a ho2_6 hf
        obtain ⟨rfl, hB⟩ := ho2_6
        replace hm := hm.below' hB; clear hB
        refine st_y hf rfl rfl rfl (y_move rfl rfl) ?_
        clear hf a; intro a hf
        rcases bcases (r2_6) with h2_14 | h2_14
        ·
         replace hq1_2 := (ite_t h2_14).symm.trans hq1_2
         refine st_no hf rfl rfl (lk_b rfl h2_14) rfl rfl rfl ?_
         clear hf a; intro a hf
         refine st_no hf rfl rfl (lk_b rfl h2_14) rfl rfl rfl ?_
         clear hf a; intro a hf
         refine st_no hf rfl rfl (lk_b rfl h2_14) rfl rfl rfl ?_
         clear hf a; intro a hf
         refine st_no hf rfl rfl (lk_b rfl h2_14) rfl rfl rfl ?_
         clear hf a; intro a hf
         refine st_y hf rfl rfl rfl (y_pick_t rfl (ev_b rfl h2_14) rfl) ?_
         clear hf a; intro a hf
         refine st_end ?_
         refine x_then_n ?_
         obtain rfl := Option.some.inj hq1_2
         exact ⟨hf.sub ⟨rfl, rfl, rfl, rfl, rfl, rfl, rfl, rfl, rfl, rfl, trivial⟩, hm.pick [0, 1, 2, 3, 4] (by decide) rfl⟩
        ·
         replace hq1_2 := (ite_f h2_14).symm.trans hq1_2
         refine st_yg hf rfl rfl (lk_b rfl h2_14) rfl rfl (y_fieldAddr fo_61_1 rfl rfl) ?_
         clear hf a; intro a hf
         refine st_yg hf rfl rfl (lk_b rfl h2_14) rfl rfl (y_load1 Try.isAgg58 rfl rfl (hm.blk_cell 4 rfl rfl)) ?_
         clear hf a; intro a hf
         refine st_yg hf rfl rfl (lk_b rfl h2_14) rfl rfl (y_makeFunc rfl rfl) ?_
         clear hf a; intro a hf
         obtain ⟨r2_7, hx2_7, hq1_2⟩ := bnd hq1_2
         refine st_efg hf rfl rfl (lk_b rfl h2_14) rfl rfl (e_call hf rfl Try.call120 rfl (slices_ContainsFunc_S_impl_Ins_impl_Ins_ok _ x1_1.ins v1_5 (hm.now h1_10) (fun y0 => impl_codeOk_3 y0 u k_) (.func (.func 121) #[] #[(.pointer (some ⟨b0_1, 0, none⟩)), (.pointer (some ⟨b0_2, 0, none⟩))]) (fun w y0 z0_0 z0_1 r hB hq => ⟨121, [(.pointer (some ⟨b0_1, 0, none⟩)), (.pointer (some ⟨b0_2, 0, none⟩))], rfl, Try.call121, impl_codeOk_3_ok w y0 z0_0 z0_1 u (.slice (some ⟨b0_3, o0_1, none⟩) u.codes.length c0_1) (rep_later (hm.now h1) hB) b0_1 (hm.blk_later 0 rfl hB) k_ b0_2 (hm.blk_later 1 rfl hB) r hq⟩) _ hx2_7)) ?_
         clear hf a; rintro v2_7 w2_7 a ho2_7 hf
         obtain ⟨rfl, hB⟩ := ho2_7
         replace hm := hm.below' hB; clear hB
         refine st_y hf rfl rfl rfl (y_pick_f rfl (ev_b rfl h2_14) rfl) ?_
         clear hf a; intro a hf
         refine st_end ?_
         refine x_then_n ?_
         obtain rfl := Option.some.inj hq1_2
         exact ⟨hf.sub ⟨rfl, rfl, rfl, rfl, rfl, rfl, rfl, rfl, rfl, rfl, trivial⟩, hm.pick [0, 1, 2, 3, 4] (by decide) rfl⟩
       ·
        clear hf hm
        rintro a w ⟨hf, hm⟩
        refine x_then_n ?_
        rcases bcases (s1_2) with h1_13 | h1_13
        ·
         replace hb0_1 := (ite_t h1_13).symm.trans hb0_1
         refine cond_t hf rfl h1_13 ?_
         refine wp_seq ?_
         refine wp_region_lit ?_
         refine st_y hf rfl rfl rfl (y_assign rfl rfl) ?_
         clear hf a; intro a hf
         refine st_end ?_
         refine x_then_n ?_
         refine wp_ret ?_
         refine x_then_ret ?_
         refine x_blk_ret ?_
         refine x_then_ret ?_
         refine x_then_ret ?_
         refine x_blk_ret ?_
         refine x_then_ret ?_
         obtain rfl := Option.some.inj hb0_1
         obtain rfl := ho0_1 _ rfl
         replace hq := sum_r hq
         obtain rfl := Option.some.inj hq
         refine ret_tmp hf Try.results89 rfl ?_
         exact ⟨rfl, hm.below⟩
        ·
         replace hb0_1 := (ite_f h1_13).symm.trans hb0_1
         refine cond_f hf rfl h1_13 ?_
         refine wp_skip ?_
         refine x_then_n ?_
         refine wp_seq ?_
         refine wp_region_lit ?_
         refine st_y hf rfl rfl rfl (y_loadN (cs := [(.int .i64 (x0_1.params)), (.int .i64 (x0_1.regs)), (.slice (some ⟨b1_1, o1_1, none⟩) x0_1.blocks.length c0_2)]) Try.isAgg55 Try.sizeOf55 rfl rfl (hm.blk_at 2 rfl)) ?_
         clear hf a; intro a hf
         refine st_y hf rfl rfl rfl (y_move rfl rfl) ?_
         clear hf a; intro a hf
         obtain ⟨r1_4, hx1_6, hb0_1⟩ := bnd hb0_1
         refine st_ef hf rfl rfl rfl (e_call hf rfl Try.call107 rfl (impl_PredsOf_ok _ x0_1 (.slice (some ⟨b1_1, o1_1, none⟩) x0_1.blocks.length c0_2) (hm.now h0_2) i1_1 _ hx1_6)) ?_
         clear hf a; rintro v1_7 w1_6 a ho1_4 hf
         obtain ⟨_, rfl, hB⟩ := ho1_4
         replace hm := hm.give hB; clear hB
         obtain ⟨p1_2, c1_3, he, hl1_2⟩ := ro_slice (hm.ow_rep 0 rfl)
         subst he
         refine st_y hf rfl rfl rfl (y_len_slice st_26.und rfl rfl) ?_
         clear hf a; intro a hf
         refine st_y hf rfl rfl rfl (y_assign rfl rfl) ?_
         clear hf a; intro a hf
         refine st_end ?_
         refine x_then_n ?_
         refine wp_seq ?_
         refine wp_region_lit ?_
         refine st_y hf rfl rfl rfl (y_fieldAddr fo_61_0 rfl rfl) ?_
         clear hf a; intro a hf
         refine st_y hf rfl rfl rfl (y_load1 Try.isAgg59 rfl rfl (hm.blk_cell 5 rfl rfl)) ?_
         clear hf a; intro a hf
         obtain ⟨p1_3, c1_4, he, hl1_3⟩ := ro_slice h1_9
         subst he
         refine st_y hf rfl rfl rfl (y_len_slice st_59.und rfl rfl) ?_
         clear hf a; intro a hf
         refine st_y hf rfl rfl rfl (y_move rfl rfl) ?_
         clear hf a; intro a hf
         refine st_end ?_
         refine x_then_n ?_
         refine wp_block ?_
         obtain ⟨r1_5, hl1_4, hb0_1⟩ := bnd hb0_1
         refine wp_forN _ (fun i2_1 xs2_1 a w => Fr 121 [(2, (.pointer (some ⟨b0_1, 0, none⟩))), (3, (.pointer (some ⟨b0_2, 0, none⟩))), (5, (.pointer (some ⟨b0_4, 0, none⟩))), (6, (.pointer (some ⟨b0_5, 0, none⟩))), (7, (.int .i64 (i1_1))), (9, (.int .i64 ((r1_4.length : Int)))), (39, (.slice (some ⟨b1_1, o1_1, none⟩) x0_1.blocks.length c0_2)), (40, (.int .i64 ((x0_1.blocks.length : Int)))), (41, (.int .i64 (i1_1))), (91, (.slice p1_3 x1_1.phis.length c1_4)), (92, (.int .i64 ((x1_1.phis.length : Int)))), (93, (.int .i64 (i2_1)))] a ∧ Mem w0 (hp w0) w [blk b0_1 [(.slice (some ⟨b0_3, o0_1, none⟩) u.codes.length c0_1)] 40, blk b0_2 [(.int .i64 (k_))] 3, blk b0_4 [(.int .i64 (x0_1.params)), (.int .i64 (x0_1.regs)), (.slice (some ⟨b1_1, o1_1, none⟩) x0_1.blocks.length c0_2)] 55, blk b0_5 [(.func (.func 116) #[] #[(.pointer (some ⟨b0_4, 0, none⟩))])] 84]) (0) ((x1_1.phis.length : Int)) hl1_4 ?_ ?_ ?_
         ·
          exact ⟨hf.sub ⟨rfl, rfl, rfl, rfl, rfl, rfl, rfl, rfl, rfl, rfl, rfl, rfl, trivial⟩, hm.pick [1, 2, 3, 4] (by decide) rfl⟩
         ·
          clear hf hm
          rintro i2_1 xs2_1 a w ⟨hf, hm⟩ hi2_1 hi2_2 q1_1 hb1_1 ho1_5
          refine wp_seq ?_
          refine wp_region_lit ?_
          refine st_y hf rfl rfl rfl (y_lss rfl rfl rfl) ?_
          clear hf a; intro a hf
          refine st_end ?_
          refine x_then_n ?_
          refine wp_seq ?_
          refine cond_t hf rfl (decide_eq_true (by omega)) ?_
          refine wp_skip ?_
          refine x_then_n ?_
          refine wp_seq ?_
          refine wp_block ?_
          refine wp_seq ?_
          refine wp_region_lit ?_
          obtain ⟨x2_1, hx2_8, hb1_1⟩ := bnd hb1_1
          obtain ⟨h2_15, hx2_9⟩ := getI_some.1 hx2_8
          obtain ⟨b2_1, o2_1, c2_2, he⟩ := idx_form' h1_9 hx2_9
          simp only [Value.slice.injEq, Option.some.injEq] at he; obtain ⟨rfl, _, rfl⟩ := he
          obtain ⟨_, _, hc2_1, hr2_1⟩ := ro_get' h1_9 hx2_9
          obtain ⟨_, _, rfl, rfl, h2_16⟩ := hr2_1
          obtain ⟨v2_8, rfl, -⟩ := id h2_16
          replace h2_16 : GT.rep (hp w0) [v2_8] x2_1.args := h2_16
          replace hc2_1 : CellsAt (hp w0) b2_1 (o2_1 + (i2_1).toNat * 2) [(.int .i64 (x2_1.to)), v2_8] := hc2_1
          refine st_y hf rfl rfl rfl (y_indexAddr st_59 rfl rfl rfl h2_15 (idx_lt hx2_9)) ?_
          clear hf a; intro a hf
          refine st_y hf rfl rfl rfl (y_loadN (cs := [(.int .i64 (x2_1.to)), v2_8]) Try.isAgg127 Try.sizeOf127 rfl rfl (hc2_1.mono hm.lez)) ?_
          clear hf a; intro a hf
          refine st_ef hf rfl rfl rfl (e_alloc hm Try.zeroValue127 rfl rfl) ?_
          clear hf a; rintro _ w2_8 a ⟨b2_2, rfl, hm⟩ hf
          refine st_ef0 hf rfl rfl (e_storeN 0 hf hm rfl Try.sizeOf127 rfl rfl rfl (one_cons rfl (one_cons (rep_one h2_16) one_nil)) rfl rfl) ?_
          clear hf a; rintro _ w2_9 a hm hf
          refine st_end ?_
          refine x_then_n ?_
          refine wp_seq ?_
          obtain ⟨s2_1, hq2_1, hb1_1⟩ := bnd hb1_1
          refine code_cut (K := fun a w => Fr 121 [(2, (.pointer (some ⟨b0_1, 0, none⟩))), (3, (.pointer (some ⟨b0_2, 0, none⟩))), (5, (.pointer (some ⟨b0_4, 0, none⟩))), (6, (.pointer (some ⟨b0_5, 0, none⟩))), (7, (.int .i64 (i1_1))), (9, (.int .i64 ((r1_4.length : Int)))), (39, (.slice (some ⟨b1_1, o1_1, none⟩) x0_1.blocks.length c0_2)), (40, (.int .i64 ((x0_1.blocks.length : Int)))), (41, (.int .i64 (i1_1))), (91, (.slice (some ⟨b2_1, o2_1, none⟩) x1_1.phis.length c1_4)), (92, (.int .i64 ((x1_1.phis.length : Int)))), (93, (.int .i64 (i2_1))), (118, (.bool (s2_1)))] a ∧ Mem w0 (hp w0) w [blk b0_1 [(.slice (some ⟨b0_3, o0_1, none⟩) u.codes.length c0_1)] 40, blk b0_2 [(.int .i64 (k_))] 3, blk b0_4 [(.int .i64 (x0_1.params)), (.int .i64 (x0_1.regs)), (.slice (some ⟨b1_1, o1_1, none⟩) x0_1.blocks.length c0_2)] 55, blk b0_5 [(.func (.func 116) #[] #[(.pointer (some ⟨b0_4, 0, none⟩))])] 84]) ?_ ?_
          ·
           refine wp_region_lit ?_
           refine st_y hf rfl rfl rfl (y_move rfl rfl) ?_
           clear hf a; intro a hf
           refine st_y hf rfl rfl rfl (y_eql rfl rfl rfl) ?_
           clear hf a; intro a hf
           refine st_y hf rfl rfl rfl (y_move rfl rfl) ?_
           clear hf a; intro a hf
           rcases bcases (decide (i1_1 = 0)) with h3_1 | h3_1
           ·
            replace hq2_1 := (ite_t h3_1).symm.trans hq2_1
            have h3_2 := of_decide_eq_true h3_1
            refine st_no hf rfl rfl (lk_b rfl h3_1) rfl rfl rfl ?_
            clear hf a; intro a hf
            refine st_no hf rfl rfl (lk_b rfl h3_1) rfl rfl rfl ?_
            clear hf a; intro a hf
            refine st_no hf rfl rfl (lk_b rfl h3_1) rfl rfl rfl ?_
            clear hf a; intro a hf
            refine st_no hf rfl rfl (lk_b rfl h3_1) rfl rfl rfl ?_
            clear hf a; intro a hf
            refine st_no hf rfl rfl (lk_b rfl h3_1) rfl rfl rfl ?_
            clear hf a; intro a hf
            refine st_y hf rfl rfl rfl (y_pick_t rfl (ev_b rfl h3_1) rfl) ?_
            clear hf a; intro a hf
            refine st_y hf rfl rfl rfl (y_move rfl rfl) ?_
            clear hf a; intro a hf
            refine st_no hf rfl rfl (lk_b rfl rfl) rfl rfl rfl ?_
            clear hf a; intro a hf
            refine st_no hf rfl rfl (lk_b rfl rfl) rfl rfl rfl ?_
            clear hf a; intro a hf
            refine st_no hf rfl rfl (lk_b rfl rfl) rfl rfl rfl ?_
            clear hf a; intro a hf
            refine st_no hf rfl rfl (lk_b rfl rfl) rfl rfl rfl ?_
            clear hf a; intro a hf
            refine st_no hf rfl rfl (lk_b rfl rfl) rfl rfl rfl ?_
            clear hf a; intro a hf
            refine st_y hf rfl rfl rfl (y_pick_t rfl (ev_b rfl rfl) rfl) ?_
            clear hf a; intro a hf
            refine st_y hf rfl rfl rfl (y_move rfl rfl) ?_
            clear hf a; intro a hf
            refine st_no hf rfl rfl (lk_b rfl rfl) rfl rfl rfl ?_
            clear hf a; intro a hf
            refine st_no hf rfl rfl (lk_b rfl rfl) rfl rfl rfl ?_
            clear hf a; intro a hf
            refine st_no hf rfl rfl (lk_b rfl rfl) rfl rfl rfl ?_
            clear hf a; intro a hf
            refine st_no hf rfl rfl (lk_b rfl rfl) rfl rfl rfl ?_
            clear hf a; intro a hf
            refine st_y hf rfl rfl rfl (y_pick_t rfl (ev_b rfl rfl) rfl) ?_
            clear hf a; intro a hf
            refine st_end ?_
            refine x_then_n ?_
            obtain rfl := Option.some.inj hq2_1
            exact ⟨hf.sub ⟨rfl, rfl, rfl, rfl, rfl, rfl, rfl, rfl, rfl, rfl, rfl, rfl, rfl, trivial⟩, hm.pick [1, 2, 3, 4] (by decide) rfl⟩
           ·
            replace hq2_1 := (ite_f h3_1).symm.trans hq2_1
            have h3_3 := of_decide_eq_false h3_1
            refine st_yg hf rfl rfl (lk_b rfl h3_1) rfl rfl (y_load1 Try.isAgg84 rfl rfl (hm.blk_cell 4 rfl rfl)) ?_
            clear hf a; intro a hf
            refine st_yg hf rfl rfl (lk_b rfl h3_1) rfl rfl (y_fieldAddr fo_127_0 rfl rfl) ?_
            clear hf a; intro a hf
            refine st_yg hf rfl rfl (lk_b rfl h3_1) rfl rfl (y_load1 Try.isAgg3 rfl rfl (hm.blk_cell 0 rfl rfl)) ?_
            clear hf a; intro a hf
            obtain ⟨r3_1, hx3_1, hq2_1⟩ := bnd hq2_1
            refine st_efg hf rfl rfl (lk_b rfl h3_1) rfl rfl (e_callv hf rfl rfl rfl ⟨116, [(.pointer (some ⟨b0_4, 0, none⟩))], rfl, Try.call116, impl_codeOk_1_ok _ x2_1.to x0_1 (.slice (some ⟨b1_1, o1_1, none⟩) x0_1.blocks.length c0_2) (rep_later (hm.now h0_2) (Below.refl _ _)) b0_4 (hm.blk_later 3 rfl (Below.refl _ _)) _ hx3_1⟩) ?_
            clear hf a; rintro v3_1 w3_1 a ho3_1 hf
            obtain ⟨rfl, hB⟩ := ho3_1
            replace hm := hm.below' hB; clear hB
            refine st_yg hf rfl rfl (lk_b rfl h3_1) rfl rfl (y_not rfl rfl) ?_
            clear hf a; intro a hf
            refine st_y hf rfl rfl rfl (y_pick_f rfl (ev_b rfl h3_1) rfl) ?_
            clear hf a; intro a hf
            refine st_y hf rfl rfl rfl (y_move rfl rfl) ?_
            clear hf a; intro a hf
            rcases bcases (!(r3_1)) with h3_4 | h3_4
            ·
             replace hq2_1 := (ite_t h3_4).symm.trans hq2_1
             have h3_5 := bnot_t' h3_4
             refine st_no hf rfl rfl (lk_b rfl h3_4) rfl rfl rfl ?_
             clear hf a; intro a hf
             refine st_no hf rfl rfl (lk_b rfl h3_4) rfl rfl rfl ?_
             clear hf a; intro a hf
             refine st_no hf rfl rfl (lk_b rfl h3_4) rfl rfl rfl ?_
             clear hf a; intro a hf
             refine st_no hf rfl rfl (lk_b rfl h3_4) rfl rfl rfl ?_
             clear hf a; intro a hf
             refine st_no hf rfl rfl (lk_b rfl h3_4) rfl rfl rfl ?_
             clear hf a; intro a hf
             refine st_y hf rfl rfl rfl (y_pick_t rfl (ev_b rfl h3_4) rfl) ?_
             clear hf a; intro a hf
             refine st_y hf rfl rfl rfl (y_move rfl rfl) ?_
             clear hf a; intro a hf
             refine st_no hf rfl rfl (lk_b rfl rfl) rfl rfl rfl ?_
             clear hf a; intro a hf
             refine st_no hf rfl rfl (lk_b rfl rfl) rfl rfl rfl ?_
             clear hf a; intro a hf
             refine st_no hf rfl rfl (lk_b rfl rfl) rfl rfl rfl ?_
             clear hf a; intro a hf
             refine st_no hf rfl rfl (lk_b rfl rfl) rfl rfl rfl ?_
             clear hf a; intro a hf
             refine st_y hf rfl rfl rfl (y_pick_t rfl (ev_b rfl rfl) rfl) ?_
             clear hf a; intro a hf
             refine st_end ?_
             refine x_then_n ?_
             obtain rfl := Option.some.inj hq2_1
             exact ⟨hf.sub ⟨rfl, rfl, rfl, rfl, rfl, rfl, rfl, rfl, rfl, rfl, rfl, rfl, rfl, trivial⟩, hm.pick [1, 2, 3, 4] (by decide) rfl⟩
            ·
             replace hq2_1 := (ite_f h3_4).symm.trans hq2_1
             have h3_6 := bnot_f' h3_4
             refine st_yg hf rfl rfl (lk_b rfl h3_4) rfl rfl (y_fieldAddr fo_127_1 rfl rfl) ?_
             clear hf a; intro a hf
             refine st_yg hf rfl rfl (lk_b rfl h3_4) rfl rfl (y_load1 Try.isAgg26 rfl rfl (hm.blk_cell 0 rfl rfl)) ?_
             clear hf a; intro a hf
             obtain ⟨p3_1, c3_1, he, hl3_1⟩ := ro_slice h2_16
             subst he
             refine st_yg hf rfl rfl (lk_b rfl h3_4) rfl rfl (y_len_slice st_26.und rfl rfl) ?_
             clear hf a; intro a hf
             refine st_yg hf rfl rfl (lk_b rfl h3_4) rfl rfl (y_move rfl rfl) ?_
             clear hf a; intro a hf
             refine st_yg hf rfl rfl (lk_b rfl h3_4) rfl rfl (y_neq rfl rfl rfl) ?_
             clear hf a; intro a hf
             refine st_y hf rfl rfl rfl (y_pick_f rfl (ev_b rfl h3_4) rfl) ?_
             clear hf a; intro a hf
             refine st_y hf rfl rfl rfl (y_move rfl rfl) ?_
             clear hf a; intro a hf
             rcases bcases (decide (((x2_1.args.length : Int)) ≠ ((r1_4.length : Int)))) with h3_7 | h3_7
             ·
              replace hq2_1 := (ite_t h3_7).symm.trans hq2_1
              have h3_8 := of_decide_eq_true h3_7
              refine st_no hf rfl rfl (lk_b rfl h3_7) rfl rfl rfl ?_
              clear hf a; intro a hf
              refine st_no hf rfl rfl (lk_b rfl h3_7) rfl rfl rfl ?_
              clear hf a; intro a hf
              refine st_no hf rfl rfl (lk_b rfl h3_7) rfl rfl rfl ?_
              clear hf a; intro a hf
              refine st_no hf rfl rfl (lk_b rfl h3_7) rfl rfl rfl ?_
              clear hf a; intro a hf
              refine st_y hf rfl rfl rfl (y_pick_t rfl (ev_b rfl h3_7) rfl) ?_
              clear hf a; intro a hf
              refine st_end ?_
              refine x_then_n ?_
              obtain rfl := Option.some.inj hq2_1
              exact ⟨hf.sub ⟨rfl, rfl, rfl, rfl, rfl, rfl, rfl, rfl, rfl, rfl, rfl, rfl, rfl, trivial⟩, hm.pick [1, 2, 3, 4] (by decide) rfl⟩
             ·
              replace hq2_1 := (ite_f h3_7).symm.trans hq2_1
              have h3_9 := of_decide_eq_false h3_7
              refine st_yg hf rfl rfl (lk_b rfl h3_7) rfl rfl (y_fieldAddr fo_127_1 rfl rfl) ?_
              clear hf a; intro a hf
              refine st_yg hf rfl rfl (lk_b rfl h3_7) rfl rfl (y_load1 Try.isAgg26 rfl rfl (hm.blk_cell 0 rfl rfl)) ?_
              clear hf a; intro a hf
              refine st_yg hf rfl rfl (lk_b rfl h3_7) rfl rfl (y_makeFunc rfl rfl) ?_
              clear hf a; intro a hf
              obtain ⟨r3_2, hx3_2, hq2_1⟩ := bnd hq2_1
              refine st_efg hf rfl rfl (lk_b rfl h3_7) rfl rfl (e_call hf rfl Try.call102 rfl (slices_ContainsFunc_S_int_int_ok _ x2_1.args (.slice p3_1 x2_1.args.length c3_1) (hm.now h2_16) (fun y0 => impl_codeOk_4 y0 x0_1) (.func (.func 123) #[] #[(.pointer (some ⟨b0_5, 0, none⟩))]) (fun w y0 r hB hq => ⟨123, [(.pointer (some ⟨b0_5, 0, none⟩))], rfl, Try.call123, impl_codeOk_4_ok w y0 x0_1 (.slice (some ⟨b1_1, o1_1, none⟩) x0_1.blocks.length c0_2) (rep_later (hm.now h0_2) hB) b0_4 (hm.blk_later 3 rfl hB) b0_5 (hm.blk_later 4 rfl hB) r hq⟩) _ hx3_2)) ?_
              clear hf a; rintro v3_2 w3_2 a ho3_2 hf
              obtain ⟨rfl, hB⟩ := ho3_2
              replace hm := hm.below' hB; clear hB
              refine st_y hf rfl rfl rfl (y_pick_f rfl (ev_b rfl h3_7) rfl) ?_
              clear hf a; intro a hf
              refine st_end ?_
              refine x_then_n ?_
              obtain rfl := Option.some.inj hq2_1
              exact ⟨hf.sub ⟨rfl, rfl, rfl, rfl, rfl, rfl, rfl, rfl, rfl, rfl, rfl, rfl, rfl, trivial⟩, hm.pick [1, 2, 3, 4] (by decide) rfl⟩
          ·
           clear hf hm
           rintro a w ⟨hf, hm⟩
           refine x_then_n ?_
           rcases bcases (s2_1) with h2_17 | h2_17
           ·
            replace hb1_1 := (ite_t h2_17).symm.trans hb1_1
            refine cond_t hf rfl h2_17 ?_
            refine wp_seq ?_
            refine wp_region_lit ?_
            refine st_y hf rfl rfl rfl (y_assign rfl rfl) ?_
            clear hf a; intro a hf
            refine st_end ?_
            refine x_then_n ?_
            refine wp_ret ?_
            refine x_blk_ret ?_
            refine x_then_ret ?_
            refine x_then_ret ?_
            refine x_blk_ret ?_
            refine x_blk_ret ?_
            refine x_then_ret ?_
            refine x_then_ret ?_
            refine x_blk_ret ?_
            refine x_then_ret ?_
            obtain rfl := Option.some.inj hb1_1
            obtain rfl := ho1_5 _ rfl
            replace hb0_1 := sum_r hb0_1
            obtain rfl := Option.some.inj hb0_1
            obtain rfl := ho0_1 _ rfl
            replace hq := sum_r hq
            obtain rfl := Option.some.inj hq
            refine ret_tmp hf Try.results89 rfl ?_
            exact ⟨rfl, hm.below⟩
           ·
            replace hb1_1 := (ite_f h2_17).symm.trans hb1_1
            refine cond_f hf rfl h2_17 ?_
            refine wp_skip ?_
            refine x_blk_n ?_
            refine x_then_n ?_
            refine wp_region_lit ?_
            refine st_y hf rfl rfl rfl (y_add64 rfl rfl rfl (by omega) (by omega)) ?_
            clear hf a; intro a hf
            refine st_y hf rfl rfl rfl (y_move rfl rfl) ?_
            clear hf a; intro a hf
            refine st_end ?_
            refine x_then_n ?_
            obtain rfl := Option.some.inj hb1_1
            exact ⟨_, rfl, hf.sub ⟨rfl, rfl, rfl, rfl, rfl, rfl, rfl, rfl, rfl, rfl, rfl, rfl, trivial⟩, hm.pick [0, 1, 2, 3] (by decide) rfl⟩
         ·
          clear hf hm
          rintro i1_2 xs1_2 a w ⟨hf, hm⟩ hi1_3 hi1_4 rfl
          replace hb0_1 := sum_l hb0_1
          refine wp_seq ?_
          refine wp_region_lit ?_
          refine st_y hf rfl rfl rfl (y_lss rfl rfl rfl) ?_
          clear hf a; intro a hf
          refine st_end ?_
          refine x_then_n ?_
          refine wp_seq ?_
          refine cond_f hf rfl (decide_eq_false (by omega)) ?_
          refine wp_exit ?_
          refine x_then_exit ?_
          refine x_then_exit ?_
          refine x_blk_hit ?_
          refine x_blk_n ?_
          refine x_then_n ?_
          refine wp_region_lit ?_
          refine st_y hf rfl rfl rfl (y_add64 rfl rfl rfl (by omega) (by omega)) ?_
          clear hf a; intro a hf
          refine st_y hf rfl rfl rfl (y_move rfl rfl) ?_
          clear hf a; intro a hf
          refine st_end ?_
          refine x_then_n ?_
          obtain rfl := Option.some.inj hb0_1
          exact ⟨_, rfl, hf.sub ⟨rfl, rfl, rfl, rfl, rfl, rfl, rfl, trivial⟩, hm.pick [0, 1, 2, 3] (by decide) rfl⟩
    ·
     clear hf hm
     rintro i0_1 xs0_1 a w ⟨hf, hm⟩ hi0_1 hi0_2 rfl
     replace hq := sum_l hq
     refine wp_seq ?_
     refine wp_region_lit ?_
     refine st_y hf rfl rfl rfl (y_lss rfl rfl rfl) ?_
     clear hf a; intro a hf
     refine st_end ?_
     refine x_then_n ?_
     refine wp_seq ?_
     refine cond_f hf rfl (decide_eq_false (by omega)) ?_
     refine wp_exit ?_
     refine x_then_exit ?_
     refine x_then_exit ?_
     refine x_blk_hit ?_
     refine x_then_n ?_
     refine wp_seq ?_
     refine wp_region_lit ?_
     refine st_y hf rfl rfl rfl (y_assign rfl rfl) ?_
     clear hf a; intro a hf
     refine st_end ?_
     refine x_then_n ?_
     refine wp_ret ?_
     obtain rfl := Option.some.inj hq
     refine ret_tmp hf Try.results89 rfl ?_
     exact ⟨rfl, hm.below⟩

theorem impl_codeCount_ok (w0 : World) (c_ : Code_) (v1 : Value) (h1 : GT.rep (hp w0) [v1] c_.blocks) (r : Int) (hq : impl_codeCount c_ = some r) :
    Con Try.prog 62 [(.agg #[(.int .i64 (c_.params)), (.int .i64 (c_.regs)), v1])] w0 (fun v w' => v = (.int .i64 (r)) ∧ Below w0.heap.size w0 w') := by
  unfold impl_codeCount at hq
  refine con_body (l := [(0, (.agg #[(.int .i64 (c_.params)), (.int .i64 (c_.regs)), v1]))]) Try.func62 rfl Try.ntmps62 (Args.get ⟨rfl, trivial⟩) rfl ?_
  intro a hf
  have hm := Mem.start w0
  refine wp_seq ?_
  refine wp_region_lit ?_
  refine st_ef hf rfl rfl rfl (e_box hf hm rfl rfl rfl) ?_
  clear hf a; rintro _ w0_1 a ⟨b0_1, rfl, hm⟩ hf
  refine st_y hf rfl rfl rfl (y_assign rfl rfl) ?_
  clear hf a; intro a hf
  refine st_end ?_
  refine x_then_n ?_
  refine wp_seq ?_
  refine wp_region_lit ?_
  refine st_y hf rfl rfl rfl (y_assign rfl rfl) ?_
  clear hf a; intro a hf
  refine st_end ?_
  refine x_then_n ?_
  refine wp_seq ?_
  refine wp_seq ?_
  refine wp_region_lit ?_
  refine st_y hf rfl rfl rfl (y_fieldAddr fo_55_2 rfl rfl) ?_
  clear hf a; intro a hf
  refine st_y hf rfl rfl rfl (y_load1 Try.isAgg53 rfl rfl (hm.blk_cell 0 rfl rfl)) ?_
  clear hf a; intro a hf
  obtain ⟨p0_1, c0_1, he, hl0_1⟩ := ro_slice h1
  subst he
  refine st_y hf rfl rfl rfl (y_len_slice st_53.und rfl rfl) ?_
  clear hf a; intro a hf
  refine st_y hf rfl rfl rfl (y_move rfl rfl) ?_
  clear hf a; intro a hf
  refine st_end ?_
  refine x_then_n ?_
  refine wp_block ?_
  obtain ⟨r0_1, hl0_2, hq⟩ := bnd hq
  refine wp_forN _ (fun i1_1 xs1_1 a w => Fr 24 [(3, (.int .i64 (xs1_1))), (7, (.slice p0_1 c_.blocks.length c0_1)), (8, (.int .i64 ((c_.blocks.length : Int)))), (9, (.int .i64 (i1_1)))] a ∧ Mem w0 (hp w0) w []) (0) ((c_.blocks.length : Int)) hl0_2 ?_ ?_ ?_
  ·
   exact ⟨hf.sub ⟨rfl, rfl, rfl, rfl, trivial⟩, hm.pick [] (by decide) rfl⟩
  ·
   clear hf hm
   rintro i1_1 xs1_1 a w ⟨hf, hm⟩ hi1_1 hi1_2 q0_1 hb0_1 ho0_1
   refine wp_seq ?_
   refine wp_region_lit ?_
   refine st_y hf rfl rfl rfl (y_lss rfl rfl rfl) ?_
   clear hf a; intro a hf
   refine st_end ?_
   refine x_then_n ?_
   refine wp_seq ?_
   refine cond_t hf rfl (decide_eq_true (by omega)) ?_
   refine wp_skip ?_
   refine x_then_n ?_
   refine wp_seq ?_
   refine wp_block ?_
   refine wp_seq ?_
   refine wp_region_lit ?_
   obtain ⟨x1_1, hx1_1, hb0_1⟩ := bnd hb0_1
   obtain ⟨h1_1, hx1_2⟩ := getI_some.1 hx1_1
   obtain ⟨b1_1, o1_1, c1_1, he⟩ := idx_form' h1 hx1_2
   simp only [Value.slice.injEq, Option.some.injEq] at he; obtain ⟨rfl, _, rfl⟩ := he
   obtain ⟨_, _, hc1_1, hr1_1⟩ := ro_get' h1 hx1_2
   obtain ⟨_, _, rfl, h1_2, _, _, rfl, h1_3, _, _, rfl, rfl, _, _, rfl, rfl, h1_4⟩ := hr1_1
   obtain ⟨v1_1, rfl, -⟩ := id h1_2
   replace h1_2 : GT.rep (hp w0) [v1_1] x1_1.phis := h1_2
   obtain ⟨v1_2, rfl, -⟩ := id h1_3
   replace h1_3 : GT.rep (hp w0) [v1_2] x1_1.ins := h1_3
   obtain ⟨v1_3, rfl, -⟩ := id h1_4
   replace h1_4 : GT.rep (hp w0) [v1_3] x1_1.next_ := h1_4
   replace hc1_1 : CellsAt (hp w0) b1_1 (o1_1 + (i1_1).toNat * 5) [v1_1, v1_2, (.int .i64 (x1_1.jump)), (.int .i64 (x1_1.on)), v1_3] := hc1_1
   refine st_y hf rfl rfl rfl (y_indexAddr st_53 rfl rfl rfl h1_1 (idx_lt hx1_2)) ?_
   clear hf a; intro a hf
   refine st_y hf rfl rfl rfl (y_loadN (cs := [v1_1, v1_2, (.int .i64 (x1_1.jump)), (.int .i64 (x1_1.on)), v1_3]) Try.isAgg61 Try.sizeOf61 rfl rfl (hc1_1.mono hm.lez)) ?_
   clear hf a; intro a hf
   refine st_ef hf rfl rfl rfl (e_alloc hm Try.zeroValue61 rfl rfl) ?_
   clear hf a; rintro _ w1_1 a ⟨b1_2, rfl, hm⟩ hf
   refine st_ef0 hf rfl rfl (e_storeN 0 hf hm rfl Try.sizeOf61 rfl rfl rfl (one_cons (rep_one h1_2) (one_cons (rep_one h1_3) (one_cons rfl (one_cons rfl (one_cons (rep_one h1_4) one_nil))))) rfl rfl) ?_
   clear hf a; rintro _ w1_2 a hm hf
   refine st_end ?_
   refine x_then_n ?_
   refine wp_region_lit ?_
   refine st_y hf rfl rfl rfl (y_move rfl rfl) ?_
   clear hf a; intro a hf
   refine st_y hf rfl rfl rfl (y_fieldAddr fo_61_0 rfl rfl) ?_
   clear hf a; intro a hf
   refine st_y hf rfl rfl rfl (y_load1 Try.isAgg59 rfl rfl (hm.blk_cell 0 rfl rfl)) ?_
   clear hf a; intro a hf
   obtain ⟨p1_1, c1_2, he, hl1_1⟩ := ro_slice h1_2
   subst he
   refine st_y hf rfl rfl rfl (y_len_slice st_59.und rfl rfl) ?_
   clear hf a; intro a hf
   refine st_y hf rfl rfl rfl (y_fieldAddr fo_61_1 rfl rfl) ?_
   clear hf a; intro a hf
   refine st_y hf rfl rfl rfl (y_load1 Try.isAgg58 rfl rfl (hm.blk_cell 0 rfl rfl)) ?_
   clear hf a; intro a hf
   obtain ⟨p1_2, c1_3, he, hl1_2⟩ := ro_slice h1_3
   subst he
   refine st_y hf rfl rfl rfl (y_len_slice st_58.und rfl rfl) ?_
   clear hf a; intro a hf
   refine st_y hf rfl rfl rfl (y_add64 rfl rfl rfl (by omega) (by omega)) ?_
   clear hf a; intro a hf
   refine st_y hf rfl rfl rfl (y_addw rfl rfl rfl) ?_
   clear hf a; intro a hf
   refine st_y hf rfl rfl rfl (y_assign rfl rfl) ?_
   clear hf a; intro a hf
   refine st_end ?_
   refine x_blk_n ?_
   refine x_then_n ?_
   refine wp_region_lit ?_
   refine st_y hf rfl rfl rfl (y_add64 rfl rfl rfl (by omega) (by omega)) ?_
   clear hf a; intro a hf
   refine st_y hf rfl rfl rfl (y_move rfl rfl) ?_
   clear hf a; intro a hf
   refine st_end ?_
   refine x_then_n ?_
   obtain rfl := Option.some.inj hb0_1
   exact ⟨_, rfl, hf.sub ⟨rfl, rfl, rfl, rfl, trivial⟩, hm.pick [] (by decide) rfl⟩
  ·
   clear hf hm
   rintro i0_1 xs0_1 a w ⟨hf, hm⟩ hi0_1 hi0_2 rfl
   replace hq := sum_l hq
   refine wp_seq ?_
   refine wp_region_lit ?_
   refine st_y hf rfl rfl rfl (y_lss rfl rfl rfl) ?_
   clear hf a; intro a hf
   refine st_end ?_
   refine x_then_n ?_
   refine wp_seq ?_
   refine cond_f hf rfl (decide_eq_false (by omega)) ?_
   refine wp_exit ?_
   refine x_then_exit ?_
   refine x_then_exit ?_
   refine x_blk_hit ?_
   refine x_then_n ?_
   refine wp_seq ?_
   refine wp_region_lit ?_
   refine st_y hf rfl rfl rfl (y_move rfl rfl) ?_
   clear hf a; intro a hf
   refine st_y hf rfl rfl rfl (y_assign rfl rfl) ?_
   clear hf a; intro a hf
   refine st_end ?_
   refine x_then_n ?_
   refine wp_ret ?_
   obtain rfl := Option.some.inj hq
   refine ret_tmp hf Try.results62 rfl ?_
   exact ⟨rfl, hm.below⟩

theorem impl_UnitValid_ok (w0 : World) (u : Unit_) (v1 : Value) (h1 : GT.rep (hp w0) [v1] u.codes) (r : Bool) (hq : impl_UnitValid u = some r) :
    Con Try.prog 61 [(.agg #[v1])] w0 (fun v w' => v = (.bool (r)) ∧ Below w0.heap.size w0 w') := by
  unfold impl_UnitValid at hq
  refine con_body (l := [(0, (.agg #[v1]))]) Try.func61 rfl Try.ntmps61 (Args.get ⟨rfl, trivial⟩) rfl ?_
  intro a hf
  have hm := Mem.start w0
  refine wp_seq ?_
  refine wp_region_lit ?_
  refine st_ef hf rfl rfl rfl (e_box hf hm rfl rfl rfl) ?_
  clear hf a; rintro _ w0_1 a ⟨b0_1, rfl, hm⟩ hf
  refine st_y hf rfl rfl rfl (y_assign rfl rfl) ?_
  clear hf a; intro a hf
  refine st_end ?_
  refine x_then_n ?_
  refine wp_seq ?_
  refine wp_seq ?_
  refine wp_region_lit ?_
  refine st_y hf rfl rfl rfl (y_fieldAddr fo_40_0 rfl rfl) ?_
  clear hf a; intro a hf
  refine st_y hf rfl rfl rfl (y_load1 Try.isAgg38 rfl rfl (hm.blk_cell 0 rfl rfl)) ?_
  clear hf a; intro a hf
  obtain ⟨p0_1, c0_1, he, hl0_1⟩ := ro_slice h1
  subst he
  refine st_y hf rfl rfl rfl (y_len_slice st_38.und rfl rfl) ?_
  clear hf a; intro a hf
  obtain ⟨r0_1, hx0_1, hq⟩ := bnd hq
  refine st_ef hf rfl rfl rfl (e_call hf rfl Try.call73 rfl (impl_within_ok _ (u.codes.length : Int) 1 4 _ hx0_1)) ?_
  clear hf a; rintro v0_1 w0_2 a ho0_1 hf
  obtain ⟨rfl, hB⟩ := ho0_1
  replace hm := hm.below' hB; clear hB
  refine st_y hf rfl rfl rfl (y_not rfl rfl) ?_
  clear hf a; intro a hf
  refine st_end ?_
  refine x_then_n ?_
  rcases bcases (!(r0_1)) with h0_1 | h0_1
  ·
   replace hq := (ite_t h0_1).symm.trans hq
   have h0_2 := bnot_t' h0_1
   refine cond_t hf rfl h0_1 ?_
   refine wp_seq ?_
   refine wp_region_lit ?_
   refine st_y hf rfl rfl rfl (y_assign rfl rfl) ?_
   clear hf a; intro a hf
   refine st_end ?_
   refine x_then_n ?_
   refine wp_ret ?_
   refine x_then_ret ?_
   obtain rfl := Option.some.inj hq
   refine ret_tmp hf Try.results61 rfl ?_
   exact ⟨rfl, hm.below⟩
  ·
   replace hq := (ite_f h0_1).symm.trans hq
   have h0_3 := bnot_f' h0_1
   refine cond_f hf rfl h0_1 ?_
   refine wp_skip ?_
   refine x_then_n ?_
   refine wp_seq ?_
   refine wp_region_lit ?_
   refine st_y hf rfl rfl rfl (y_assign rfl rfl) ?_
   clear hf a; intro a hf
   refine st_end ?_
   refine x_then_n ?_
   refine wp_seq ?_
   refine wp_seq ?_
   refine wp_region_lit ?_
   refine st_y hf rfl rfl rfl (y_fieldAddr fo_40_0 rfl rfl) ?_
   clear hf a; intro a hf
   refine st_y hf rfl rfl rfl (y_load1 Try.isAgg38 rfl rfl (hm.blk_cell 0 rfl rfl)) ?_
   clear hf a; intro a hf
   refine st_y hf rfl rfl rfl (y_len_slice st_38.und rfl rfl) ?_
   clear hf a; intro a hf
   refine st_y hf rfl rfl rfl (y_move rfl rfl) ?_
   clear hf a; intro a hf
   refine st_end ?_
   refine x_then_n ?_
   refine wp_block ?_
   obtain ⟨r0_2, hl0_2, hq⟩ := bnd hq
   refine wp_forN _ (fun i1_1 xs1_1 a w => Fr 30 [(1, (.pointer (some ⟨b0_1, 0, none⟩))), (3, (.int .i64 (xs1_1))), (12, (.slice p0_1 u.codes.length c0_1)), (13, (.int .i64 ((u.codes.length : Int)))), (14, (.int .i64 (i1_1)))] a ∧ Mem w0 (hp w0) w [blk b0_1 [(.slice p0_1 u.codes.length c0_1)] 40]) (0) ((u.codes.length : Int)) hl0_2 ?_ ?_ ?_
   ·
    exact ⟨hf.sub ⟨rfl, rfl, rfl, rfl, rfl, trivial⟩, hm.pick [0] (by decide) rfl⟩
   ·
    clear hf hm
    rintro i1_1 xs1_1 a w ⟨hf, hm⟩ hi1_1 hi1_2 q0_1 hb0_1 ho0_2
    refine wp_seq ?_
    refine wp_region_lit ?_
    refine st_y hf rfl rfl rfl (y_lss rfl rfl rfl) ?_
    clear hf a; intro a hf
    refine st_end ?_
    refine x_then_n ?_
    refine wp_seq ?_
    refine cond_t hf rfl (decide_eq_true (by omega)) ?_
    refine wp_skip ?_
    refine x_then_n ?_
    refine wp_seq ?_
    refine wp_block ?_
    refine wp_seq ?_
    refine wp_region_lit ?_
    refine st_y hf rfl rfl rfl (y_move rfl rfl) ?_
    clear hf a; intro a hf
    obtain ⟨x1_1, hx1_1, hb0_1⟩ := bnd hb0_1
    obtain ⟨h1_1, hx1_2⟩ := getI_some.1 hx1_1
    obtain ⟨b1_1, o1_1, c1_1, he⟩ := idx_form' h1 hx1_2
    simp only [Value.slice.injEq, Option.some.injEq] at he; obtain ⟨rfl, _, rfl⟩ := he
    obtain ⟨_, _, hc1_1, hr1_1⟩ := ro_get' h1 hx1_2
    obtain ⟨_, _, rfl, rfl, _, _, rfl, rfl, h1_2⟩ := hr1_1
    obtain ⟨v1_1, rfl, -⟩ := id h1_2
    replace h1_2 : GT.rep (hp w0) [v1_1] x1_1.blocks := h1_2
    replace hc1_1 : CellsAt (hp w0) b1_1 (o1_1 + (i1_1).toNat * 3) [(.int .i64 (x1_1.params)), (.int .i64 (x1_1.regs)), v1_1] := hc1_1
    refine st_y hf rfl rfl rfl (y_indexAddr st_38 rfl rfl rfl h1_1 (idx_lt hx1_2)) ?_
    clear hf a; intro a hf
    refine st_y hf rfl rfl rfl (y_loadN (cs := [(.int .i64 (x1_1.params)), (.int .i64 (x1_1.regs)), v1_1]) Try.isAgg55 Try.sizeOf55 rfl rfl (hc1_1.mono hm.lez)) ?_
    clear hf a; intro a hf
    refine st_ef hf rfl rfl rfl (e_alloc hm Try.zeroValue55 rfl rfl) ?_
    clear hf a; rintro _ w1_1 a ⟨b1_2, rfl, hm⟩ hf
    refine st_y hf rfl rfl rfl (y_assign rfl rfl) ?_
    clear hf a; intro a hf
    refine st_ef0 hf rfl rfl (e_storeN 0 hf hm rfl Try.sizeOf55 rfl rfl rfl (one_cons rfl (one_cons rfl (one_cons (rep_one h1_2) one_nil))) rfl rfl) ?_
    clear hf a; rintro _ w1_2 a hm hf
    refine st_end ?_
    refine x_then_n ?_
    refine wp_seq ?_
    refine wp_seq ?_
    refine wp_region_lit ?_
    refine st_y hf rfl rfl rfl (y_loadN (cs := [(.slice (some ⟨b1_1, o1_1, none⟩) u.codes.length c0_1)]) Try.isAgg40 Try.sizeOf40 rfl rfl (hm.blk_at 1 rfl)) ?_
    clear hf a; intro a hf
    refine st_y hf rfl rfl rfl (y_move rfl rfl) ?_
    clear hf a; intro a hf
    obtain ⟨r1_1, hx1_3, hb0_1⟩ := bnd hb0_1
    refine st_ef hf rfl rfl rfl (e_call hf rfl Try.call89 rfl (impl_codeOk_ok _ u (.slice (some ⟨b1_1, o1_1, none⟩) u.codes.length c0_1) (hm.now h1) i1_1 _ hx1_3)) ?_
    clear hf a; rintro v1_2 w1_3 a ho1_1 hf
    obtain ⟨rfl, hB⟩ := ho1_1
    replace hm := hm.below' hB; clear hB
    refine st_y hf rfl rfl rfl (y_not rfl rfl) ?_
    clear hf a; intro a hf
    refine st_end ?_
    refine x_then_n ?_
    rcases bcases (!(r1_1)) with h1_3 | h1_3
    ·
     replace hb0_1 := (ite_t h1_3).symm.trans hb0_1
     have h1_4 := bnot_t' h1_3
     refine cond_t hf rfl h1_3 ?_
     refine wp_seq ?_
     refine wp_region_lit ?_
     refine st_y hf rfl rfl rfl (y_assign rfl rfl) ?_
     clear hf a; intro a hf
     refine st_end ?_
     refine x_then_n ?_
     refine wp_ret ?_
     refine x_then_ret ?_
     refine x_blk_ret ?_
     refine x_then_ret ?_
     refine x_then_ret ?_
     refine x_blk_ret ?_
     refine x_then_ret ?_
     obtain rfl := Option.some.inj hb0_1
     obtain rfl := ho0_2 _ rfl
     replace hq := sum_r hq
     obtain rfl := Option.some.inj hq
     refine ret_tmp hf Try.results61 rfl ?_
     exact ⟨rfl, hm.below⟩
    ·
     replace hb0_1 := (ite_f h1_3).symm.trans hb0_1
     have h1_5 := bnot_f' h1_3
     refine cond_f hf rfl h1_3 ?_
     refine wp_skip ?_
     refine x_then_n ?_
     refine wp_region_lit ?_
     refine st_y hf rfl rfl rfl (y_move rfl rfl) ?_
     clear hf a; intro a hf
     refine st_y hf rfl rfl rfl (y_loadN (cs := [(.int .i64 (x1_1.params)), (.int .i64 (x1_1.regs)), v1_1]) Try.isAgg55 Try.sizeOf55 rfl rfl (hm.blk_at 0 rfl)) ?_
     clear hf a; intro a hf
     obtain ⟨r1_2, hx1_4, hb0_1⟩ := bnd hb0_1
     refine st_ef hf rfl rfl rfl (e_call hf rfl Try.call62 rfl (impl_codeCount_ok _ x1_1 v1_1 (hm.now h1_2) _ hx1_4)) ?_
     clear hf a; rintro v1_3 w1_4 a ho1_2 hf
     obtain ⟨rfl, hB⟩ := ho1_2
     replace hm := hm.below' hB; clear hB
     refine st_y hf rfl rfl rfl (y_addw rfl rfl rfl) ?_
     clear hf a; intro a hf
     refine st_y hf rfl rfl rfl (y_assign rfl rfl) ?_
     clear hf a; intro a hf
     refine st_end ?_
     refine x_blk_n ?_
     refine x_then_n ?_
     refine wp_region_lit ?_
     refine st_y hf rfl rfl rfl (y_add64 rfl rfl rfl (by omega) (by omega)) ?_
     clear hf a; intro a hf
     refine st_y hf rfl rfl rfl (y_move rfl rfl) ?_
     clear hf a; intro a hf
     refine st_end ?_
     refine x_then_n ?_
     obtain rfl := Option.some.inj hb0_1
     exact ⟨_, rfl, hf.sub ⟨rfl, rfl, rfl, rfl, rfl, trivial⟩, hm.pick [1] (by decide) rfl⟩
   ·
    clear hf hm
    rintro i0_1 xs0_1 a w ⟨hf, hm⟩ hi0_1 hi0_2 rfl
    replace hq := sum_l hq
    refine wp_seq ?_
    refine wp_region_lit ?_
    refine st_y hf rfl rfl rfl (y_lss rfl rfl rfl) ?_
    clear hf a; intro a hf
    refine st_end ?_
    refine x_then_n ?_
    refine wp_seq ?_
    refine cond_f hf rfl (decide_eq_false (by omega)) ?_
    refine wp_exit ?_
    refine x_then_exit ?_
    refine x_then_exit ?_
    refine x_blk_hit ?_
    refine x_then_n ?_
    refine wp_seq ?_
    refine wp_region_lit ?_
    refine st_y hf rfl rfl rfl (y_move rfl rfl) ?_
    clear hf a; intro a hf
    refine st_y hf rfl rfl rfl (y_leq rfl rfl rfl) ?_
    clear hf a; intro a hf
    refine st_y hf rfl rfl rfl (y_assign rfl rfl) ?_
    clear hf a; intro a hf
    refine st_end ?_
    refine x_then_n ?_
    refine wp_ret ?_
    obtain rfl := Option.some.inj hq
    refine ret_tmp hf Try.results61 rfl ?_
    exact ⟨rfl, hm.below⟩

theorem impl_mainParams_ok (w0 : World) (u : Unit_) (v1 : Value) (h1 : GT.rep (hp w0) [v1] u.codes) (r : Int) (hq : impl_mainParams u = some r) :
    Con Try.prog 81 [(.agg #[v1])] w0 (fun v w' => v = (.int .i64 (r)) ∧ Below w0.heap.size w0 w') := by
  unfold impl_mainParams at hq
  refine con_body (l := [(0, (.agg #[v1]))]) Try.func81 rfl Try.ntmps81 (Args.get ⟨rfl, trivial⟩) rfl ?_
  intro a hf
  have hm := Mem.start w0
  refine wp_seq ?_
  refine wp_region_lit ?_
  refine st_ef hf rfl rfl rfl (e_box hf hm rfl rfl rfl) ?_
  clear hf a; rintro _ w0_1 a ⟨b0_1, rfl, hm⟩ hf
  refine st_y hf rfl rfl rfl (y_assign rfl rfl) ?_
  clear hf a; intro a hf
  refine st_end ?_
  refine x_then_n ?_
  refine wp_seq ?_
  refine wp_region_lit ?_
  refine st_y hf rfl rfl rfl (y_fieldAddr fo_40_0 rfl rfl) ?_
  clear hf a; intro a hf
  refine st_y hf rfl rfl rfl (y_load1 Try.isAgg38 rfl rfl (hm.blk_cell 0 rfl rfl)) ?_
  clear hf a; intro a hf
  refine st_y hf rfl rfl rfl (y_fieldAddr fo_40_0 rfl rfl) ?_
  clear hf a; intro a hf
  refine st_y hf rfl rfl rfl (y_load1 Try.isAgg38 rfl rfl (hm.blk_cell 0 rfl rfl)) ?_
  clear hf a; intro a hf
  obtain ⟨p0_1, c0_1, he, hl0_1⟩ := ro_slice h1
  subst he
  refine st_y hf rfl rfl rfl (y_len_slice st_38.und rfl rfl) ?_
  clear hf a; intro a hf
  refine st_y hf rfl rfl rfl (y_sub64 rfl rfl rfl (by omega) (by omega)) ?_
  clear hf a; intro a hf
  obtain ⟨x0_1, hx0_1, hq⟩ := bnd hq
  obtain ⟨h0_1, hx0_2⟩ := getI_some.1 hx0_1
  obtain ⟨b0_2, o0_1, c0_2, he⟩ := idx_form' h1 hx0_2
  simp only [Value.slice.injEq, Option.some.injEq] at he; obtain ⟨rfl, _, rfl⟩ := he
  obtain ⟨_, _, hc0_1, hr0_1⟩ := ro_get' h1 hx0_2
  obtain ⟨_, _, rfl, rfl, _, _, rfl, rfl, h0_2⟩ := hr0_1
  obtain ⟨v0_1, rfl, -⟩ := id h0_2
  replace h0_2 : GT.rep (hp w0) [v0_1] x0_1.blocks := h0_2
  replace hc0_1 : CellsAt (hp w0) b0_2 (o0_1 + (((u.codes.length : Int)) - 1).toNat * 3) [(.int .i64 (x0_1.params)), (.int .i64 (x0_1.regs)), v0_1] := hc0_1
  refine st_y hf rfl rfl rfl (y_indexAddr st_38 rfl rfl rfl h0_1 (idx_lt hx0_2)) ?_
  clear hf a; intro a hf
  refine st_y hf rfl rfl rfl (y_fieldAddr fo_55_0 rfl rfl) ?_
  clear hf a; intro a hf
  refine st_y hf rfl rfl rfl (y_load1 Try.isAgg3 rfl rfl ((hc0_1.mono hm.lez).cell (j := 0) rfl)) ?_
  clear hf a; intro a hf
  refine st_y hf rfl rfl rfl (y_assign rfl rfl) ?_
  clear hf a; intro a hf
  refine st_end ?_
  refine x_then_n ?_
  refine wp_ret ?_
  obtain rfl := Option.some.inj hq
  refine ret_tmp hf Try.results81 rfl ?_
  exact ⟨rfl, hm.below⟩

theorem impl_bytesOk_1_ok (w0 : World) (v_ : Int) (r : Bool) (hq : impl_bytesOk_1 v_ = some r) :
    Con Try.prog 103 [(.int .i64 (v_))] w0 (fun v w' => v = (.bool (r)) ∧ Below w0.heap.size w0 w') := by
  unfold impl_bytesOk_1 at hq
  refine con_body (l := [(0, (.int .i64 (v_)))]) Try.func103 rfl Try.ntmps103 (Args.get ⟨rfl, trivial⟩) rfl ?_
  intro a hf
  have hm := Mem.start w0
  refine wp_seq ?_
  refine wp_region_lit ?_
  refine st_y hf rfl rfl rfl (y_assign rfl rfl) ?_
  clear hf a; intro a hf
  refine st_end ?_
  refine x_then_n ?_
  refine wp_seq ?_
  refine wp_region_lit ?_
  refine st_y hf rfl rfl rfl (y_move rfl rfl) ?_
  clear hf a; intro a hf
  obtain ⟨r0_1, hx0_1, hq⟩ := bnd hq
  refine st_ef hf rfl rfl rfl (e_call hf rfl Try.call104 rfl (impl_isByte_ok _ v_ _ hx0_1)) ?_
  clear hf a; rintro v0_1 w0_1 a ho0_1 hf
  obtain ⟨rfl, hB⟩ := ho0_1
  replace hm := hm.below' hB; clear hB
  refine st_y hf rfl rfl rfl (y_not rfl rfl) ?_
  clear hf a; intro a hf
  refine st_y hf rfl rfl rfl (y_assign rfl rfl) ?_
  clear hf a; intro a hf
  refine st_end ?_
  refine x_then_n ?_
  refine wp_ret ?_
  obtain rfl := Option.some.inj hq
  refine ret_tmp hf Try.results103 rfl ?_
  exact ⟨rfl, hm.below⟩

theorem impl_bytesOk_ok (w0 : World) (in_ : List Int) (v1 : Value) (h1 : GT.rep (hp w0) [v1] in_) (n_ : Int) (r : Bool) (hq : impl_bytesOk in_ n_ = some r) :
    Con Try.prog 80 [v1, (.int .i64 (n_))] w0 (fun v w' => v = (.bool (r)) ∧ Below w0.heap.size w0 w') := by
  unfold impl_bytesOk at hq
  refine con_body (l := [(0, v1), (1, (.int .i64 (n_)))]) Try.func80 rfl Try.ntmps80 (Args.get ⟨rfl, rfl, trivial⟩) rfl ?_
  intro a hf
  have hm := Mem.start w0
  refine wp_seq ?_
  refine wp_region_lit ?_
  refine st_y hf rfl rfl rfl (y_assign rfl rfl) ?_
  clear hf a; intro a hf
  refine st_end ?_
  refine x_then_n ?_
  refine wp_seq ?_
  obtain ⟨s0_1, hq0_1, hq⟩ := bnd hq
  refine code_cut (K := fun a w => Fr 14 [(4, (.bool (s0_1)))] a ∧ Mem w0 (hp w0) w []) ?_ ?_
  ·
   refine wp_region_lit ?_
   refine st_y hf rfl rfl rfl (y_move rfl rfl) ?_
   clear hf a; intro a hf
   obtain ⟨p1_1, c1_1, he, hl1_1⟩ := ro_slice h1
   subst he
   refine st_y hf rfl rfl rfl (y_len_slice st_26.und rfl rfl) ?_
   clear hf a; intro a hf
   refine st_y hf rfl rfl rfl (y_move rfl rfl) ?_
   clear hf a; intro a hf
   refine st_y hf rfl rfl rfl (y_eql rfl rfl rfl) ?_
   clear hf a; intro a hf
   refine st_y hf rfl rfl rfl (y_move rfl rfl) ?_
   clear hf a; intro a hf
   rcases bcases (decide (((in_.length : Int)) = n_)) with h1_1 | h1_1
   ·
    replace hq0_1 := (ite_t h1_1).symm.trans hq0_1
    have h1_2 := of_decide_eq_true h1_1
    refine st_yg hf rfl rfl (lk_b rfl h1_1) rfl rfl (y_move rfl rfl) ?_
    clear hf a; intro a hf
    obtain ⟨r1_1, hx1_1, hq0_1⟩ := bnd hq0_1
    refine st_efg hf rfl rfl (lk_b rfl h1_1) rfl rfl (e_call hf rfl Try.call102 rfl (slices_ContainsFunc_S_int_int_ok _ in_ (.slice p1_1 in_.length c1_1) (hm.now h1) (fun y0 => impl_bytesOk_1 y0) (.func (.func 103) #[] #[]) (fun w y0 r hB hq => ⟨103, [], rfl, Try.call103, impl_bytesOk_1_ok w y0  r hq⟩) _ hx1_1)) ?_
    clear hf a; rintro v1_1 w1_1 a ho1_1 hf
    obtain ⟨rfl, hB⟩ := ho1_1
    replace hm := hm.below' hB; clear hB
    refine st_yg hf rfl rfl (lk_b rfl h1_1) rfl rfl (y_not rfl rfl) ?_
    clear hf a; intro a hf
    refine st_y hf rfl rfl rfl (y_pick_t rfl (ev_b rfl h1_1) rfl) ?_
    clear hf a; intro a hf
    refine st_y hf rfl rfl rfl (y_assign rfl rfl) ?_
    clear hf a; intro a hf
    refine st_end ?_
    refine x_then_n ?_
    obtain rfl := Option.some.inj hq0_1
    exact ⟨hf.sub ⟨rfl, trivial⟩, hm.pick [] (by decide) rfl⟩
   ·
    replace hq0_1 := (ite_f h1_1).symm.trans hq0_1
    have h1_3 := of_decide_eq_false h1_1
    refine st_no hf rfl rfl (lk_b rfl h1_1) rfl rfl rfl ?_
    clear hf a; intro a hf
    refine st_no hf rfl rfl (lk_b rfl h1_1) rfl rfl rfl ?_
    clear hf a; intro a hf
    refine st_no hf rfl rfl (lk_b rfl h1_1) rfl rfl rfl ?_
    clear hf a; intro a hf
    refine st_y hf rfl rfl rfl (y_pick_f rfl (ev_b rfl h1_1) rfl) ?_
    clear hf a; intro a hf
    refine st_y hf rfl rfl rfl (y_assign rfl rfl) ?_
    clear hf a; intro a hf
    refine st_end ?_
    refine x_then_n ?_
    obtain rfl := Option.some.inj hq0_1
    exact ⟨hf.sub ⟨rfl, trivial⟩, hm.pick [] (by decide) rfl⟩
  ·
   clear hf hm
   rintro a w ⟨hf, hm⟩
   refine x_then_n ?_
   refine wp_ret ?_
   obtain rfl := Option.some.inj hq
   refine ret_tmp hf Try.results80 rfl ?_
   exact ⟨rfl, hm.below⟩

theorem impl_unitRuns_ok (w0 : World) (u : Unit_) (v1 : Value) (h1 : GT.rep (hp w0) [v1] u.codes) (in_ : List Int) (v2 : Value) (h2 : GT.rep (hp w0) [v2] in_) (steps : Int) (r : Bool) (hq : impl_unitRuns u in_ steps = some r) :
    Con Try.prog 53 [(.agg #[v1]), v2, (.int .i64 (steps))] w0 (fun v w' => v = (.bool (r)) ∧ Below w0.heap.size w0 w') := by
  unfold impl_unitRuns at hq
  refine con_body (l := [(0, (.agg #[v1])), (1, v2), (2, (.int .i64 (steps)))]) Try.func53 rfl Try.ntmps53 (Args.get ⟨rfl, rfl, rfl, trivial⟩) rfl ?_
  intro a hf
  have hm := Mem.start w0
  refine wp_seq ?_
  refine wp_region_lit ?_
  refine st_ef hf rfl rfl rfl (e_box hf hm rfl rfl rfl) ?_
  clear hf a; rintro _ w0_1 a ⟨b0_1, rfl, hm⟩ hf
  refine st_y hf rfl rfl rfl (y_assign rfl rfl) ?_
  clear hf a; intro a hf
  refine st_end ?_
  refine x_then_n ?_
  refine wp_seq ?_
  obtain ⟨s0_1, hq0_1, hq⟩ := bnd hq
  refine code_cut (K := fun a w => Fr 19 [(6, (.bool (s0_1)))] a ∧ Mem w0 (hp w0) w []) ?_ ?_
  ·
   refine wp_region_lit ?_
   refine st_y hf rfl rfl rfl (y_loadN (cs := [v1]) Try.isAgg40 Try.sizeOf40 rfl rfl (hm.blk_at 0 rfl)) ?_
   clear hf a; intro a hf
   obtain ⟨r1_1, hx1_1, hq0_1⟩ := bnd hq0_1
   refine st_ef hf rfl rfl rfl (e_call hf rfl Try.call61 rfl (impl_UnitValid_ok _ u v1 (hm.now h1) _ hx1_1)) ?_
   clear hf a; rintro v1_1 w1_1 a ho1_1 hf
   obtain ⟨rfl, hB⟩ := ho1_1
   replace hm := hm.below' hB; clear hB
   refine st_y hf rfl rfl rfl (y_move rfl rfl) ?_
   clear hf a; intro a hf
   rcases bcases (r1_1) with h1_1 | h1_1
   ·
    replace hq0_1 := (ite_t h1_1).symm.trans hq0_1
    refine st_yg hf rfl rfl (lk_b rfl h1_1) rfl rfl (y_move rfl rfl) ?_
    clear hf a; intro a hf
    refine st_yg hf rfl rfl (lk_b rfl h1_1) rfl rfl (y_loadN (cs := [v1]) Try.isAgg40 Try.sizeOf40 rfl rfl (hm.blk_at 0 rfl)) ?_
    clear hf a; intro a hf
    obtain ⟨r1_2, hx1_2, hq0_1⟩ := bnd hq0_1
    refine st_efg hf rfl rfl (lk_b rfl h1_1) rfl rfl (e_call hf rfl Try.call81 rfl (impl_mainParams_ok _ u v1 (hm.now h1) _ hx1_2)) ?_
    clear hf a; rintro v1_2 w1_2 a ho1_2 hf
    obtain ⟨rfl, hB⟩ := ho1_2
    replace hm := hm.below' hB; clear hB
    obtain ⟨r1_3, hx1_3, hq0_1⟩ := bnd hq0_1
    refine st_efg hf rfl rfl (lk_b rfl h1_1) rfl rfl (e_call hf rfl Try.call80 rfl (impl_bytesOk_ok _ in_ v2 (hm.now h2) r1_2 _ hx1_3)) ?_
    clear hf a; rintro v1_3 w1_3 a ho1_3 hf
    obtain ⟨rfl, hB⟩ := ho1_3
    replace hm := hm.below' hB; clear hB
    refine st_y hf rfl rfl rfl (y_pick_t rfl (ev_b rfl h1_1) rfl) ?_
    clear hf a; intro a hf
    refine st_y hf rfl rfl rfl (y_move rfl rfl) ?_
    clear hf a; intro a hf
    rcases bcases (r1_3) with h1_2 | h1_2
    ·
     replace hq0_1 := (ite_t h1_2).symm.trans hq0_1
     refine st_yg hf rfl rfl (lk_b rfl h1_2) rfl rfl (y_move rfl rfl) ?_
     clear hf a; intro a hf
     obtain ⟨r1_4, hx1_4, hq0_1⟩ := bnd hq0_1
     refine st_efg hf rfl rfl (lk_b rfl h1_2) rfl rfl (e_call hf rfl Try.call73 rfl (impl_within_ok _ steps 0 60000 _ hx1_4)) ?_
     clear hf a; rintro v1_4 w1_4 a ho1_4 hf
     obtain ⟨rfl, hB⟩ := ho1_4
     replace hm := hm.below' hB; clear hB
     refine st_y hf rfl rfl rfl (y_pick_t rfl (ev_b rfl h1_2) rfl) ?_
     clear hf a; intro a hf
     refine st_y hf rfl rfl rfl (y_assign rfl rfl) ?_
     clear hf a; intro a hf
     refine st_end ?_
     refine x_then_n ?_
     obtain rfl := Option.some.inj hq0_1
     exact ⟨hf.sub ⟨rfl, trivial⟩, hm.pick [] (by decide) rfl⟩
    ·
     replace hq0_1 := (ite_f h1_2).symm.trans hq0_1
     refine st_no hf rfl rfl (lk_b rfl h1_2) rfl rfl rfl ?_
     clear hf a; intro a hf
     refine st_no hf rfl rfl (lk_b rfl h1_2) rfl rfl rfl ?_
     clear hf a; intro a hf
     refine st_y hf rfl rfl rfl (y_pick_f rfl (ev_b rfl h1_2) rfl) ?_
     clear hf a; intro a hf
     refine st_y hf rfl rfl rfl (y_assign rfl rfl) ?_
     clear hf a; intro a hf
     refine st_end ?_
     refine x_then_n ?_
     obtain rfl := Option.some.inj hq0_1
     exact ⟨hf.sub ⟨rfl, trivial⟩, hm.pick [] (by decide) rfl⟩
   ·
    replace hq0_1 := (ite_f h1_1).symm.trans hq0_1
    refine st_no hf rfl rfl (lk_b rfl h1_1) rfl rfl rfl ?_
    clear hf a; intro a hf
    refine st_no hf rfl rfl (lk_b rfl h1_1) rfl rfl rfl ?_
    clear hf a; intro a hf
    refine st_no hf rfl rfl (lk_b rfl h1_1) rfl rfl rfl ?_
    clear hf a; intro a hf
    refine st_no hf rfl rfl (lk_b rfl h1_1) rfl rfl rfl ?_
    clear hf a; intro a hf
    refine st_y hf rfl rfl rfl (y_pick_f rfl (ev_b rfl h1_1) rfl) ?_
    clear hf a; intro a hf
    refine st_y hf rfl rfl rfl (y_move rfl rfl) ?_
    clear hf a; intro a hf
    refine st_no hf rfl rfl (lk_b rfl rfl) rfl rfl rfl ?_
    clear hf a; intro a hf
    refine st_no hf rfl rfl (lk_b rfl rfl) rfl rfl rfl ?_
    clear hf a; intro a hf
    refine st_y hf rfl rfl rfl (y_pick_f rfl (ev_b rfl rfl) rfl) ?_
    clear hf a; intro a hf
    refine st_y hf rfl rfl rfl (y_assign rfl rfl) ?_
    clear hf a; intro a hf
    refine st_end ?_
    refine x_then_n ?_
    obtain rfl := Option.some.inj hq0_1
    exact ⟨hf.sub ⟨rfl, trivial⟩, hm.pick [] (by decide) rfl⟩
  ·
   clear hf hm
   rintro a w ⟨hf, hm⟩
   refine x_then_n ?_
   refine wp_ret ?_
   obtain rfl := Option.some.inj hq
   refine ret_tmp hf Try.results53 rfl ?_
   exact ⟨rfl, hm.below⟩

theorem pimpl_running__code_1_ok (w0 : World) (f : Phi_) (v1 : Value) (h1 : GT.rep (hp w0) [v1] f.args) (c0_ : List Int) (v2 : Value) (h2 : GT.rep (hp w0) [v2] c0_) (bf0 : Nat) (hbf0 : w0.heap[bf0]? = some (.cells ([v2] : List Value).toArray 26 (0, 0))) (c1_ : Int) (bf1 : Nat) (hbf1 : w0.heap[bf1]? = some (.cells ([(.int .i64 (c1_))] : List Value).toArray 3 (0, 0))) (r : Int) (hq : pimpl_running__code_1 f c0_ c1_ = some r) :
    Con Try.prog 109 [(.agg #[(.int .i64 (f.to)), v1]), (.pointer (some ⟨bf0, 0, none⟩)), (.pointer (some ⟨bf1, 0, none⟩))] w0 (fun v w' => v = (.int .i64 (r)) ∧ Below w0.heap.size w0 w') := by
  unfold pimpl_running__code_1 at hq
  refine con_body (l := [(0, (.agg #[(.int .i64 (f.to)), v1])), (1, (.pointer (some ⟨bf0, 0, none⟩))), (2, (.pointer (some ⟨bf1, 0, none⟩)))]) Try.func109 rfl Try.ntmps109 (Args.get ⟨rfl, rfl, rfl, trivial⟩) rfl ?_
  intro a hf
  have hm := Mem.start w0
  refine wp_seq ?_
  refine wp_region_lit ?_
  refine st_ef hf rfl rfl rfl (e_box hf hm rfl rfl rfl) ?_
  clear hf a; rintro _ w0_1 a ⟨b0_1, rfl, hm⟩ hf
  refine st_y hf rfl rfl rfl (y_assign rfl rfl) ?_
  clear hf a; intro a hf
  refine st_end ?_
  refine x_then_n ?_
  refine wp_seq ?_
  refine wp_tree (.p 1 (.q 0 (.q 2 (.e 3 (.p 4 (.e 5 (.p 6 (.e 7 (.p 8 .fin) .nil)) .nil)) .nil)))) [0, 2, 3, 5] [1, 4, 6, 8] (fun w => Mem w0 (hp w0) w [blk b0_1 [(.int .i64 (f.to)), v1] 127]) (by kernel_rfl) (by kernel_rfl) (fun _ _ _ h => h.2) ?_
  replace hm := hm.drew
  have hS : Mem w0 (hp w0) _ [blk b0_1 [(.int .i64 (f.to)), v1] 127] := hm.pick [0] (by decide) rfl
  refine td_p hf rfl rfl rfl rfl (fun w => y_fieldAddr fo_127_1 rfl rfl) ?_
  clear hf a; intro a hf
  refine td_y hf rfl rfl rfl rfl hS (fun w hm => y_load1 Try.isAgg26 rfl rfl (hm.old_cell hbf0 rfl)) ?_
  clear hf a; intro a hf
  refine td_y hf rfl rfl rfl rfl hS (fun w hm => y_load1 Try.isAgg26 rfl rfl (hm.blk_cell 0 rfl rfl)) ?_
  clear hf a; intro a hf
  refine te_one ?_
  refine td_ef hf rfl rfl rfl rfl (ef_y hf (y_load1 Try.isAgg3 rfl rfl (hm.old_cell hbf1 rfl))) ?_
  clear hf a; rintro _ _ a ⟨rfl, rfl⟩ hf
  refine ⟨fun _ => hS, ?_⟩
  obtain ⟨x0_1, hx0_1, hq⟩ := bnd hq
  obtain ⟨h0_1, hx0_2⟩ := getI_some.1 hx0_1
  obtain ⟨b0_2, o0_1, c0_1, he⟩ := idx_form h1 hx0_2
  subst he
  refine td_p hf rfl rfl rfl rfl (fun w => y_indexAddr st_26 rfl rfl rfl h0_1 (idx_lt hx0_2)) ?_
  clear hf a; intro a hf
  refine te_one ?_
  refine td_ef hf rfl rfl rfl rfl (ef_y hf (y_load1 Try.isAgg3 rfl rfl ((flat_cells (cs := [(.int .i64 (x0_1))]) (hm.now h1) hx0_2 rfl).cell (j := 0) rfl))) ?_
  clear hf a; rintro _ _ a ⟨rfl, rfl⟩ hf
  refine ⟨fun _ => hS, ?_⟩
  obtain ⟨x0_2, hx0_3, hq⟩ := bnd hq
  obtain ⟨h0_2, hx0_4⟩ := getI_some.1 hx0_3
  obtain ⟨b0_3, o0_2, c0_2, he⟩ := idx_form h2 hx0_4
  subst he
  refine td_p hf rfl rfl rfl rfl (fun w => y_indexAddr st_26 rfl rfl rfl h0_2 (idx_lt hx0_4)) ?_
  clear hf a; intro a hf
  refine te_one ?_
  refine td_ef hf rfl rfl rfl rfl (ef_y hf (y_load1 Try.isAgg3 rfl rfl ((flat_cells (cs := [(.int .i64 (x0_2))]) (hm.now h2) hx0_4 rfl).cell (j := 0) rfl))) ?_
  clear hf a; rintro _ _ a ⟨rfl, rfl⟩ hf
  refine ⟨fun h => absurd h (by decide), ?_⟩
  refine td_p hf rfl rfl rfl rfl (fun w => y_assign rfl rfl) ?_
  clear hf a; intro a hf
  clear hS; refine td_end ?_
  refine x_then_n ?_
  refine wp_ret ?_
  obtain rfl := Option.some.inj hq
  refine ret_tmp hf Try.results109 rfl ?_
  exact ⟨rfl, hm.below⟩

theorem impl_mapped_impl_Phi_int_ok (w0 : World) (list : List Phi_) (v1 : Value) (h1 : GT.rep (hp w0) [v1] list) (f : Phi_ → Option Int) (fv1 : Value) (hfn1 : ∀ (w : World) (y0 : Phi_) (z1 : Value) (_ : GT.rep (hp w) [z1] y0.args) (r : Int), Below w0.heap.size w0 w → f y0 = some r → FnOk Try.prog fv1 [(.agg #[(.int .i64 (y0.to)), z1])] w (fun v w' => v = (.int .i64 (r)) ∧ Below w.heap.size w w')) (r : (List Int)) (hq : impl_mapped_impl_Phi_int list f = some r) :
    Con Try.prog 108 [v1, fv1] w0 (fun v w' => ∃ (x1 : Value), v = x1 ∧ Mem w0 (hp w0) w' [ow [x1] r]) := by
  unfold impl_mapped_impl_Phi_int at hq
  refine con_body (l := [(0, v1), (1, fv1)]) Try.func108 rfl Try.ntmps108 (Args.get ⟨rfl, rfl, trivial⟩) rfl ?_
  intro a hf
  have hm := Mem.start w0
  refine wp_seq ?_
  refine wp_region_lit ?_
  refine st_y hf rfl rfl rfl (y_assign rfl rfl) ?_
  clear hf a; intro a hf
  refine st_end ?_
  refine x_then_n ?_
  refine wp_seq ?_
  refine wp_region_lit ?_
  refine st_y hf rfl rfl rfl (y_assign rfl rfl) ?_
  clear hf a; intro a hf
  refine st_end ?_
  refine x_then_n ?_
  refine wp_seq ?_
  refine wp_seq ?_
  refine wp_region_lit ?_
  refine st_y hf rfl rfl rfl (y_move rfl rfl) ?_
  clear hf a; intro a hf
  obtain ⟨p0_1, c0_1, he, hl0_1⟩ := ro_slice h1
  subst he
  refine st_y hf rfl rfl rfl (y_len_slice st_59.und rfl rfl) ?_
  clear hf a; intro a hf
  refine st_y hf rfl rfl rfl (y_move rfl rfl) ?_
  clear hf a; intro a hf
  refine st_end ?_
  refine x_then_n ?_
  refine wp_block ?_
  obtain ⟨r0_1, hl0_2, hq⟩ := bnd hq
  refine wp_forN _ (fun i1_1 xs1_1 a w => ∃ (v1_1 : Value), Fr 22 [(1, fv1), (5, v1_1), (8, (.slice p0_1 list.length c0_1)), (9, (.int .i64 ((list.length : Int)))), (10, (.int .i64 (i1_1)))] a ∧ Mem w0 (hp w0) w [ow [v1_1] xs1_1]) (0) ((list.length : Int)) hl0_2 ?_ ?_ ?_
  ·
   have hm := hm.nilow (α := Int)
   exact ⟨(.slice none 0 0), hf.sub ⟨rfl, rfl, rfl, rfl, rfl, trivial⟩, hm.pick [0] (by decide) rfl⟩
  ·
   clear hf hm
   rintro i1_1 xs1_1 a w ⟨v1_1, hf, hm⟩ hi1_1 hi1_2 q0_1 hb0_1 ho0_1
   refine wp_seq ?_
   refine wp_region_lit ?_
   refine st_y hf rfl rfl rfl (y_lss rfl rfl rfl) ?_
   clear hf a; intro a hf
   refine st_end ?_
   refine x_then_n ?_
   refine wp_seq ?_
   refine cond_t hf rfl (decide_eq_true (by omega)) ?_
   refine wp_skip ?_
   refine x_then_n ?_
   refine wp_seq ?_
   refine wp_block ?_
   refine wp_seq ?_
   refine wp_region_lit ?_
   obtain ⟨x1_1, hx1_1, hb0_1⟩ := bnd hb0_1
   obtain ⟨h1_1, hx1_2⟩ := getI_some.1 hx1_1
   obtain ⟨b1_1, o1_1, c1_1, he⟩ := idx_form' h1 hx1_2
   simp only [Value.slice.injEq, Option.some.injEq] at he; obtain ⟨rfl, _, rfl⟩ := he
   obtain ⟨_, _, hc1_1, hr1_1⟩ := ro_get' h1 hx1_2
   obtain ⟨_, _, rfl, rfl, h1_2⟩ := hr1_1
   obtain ⟨v1_2, rfl, -⟩ := id h1_2
   replace h1_2 : GT.rep (hp w0) [v1_2] x1_1.args := h1_2
   replace hc1_1 : CellsAt (hp w0) b1_1 (o1_1 + (i1_1).toNat * 2) [(.int .i64 (x1_1.to)), v1_2] := hc1_1
   refine st_y hf rfl rfl rfl (y_indexAddr st_59 rfl rfl rfl h1_1 (idx_lt hx1_2)) ?_
   clear hf a; intro a hf
   refine st_y hf rfl rfl rfl (y_loadN (cs := [(.int .i64 (x1_1.to)), v1_2]) Try.isAgg127 Try.sizeOf127 rfl rfl (hc1_1.mono hm.lez)) ?_
   clear hf a; intro a hf
   refine st_ef hf rfl rfl rfl (e_alloc hm Try.zeroValue127 rfl rfl) ?_
   clear hf a; rintro _ w1_1 a ⟨b1_2, rfl, hm⟩ hf
   refine st_ef0 hf rfl rfl (e_storeN 0 hf hm rfl Try.sizeOf127 rfl rfl rfl (one_cons rfl (one_cons (rep_one h1_2) one_nil)) rfl rfl) ?_
   clear hf a; rintro _ w1_2 a hm hf
   refine st_end ?_
   refine x_then_n ?_
   refine wp_region_lit ?_
   refine st_y hf rfl rfl rfl (y_move rfl rfl) ?_
   clear hf a; intro a hf
   refine st_y hf rfl rfl rfl (y_move rfl rfl) ?_
   clear hf a; intro a hf
   refine st_y hf rfl rfl rfl (y_loadN (cs := [(.int .i64 (x1_1.to)), v1_2]) Try.isAgg127 Try.sizeOf127 rfl rfl (hm.blk_at 0 rfl)) ?_
   clear hf a; intro a hf
   obtain ⟨r1_1, hx1_3, hb0_1⟩ := bnd hb0_1
   refine st_ef hf rfl rfl rfl (e_callv hf rfl rfl rfl (hfn1 _ x1_1 v1_2 (hm.now h1_2) _ hm.below hx1_3)) ?_
   clear hf a; rintro v1_3 w1_3 a ho1_1 hf
   obtain ⟨rfl, hB⟩ := ho1_1
   replace hm := hm.below' hB; clear hB
   refine st_ef hf rfl rfl rfl (e_build (vs := #[(0, (.int .i64 (r1_1)))]) (cs := [(.int .i64 (r1_1))]) et_26 hf hm rfl rfl (by kernel_rfl) rfl rfl) ?_
   clear hf a; rintro _ w1_4 a ⟨b1_3, rfl, hm⟩ hf
   replace hm := hm.lit (xs := ([r1_1] : List Int)) 0 rfl rfl rfl rfl
   obtain ⟨ys1_1, hx1_4, hb0_1⟩ := bnd hb0_1
   obtain ⟨h1_3, h1_3e⟩ := appM_some.1 hx1_4
   refine st_ef hf rfl rfl rfl (e_append 2 et_26 hf hm rfl (hm.ow_rep 0 rfl) rfl rfl rfl h1_3) ?_
   clear hf a; rintro v1_4 w1_5 a hm hf
   rw [h1_3e] at hm
   refine st_y hf rfl rfl rfl (y_assign rfl rfl) ?_
   clear hf a; intro a hf
   refine st_end ?_
   refine x_blk_n ?_
   refine x_then_n ?_
   refine wp_region_lit ?_
   refine st_y hf rfl rfl rfl (y_add64 rfl rfl rfl (by omega) (by omega)) ?_
   clear hf a; intro a hf
   refine st_y hf rfl rfl rfl (y_move rfl rfl) ?_
   clear hf a; intro a hf
   refine st_end ?_
   refine x_then_n ?_
   obtain rfl := Option.some.inj hb0_1
   exact ⟨_, rfl, v1_4, hf.sub ⟨rfl, rfl, rfl, rfl, rfl, trivial⟩, hm.pick [2] (by decide) rfl⟩
  ·
   clear hf hm
   rintro i0_1 xs0_1 a w ⟨v0_1, hf, hm⟩ hi0_1 hi0_2 rfl
   replace hq := sum_l hq
   refine wp_seq ?_
   refine wp_region_lit ?_
   refine st_y hf rfl rfl rfl (y_lss rfl rfl rfl) ?_
   clear hf a; intro a hf
   refine st_end ?_
   refine x_then_n ?_
   refine wp_seq ?_
   refine cond_f hf rfl (decide_eq_false (by omega)) ?_
   refine wp_exit ?_
   refine x_then_exit ?_
   refine x_then_exit ?_
   refine x_blk_hit ?_
   refine x_then_n ?_
   refine wp_seq ?_
   refine wp_region_lit ?_
   refine st_y hf rfl rfl rfl (y_move rfl rfl) ?_
   clear hf a; intro a hf
   refine st_y hf rfl rfl rfl (y_assign rfl rfl) ?_
   clear hf a; intro a hf
   refine st_end ?_
   refine x_then_n ?_
   refine wp_ret ?_
   obtain rfl := Option.some.inj hq
   refine ret_tmp hf Try.results108 rfl ?_
   exact ⟨v0_1, rfl, hm.pick [0] (by decide) rfl⟩

theorem impl_stop_ok (w0 : World) (end_ : Int) (r : (Unit) ⊕ (Int)) (hq : impl_stop end_ = some r) :
    ConX Try.prog 142 [(.int .i64 (end_))] w0 (fun v w' => ∃ q, r = .inl q ∧ (v = (.tuple #[]) ∧ Below w0.heap.size w0 w')) (fun c w' => ∃ q, r = .inr q ∧ (c = pch 153 q ∧ Below w0.heap.size w0 w')) := by
  unfold impl_stop at hq
  refine con_bodyx (l := [(0, (.int .i64 (end_)))]) Try.func142 rfl Try.ntmps142 (Args.get ⟨rfl, trivial⟩) rfl ?_
  intro a hf
  have hm := Mem.start w0
  refine wp_region_lit ?_
  refine st_y hf rfl rfl rfl (y_move rfl rfl) ?_
  clear hf a; intro a hf
  refine st_y hf rfl rfl rfl (y_makeIface Try.underlying153 rfl rfl) ?_
  clear hf a; intro a hf
  refine st_efx0 hf rfl rfl (e_panic hf rfl rfl) ?_ (fun _ _ _ h => h.elim)
  rintro c w ⟨rfl, rfl⟩
  obtain rfl := Option.some.inj hq
  refine And.intro hf.defers (rx_intro ?_)
  exact ⟨_, rfl, rfl, hm.below⟩

theorem pimpl_running__tick_ok (w0 : World) (hz : Heap) (m : running) (bp0 : Nat) (v1p : Value) (h1p : GT.rep hz [v1p] m.u.codes) (v2p : Value) (v3p : Value) (hm0 : Mem w0 hz w0 [blk bp0 [v1p, (.int .i64 (m.steps)), (.int .i64 (m.used)), v2p, (.int .i64 ((m.cells.getD 0 0))), (.int .i64 ((m.cells.getD 1 0))), (.int .i64 ((m.cells.getD 2 0))), (.int .i64 ((m.cells.getD 3 0))), (.int .i64 ((m.cells.getD 4 0))), (.int .i64 ((m.cells.getD 5 0))), (.int .i64 ((m.cells.getD 6 0))), (.int .i64 ((m.cells.getD 7 0))), (.int .i64 ((m.cells.getD 8 0))), (.int .i64 ((m.cells.getD 9 0))), (.int .i64 ((m.cells.getD 10 0))), (.int .i64 ((m.cells.getD 11 0))), (.int .i64 ((m.cells.getD 12 0))), (.int .i64 ((m.cells.getD 13 0))), (.int .i64 ((m.cells.getD 14 0))), (.int .i64 ((m.cells.getD 15 0))), v3p] 106, ow [v2p] m.said, ow [v3p] m.trace]) (r : (running) ⊕ (Int × running)) (hq : pimpl_running__tick m = some r) :
    ConX Try.prog 111 [(.pointer (some ⟨bp0, 0, none⟩))] w0 (fun v w' => ∃ q, r = .inl q ∧ (∃ (x2 : Value) (x3 : Value), v = (.tuple #[]) ∧ Mem w0 hz w' [blk bp0 [v1p, (.int .i64 (q.steps)), (.int .i64 (q.used)), x2, (.int .i64 ((q.cells.getD 0 0))), (.int .i64 ((q.cells.getD 1 0))), (.int .i64 ((q.cells.getD 2 0))), (.int .i64 ((q.cells.getD 3 0))), (.int .i64 ((q.cells.getD 4 0))), (.int .i64 ((q.cells.getD 5 0))), (.int .i64 ((q.cells.getD 6 0))), (.int .i64 ((q.cells.getD 7 0))), (.int .i64 ((q.cells.getD 8 0))), (.int .i64 ((q.cells.getD 9 0))), (.int .i64 ((q.cells.getD 10 0))), (.int .i64 ((q.cells.getD 11 0))), (.int .i64 ((q.cells.getD 12 0))), (.int .i64 ((q.cells.getD 13 0))), (.int .i64 ((q.cells.getD 14 0))), (.int .i64 ((q.cells.getD 15 0))), x3] 106, ow [x2] q.said, ow [x3] q.trace])) (fun c w' => ∃ q, r = .inr q ∧ (∃ (x2 : Value) (x3 : Value), c = pch 153 q.1 ∧ Mem w0 hz w' [blk bp0 [v1p, (.int .i64 (q.2.steps)), (.int .i64 (q.2.used)), x2, (.int .i64 ((q.2.cells.getD 0 0))), (.int .i64 ((q.2.cells.getD 1 0))), (.int .i64 ((q.2.cells.getD 2 0))), (.int .i64 ((q.2.cells.getD 3 0))), (.int .i64 ((q.2.cells.getD 4 0))), (.int .i64 ((q.2.cells.getD 5 0))), (.int .i64 ((q.2.cells.getD 6 0))), (.int .i64 ((q.2.cells.getD 7 0))), (.int .i64 ((q.2.cells.getD 8 0))), (.int .i64 ((q.2.cells.getD 9 0))), (.int .i64 ((q.2.cells.getD 10 0))), (.int .i64 ((q.2.cells.getD 11 0))), (.int .i64 ((q.2.cells.getD 12 0))), (.int .i64 ((q.2.cells.getD 13 0))), (.int .i64 ((q.2.cells.getD 14 0))), (.int .i64 ((q.2.cells.getD 15 0))), x3] 106, ow [x2] q.2.said, ow [x3] q.2.trace])) := by
  unfold pimpl_running__tick at hq
  refine con_bodyx (l := [(0, (.pointer (some ⟨bp0, 0, none⟩)))]) Try.func111 rfl Try.ntmps111 (Args.get ⟨rfl, trivial⟩) rfl ?_
  intro a hf
  have hm := hm0
  refine wp_seq ?_
  refine wp_seq ?_
  refine wp_treeX (.p 0 (.p 1 (.p 2 (.p 4 (.p 5 (.p 6 (.q 3 (.e 7 (.p 8 .fin) .nil)))))))) [7] [0, 1, 2, 4, 5, 6, 8] (fun w => Mem w0 hz w [blk bp0 [v1p, (.int .i64 (m.steps)), (.int .i64 (m.used)), v2p, (.int .i64 ((m.cells.getD 0 0))), (.int .i64 ((m.cells.getD 1 0))), (.int .i64 ((m.cells.getD 2 0))), (.int .i64 ((m.cells.getD 3 0))), (.int .i64 ((m.cells.getD 4 0))), (.int .i64 ((m.cells.getD 5 0))), (.int .i64 ((m.cells.getD 6 0))), (.int .i64 ((m.cells.getD 7 0))), (.int .i64 ((m.cells.getD 8 0))), (.int .i64 ((m.cells.getD 9 0))), (.int .i64 ((m.cells.getD 10 0))), (.int .i64 ((m.cells.getD 11 0))), (.int .i64 ((m.cells.getD 12 0))), (.int .i64 ((m.cells.getD 13 0))), (.int .i64 ((m.cells.getD 14 0))), (.int .i64 ((m.cells.getD 15 0))), v3p] 106, ow [v2p] m.said, ow [v3p] m.trace]) (by kernel_rfl) (by kernel_rfl) (fun _ _ _ _ e h => And.intro (e.symm.trans h.1) h.2) ?_
  replace hm := hm.drew
  have hS : Mem w0 hz _ [blk bp0 [v1p, (.int .i64 (m.steps)), (.int .i64 (m.used)), v2p, (.int .i64 ((m.cells.getD 0 0))), (.int .i64 ((m.cells.getD 1 0))), (.int .i64 ((m.cells.getD 2 0))), (.int .i64 ((m.cells.getD 3 0))), (.int .i64 ((m.cells.getD 4 0))), (.int .i64 ((m.cells.getD 5 0))), (.int .i64 ((m.cells.getD 6 0))), (.int .i64 ((m.cells.getD 7 0))), (.int .i64 ((m.cells.getD 8 0))), (.int .i64 ((m.cells.getD 9 0))), (.int .i64 ((m.cells.getD 10 0))), (.int .i64 ((m.cells.getD 11 0))), (.int .i64 ((m.cells.getD 12 0))), (.int .i64 ((m.cells.getD 13 0))), (.int .i64 ((m.cells.getD 14 0))), (.int .i64 ((m.cells.getD 15 0))), v3p] 106, ow [v2p] m.said, ow [v3p] m.trace] := hm.pick [0, 1, 2] (by decide) rfl
  refine td_p hf rfl rfl rfl rfl (fun w => y_move rfl rfl) ?_
  clear hf a; intro a hf
  refine td_p hf rfl rfl rfl rfl (fun w => y_nilptr rfl rfl) ?_
  clear hf a; intro a hf
  refine td_p hf rfl rfl rfl rfl (fun w => y_fieldAddr fo_106_2 rfl rfl) ?_
  clear hf a; intro a hf
  refine td_p hf rfl rfl rfl rfl (fun w => y_move rfl rfl) ?_
  clear hf a; intro a hf
  refine td_p hf rfl rfl rfl rfl (fun w => y_nilptr rfl rfl) ?_
  clear hf a; intro a hf
  refine td_p hf rfl rfl rfl rfl (fun w => y_fieldAddr fo_106_1 rfl rfl) ?_
  clear hf a; intro a hf
  refine td_y hf rfl rfl rfl rfl hS (fun w hm => y_load1 Try.isAgg3 rfl rfl (hm.blk_cell 0 rfl rfl)) ?_
  clear hf a; intro a hf
  refine te_one ?_
  refine td_ef hf rfl rfl rfl rfl (ef_y hf (y_load1 Try.isAgg3 rfl rfl (hm.blk_cell 0 rfl rfl))) ?_
  clear hf a; rintro _ _ a ⟨rfl, rfl⟩ hf
  refine ⟨fun _ => hS, ?_⟩
  refine td_p hf rfl rfl rfl rfl (fun w => y_eql rfl rfl rfl) ?_
  clear hf a; intro a hf
  clear hS; refine td_end ?_
  refine x_then_n ?_
  obtain ⟨c0_1, hq0_1, hq⟩ := bnd hq
  refine code_cut (K := fun a w => ∃ s0_1, c0_1 = .inl s0_1 ∧ Fr 19 [(0, (.pointer (some ⟨bp0, 0, none⟩)))] a ∧ Mem w0 hz w [blk bp0 [v1p, (.int .i64 (m.steps)), (.int .i64 (m.used)), v2p, (.int .i64 ((m.cells.getD 0 0))), (.int .i64 ((m.cells.getD 1 0))), (.int .i64 ((m.cells.getD 2 0))), (.int .i64 ((m.cells.getD 3 0))), (.int .i64 ((m.cells.getD 4 0))), (.int .i64 ((m.cells.getD 5 0))), (.int .i64 ((m.cells.getD 6 0))), (.int .i64 ((m.cells.getD 7 0))), (.int .i64 ((m.cells.getD 8 0))), (.int .i64 ((m.cells.getD 9 0))), (.int .i64 ((m.cells.getD 10 0))), (.int .i64 ((m.cells.getD 11 0))), (.int .i64 ((m.cells.getD 12 0))), (.int .i64 ((m.cells.getD 13 0))), (.int .i64 ((m.cells.getD 14 0))), (.int .i64 ((m.cells.getD 15 0))), v3p] 106, ow [v2p] m.said, ow [v3p] m.trace]) ?_ ?_
  ·
   rcases bcases (decide (m.used = m.steps)) with h1_1 | h1_1
   ·
    replace hq0_1 := (ite_t h1_1).symm.trans hq0_1
    have h1_2 := of_decide_eq_true h1_1
    refine cond_t hf rfl h1_1 ?_
    refine wp_region_lit ?_
    obtain ⟨r1_1, hx1_1, hq0_1⟩ := bnd hq0_1
    refine st_efx hf rfl rfl rfl (e_callx hf rfl Try.call142 rfl (impl_stop_ok _ 3 _ hx1_1)) ?_ ?_
    ·
     rintro c w1_1 ⟨q1_2, rfl, ho1_1⟩
     replace hq0_1 := sum_r hq0_1
     obtain ⟨rfl, hB⟩ := ho1_1
     replace hm := hm.below' hB; clear hB
     obtain rfl := Option.some.inj hq0_1
     replace hq := sum_r hq
     obtain rfl := Option.some.inj hq
     refine And.intro hf.defers (rx_intro ?_)
     exact ⟨_, rfl, v2p, v3p, rfl, hm.pick [0, 1, 2] (by decide) rfl⟩
    clear hf a; rintro v1_1 w1_2 a ⟨q1_1, rfl, ho1_1⟩ hf
    replace hq0_1 := sum_l hq0_1
    obtain ⟨rfl, hB⟩ := ho1_1
    replace hm := hm.below' hB; clear hB
    refine st_end ?_
    refine x_then_n ?_
    obtain rfl := Option.some.inj hq0_1
    exact ⟨_, rfl, hf.sub ⟨rfl, trivial⟩, hm.pick [0, 1, 2] (by decide) rfl⟩
   ·
    replace hq0_1 := (ite_f h1_1).symm.trans hq0_1
    have h1_3 := of_decide_eq_false h1_1
    refine cond_f hf rfl h1_1 ?_
    refine wp_skip ?_
    refine x_then_n ?_
    obtain rfl := Option.some.inj hq0_1
    exact ⟨_, rfl, hf.sub ⟨rfl, trivial⟩, hm.pick [0, 1, 2] (by decide) rfl⟩
  ·
   clear hf hm
   rintro a w ⟨s0_1, rfl, hf, hm⟩
   replace hq := sum_l hq
   refine x_then_n ?_
   refine wp_region_lit ?_
   refine st_y hf rfl rfl rfl (y_move rfl rfl) ?_
   clear hf a; intro a hf
   refine st_y hf rfl rfl rfl (y_nilptr rfl rfl) ?_
   clear hf a; intro a hf
   refine st_y hf rfl rfl rfl (y_fieldAddr fo_106_2 rfl rfl) ?_
   clear hf a; intro a hf
   refine st_y hf rfl rfl rfl (y_load1 Try.isAgg3 rfl rfl (hm.blk_cell 0 rfl rfl)) ?_
   clear hf a; intro a hf
   refine st_y hf rfl rfl rfl (y_addw rfl rfl rfl) ?_
   clear hf a; intro a hf
   refine st_y hf rfl rfl rfl (y_nilptr rfl rfl) ?_
   clear hf a; intro a hf
   refine st_y hf rfl rfl rfl (y_fieldAddr fo_106_2 rfl rfl) ?_
   clear hf a; intro a hf
   refine st_ef0 hf rfl rfl (e_store1 0 hf hm rfl Try.sizeOf3 rfl rfl rfl rfl rfl) ?_
   clear hf a; rintro _ w0_1 a hm hf
   refine st_end ?_
   obtain rfl := Option.some.inj hq
   refine ret_xn ?_
   refine ret_end hf Try.results111 ?_
   exact ⟨_, rfl, ⟨v2p, v3p, rfl, hm.pick [0, 1, 2] (by decide) rfl⟩⟩

theorem pimpl_running__doIns_1_ok (w0 : World) (i_ : Int) (c0_ : List Int) (v1 : Value) (h1 : GT.rep (hp w0) [v1] c0_) (bf0 : Nat) (hbf0 : w0.heap[bf0]? = some (.cells ([v1] : List Value).toArray 26 (0, 0))) (c1_ : Ins_) (v2 : Value) (h2 : GT.rep (hp w0) [v2] c1_.args) (bf1 : Nat) (hbf1 : w0.heap[bf1]? = some (.cells ([(.int .i64 (c1_.op)), (.int .i64 (c1_.to)), v2, (.int .i64 (c1_.n_))] : List Value).toArray 57 (0, 0))) (r : Int) (hq : pimpl_running__doIns_1 i_ c0_ c1_ = some r) :
    Con Try.prog 139 [(.int .i64 (i_)), (.pointer (some ⟨bf0, 0, none⟩)), (.pointer (some ⟨bf1, 0, none⟩))] w0 (fun v w' => v = (.int .i64 (r)) ∧ Below w0.heap.size w0 w') := by
  unfold pimpl_running__doIns_1 at hq
  refine con_body (l := [(0, (.int .i64 (i_))), (1, (.pointer (some ⟨bf0, 0, none⟩))), (2, (.pointer (some ⟨bf1, 0, none⟩)))]) Try.func139 rfl Try.ntmps139 (Args.get ⟨rfl, rfl, rfl, trivial⟩) rfl ?_
  intro a hf
  have hm := Mem.start w0
  refine wp_seq ?_
  refine wp_region_lit ?_
  refine st_y hf rfl rfl rfl (y_assign rfl rfl) ?_
  clear hf a; intro a hf
  refine st_end ?_
  refine x_then_n ?_
  refine wp_seq ?_
  refine wp_tree (.p 1 (.p 3 (.q 0 (.e 2 (.p 4 (.e 5 (.p 6 (.e 7 (.p 8 .fin) .nil)) .nil)) .nil)))) [2, 5] [1, 3, 4, 6, 8] (fun w => Mem w0 (hp w0) w []) (by kernel_rfl) (by kernel_rfl) (fun _ _ _ h => h.2) ?_
  replace hm := hm.drew
  have hS : Mem w0 (hp w0) _ [] := hm.pick [] (by decide) rfl
  refine td_p hf rfl rfl rfl rfl (fun w => y_fieldAddr fo_57_2 rfl rfl) ?_
  clear hf a; intro a hf
  refine td_p hf rfl rfl rfl rfl (fun w => y_move rfl rfl) ?_
  clear hf a; intro a hf
  refine td_y hf rfl rfl rfl rfl hS (fun w hm => y_load1 Try.isAgg26 rfl rfl (hm.old_cell hbf0 rfl)) ?_
  clear hf a; intro a hf
  refine te_one ?_
  refine td_ef hf rfl rfl rfl rfl (ef_y hf (y_load1 Try.isAgg26 rfl rfl (hm.old_cell hbf1 rfl))) ?_
  clear hf a; rintro _ _ a ⟨rfl, rfl⟩ hf
  refine ⟨fun _ => hS, ?_⟩
  obtain ⟨x0_1, hx0_1, hq⟩ := bnd hq
  obtain ⟨h0_1, hx0_2⟩ := getI_some.1 hx0_1
  obtain ⟨b0_1, o0_1, c0_1, he⟩ := idx_form h2 hx0_2
  subst he
  refine td_p hf rfl rfl rfl rfl (fun w => y_indexAddr st_26 rfl rfl rfl h0_1 (idx_lt hx0_2)) ?_
  clear hf a; intro a hf
  refine te_one ?_
  refine td_ef hf rfl rfl rfl rfl (ef_y hf (y_load1 Try.isAgg3 rfl rfl ((flat_cells (cs := [(.int .i64 (x0_1))]) (hm.now h2) hx0_2 rfl).cell (j := 0) rfl))) ?_
  clear hf a; rintro _ _ a ⟨rfl, rfl⟩ hf
  refine ⟨fun _ => hS, ?_⟩
  obtain ⟨x0_2, hx0_3, hq⟩ := bnd hq
  obtain ⟨h0_2, hx0_4⟩ := getI_some.1 hx0_3
  obtain ⟨b0_2, o0_2, c0_2, he⟩ := idx_form h1 hx0_4
  subst he
  refine td_p hf rfl rfl rfl rfl (fun w => y_indexAddr st_26 rfl rfl rfl h0_2 (idx_lt hx0_4)) ?_
  clear hf a; intro a hf
  refine te_one ?_
  refine td_ef hf rfl rfl rfl rfl (ef_y hf (y_load1 Try.isAgg3 rfl rfl ((flat_cells (cs := [(.int .i64 (x0_2))]) (hm.now h1) hx0_4 rfl).cell (j := 0) rfl))) ?_
  clear hf a; rintro _ _ a ⟨rfl, rfl⟩ hf
  refine ⟨fun h => absurd h (by decide), ?_⟩
  refine td_p hf rfl rfl rfl rfl (fun w => y_assign rfl rfl) ?_
  clear hf a; intro a hf
  clear hS; refine td_end ?_
  refine x_then_n ?_
  refine wp_ret ?_
  obtain rfl := Option.some.inj hq
  refine ret_tmp hf Try.results139 rfl ?_
  exact ⟨rfl, hm.below⟩

theorem pimpl_running__cell_ok (w0 : World) (m : running) (bp0 : Nat) (v1p : Value) (h1p : GT.rep (hp w0) [v1p] m.u.codes) (v2p : Value) (h2p : GT.rep (hp w0) [v2p] m.said) (v3p : Value) (h3p : GT.rep (hp w0) [v3p] m.trace) (hbbp0 : (hp w0) bp0 = some (.cells ([v1p, (.int .i64 (m.steps)), (.int .i64 (m.used)), v2p, (.int .i64 ((m.cells.getD 0 0))), (.int .i64 ((m.cells.getD 1 0))), (.int .i64 ((m.cells.getD 2 0))), (.int .i64 ((m.cells.getD 3 0))), (.int .i64 ((m.cells.getD 4 0))), (.int .i64 ((m.cells.getD 5 0))), (.int .i64 ((m.cells.getD 6 0))), (.int .i64 ((m.cells.getD 7 0))), (.int .i64 ((m.cells.getD 8 0))), (.int .i64 ((m.cells.getD 9 0))), (.int .i64 ((m.cells.getD 10 0))), (.int .i64 ((m.cells.getD 11 0))), (.int .i64 ((m.cells.getD 12 0))), (.int .i64 ((m.cells.getD 13 0))), (.int .i64 ((m.cells.getD 14 0))), (.int .i64 ((m.cells.getD 15 0))), v3p] : List Value).toArray 106 (0, 0))) (n_ : Int) (r : (Int) ⊕ (Int)) (hq : pimpl_running__cell m n_ = some r) :
    ConX Try.prog 140 [(.pointer (some ⟨bp0, 0, none⟩)), (.int .i64 (n_))] w0 (fun v w' => ∃ q, r = .inl q ∧ (v = (.pointer (some ⟨bp0, 4 + (q).toNat, none⟩)) ∧ (0 ≤ q ∧ (q).toNat < 16) ∧ Below w0.heap.size w0 w')) (fun c w' => ∃ q, r = .inr q ∧ (c = pch 153 q ∧ Below w0.heap.size w0 w')) := by
  unfold pimpl_running__cell at hq
  refine con_bodyx (l := [(0, (.pointer (some ⟨bp0, 0, none⟩))), (1, (.int .i64 (n_)))]) Try.func140 rfl Try.ntmps140 (Args.get ⟨rfl, rfl, trivial⟩) rfl ?_
  intro a hf
  have hm := Mem.start w0
  refine wp_seq ?_
  refine wp_region_lit ?_
  refine st_y hf rfl rfl rfl (y_assign rfl rfl) ?_
  clear hf a; intro a hf
  refine st_end ?_
  refine x_then_n ?_
  refine wp_seq ?_
  refine wp_seq ?_
  refine wp_region_lit ?_
  refine st_y hf rfl rfl rfl (y_move rfl rfl) ?_
  clear hf a; intro a hf
  refine st_y hf rfl rfl rfl (y_geq rfl rfl rfl) ?_
  clear hf a; intro a hf
  refine st_end ?_
  refine x_then_n ?_
  obtain ⟨c0_1, hq0_1, hq⟩ := bnd hq
  refine code_cut (K := fun a w => ∃ s0_1, c0_1 = .inl s0_1 ∧ Fr 13 [(0, (.pointer (some ⟨bp0, 0, none⟩))), (1, (.int .i64 (n_)))] a ∧ Mem w0 (hp w0) w []) ?_ ?_
  ·
   rcases bcases (decide (16 ≤ n_)) with h1_1 | h1_1
   ·
    replace hq0_1 := (ite_t h1_1).symm.trans hq0_1
    have h1_2 := of_decide_eq_true h1_1
    refine cond_t hf rfl h1_1 ?_
    refine wp_region_lit ?_
    obtain ⟨r1_1, hx1_1, hq0_1⟩ := bnd hq0_1
    refine st_efx hf rfl rfl rfl (e_callx hf rfl Try.call142 rfl (impl_stop_ok _ 2 _ hx1_1)) ?_ ?_
    ·
     rintro c w1_1 ⟨q1_2, rfl, ho1_1⟩
     replace hq0_1 := sum_r hq0_1
     obtain ⟨rfl, hB⟩ := ho1_1
     replace hm := hm.below' hB; clear hB
     obtain rfl := Option.some.inj hq0_1
     replace hq := sum_r hq
     obtain rfl := Option.some.inj hq
     refine And.intro hf.defers (rx_intro ?_)
     exact ⟨_, rfl, rfl, hm.below⟩
    clear hf a; rintro v1_1 w1_2 a ⟨q1_1, rfl, ho1_1⟩ hf
    replace hq0_1 := sum_l hq0_1
    obtain ⟨rfl, hB⟩ := ho1_1
    replace hm := hm.below' hB; clear hB
    refine st_end ?_
    refine x_then_n ?_
    obtain rfl := Option.some.inj hq0_1
    exact ⟨_, rfl, hf.sub ⟨rfl, rfl, trivial⟩, hm.pick [] (by decide) rfl⟩
   ·
    replace hq0_1 := (ite_f h1_1).symm.trans hq0_1
    have h1_3 := of_decide_eq_false h1_1
    refine cond_f hf rfl h1_1 ?_
    refine wp_skip ?_
    refine x_then_n ?_
    obtain rfl := Option.some.inj hq0_1
    exact ⟨_, rfl, hf.sub ⟨rfl, rfl, trivial⟩, hm.pick [] (by decide) rfl⟩
  ·
   clear hf hm
   rintro a w ⟨s0_1, rfl, hf, hm⟩
   replace hq := sum_l hq
   refine x_then_n ?_
   refine wp_seq ?_
   refine wp_region_lit ?_
   refine st_y hf rfl rfl rfl (y_move rfl rfl) ?_
   clear hf a; intro a hf
   refine st_y hf rfl rfl rfl (y_move rfl rfl) ?_
   clear hf a; intro a hf
   refine st_y hf rfl rfl rfl (y_nilptr rfl rfl) ?_
   clear hf a; intro a hf
   refine st_y hf rfl rfl rfl (y_fieldAddr fo_106_4 rfl rfl) ?_
   clear hf a; intro a hf
   obtain ⟨x0_1, hx0_1, hq⟩ := bnd hq
   obtain ⟨h0_1, h0_2, rfl⟩ := idxA_some.1 hx0_1
   refine st_y hf rfl rfl rfl (y_indexArr1 Try.underlying104 Try.sizeOf3 rfl rfl rfl h0_1 h0_2) ?_
   clear hf a; intro a hf
   refine st_y hf rfl rfl rfl (y_assign rfl rfl) ?_
   clear hf a; intro a hf
   refine st_end ?_
   refine x_then_n ?_
   refine wp_ret ?_
   obtain rfl := Option.some.inj hq
   refine ret_x ?_
   refine ret_tmp hf Try.results140 rfl ?_
   exact ⟨_, rfl, ⟨rfl, ⟨h0_1, h0_2⟩, hm.below⟩⟩

theorem impl_arith_1_ok (w0 : World) (yes : Bool) (r : Int) (hq : impl_arith_1 yes = some r) :
    Con Try.prog 171 [(.bool (yes))] w0 (fun v w' => v = (.int .i64 (r)) ∧ Below w0.heap.size w0 w') := by
  unfold impl_arith_1 at hq
  refine con_body (l := [(0, (.bool (yes)))]) Try.func171 rfl Try.ntmps171 (Args.get ⟨rfl, trivial⟩) rfl ?_
  intro a hf
  have hm := Mem.start w0
  refine wp_seq ?_
  refine wp_region_lit ?_
  refine st_y hf rfl rfl rfl (y_assign rfl rfl) ?_
  clear hf a; intro a hf
  refine st_end ?_
  refine x_then_n ?_
  refine wp_seq ?_
  refine wp_seq ?_
  refine wp_region_lit ?_
  refine st_y hf rfl rfl rfl (y_move rfl rfl) ?_
  clear hf a; intro a hf
  refine st_end ?_
  refine x_then_n ?_
  rcases bcases (yes) with h0_1 | h0_1
  ·
   replace hq := (ite_t h0_1).symm.trans hq
   refine cond_t hf rfl h0_1 ?_
   refine wp_seq ?_
   refine wp_region_lit ?_
   refine st_y hf rfl rfl rfl (y_assign rfl rfl) ?_
   clear hf a; intro a hf
   refine st_end ?_
   refine x_then_n ?_
   refine wp_ret ?_
   refine x_then_ret ?_
   obtain rfl := Option.some.inj hq
   refine ret_tmp hf Try.results171 rfl ?_
   exact ⟨rfl, hm.below⟩
  ·
   replace hq := (ite_f h0_1).symm.trans hq
   refine cond_f hf rfl h0_1 ?_
   refine wp_skip ?_
   refine x_then_n ?_
   refine wp_seq ?_
   refine wp_region_lit ?_
   refine st_y hf rfl rfl rfl (y_assign rfl rfl) ?_
   clear hf a; intro a hf
   refine st_end ?_
   refine x_then_n ?_
   refine wp_ret ?_
   obtain rfl := Option.some.inj hq
   refine ret_tmp hf Try.results171 rfl ?_
   exact ⟨rfl, hm.below⟩

theorem impl_arith_ok (w0 : World) (op : Int) (a_ : Int) (b_ : Int) (r : Int × Bool) (hq : impl_arith op a_ b_ = some r) :
    Con Try.prog 141 [(.int .i64 (op)), (.int .i64 (a_)), (.int .i64 (b_))] w0 (fun v w' => v = (.tuple #[(.int .i64 (r.1)), (.bool (r.2))]) ∧ Below w0.heap.size w0 w') := by
  unfold impl_arith at hq
  refine con_body (l := [(0, (.int .i64 (op))), (1, (.int .i64 (a_))), (2, (.int .i64 (b_)))]) Try.func141 rfl Try.ntmps141 (Args.get ⟨rfl, rfl, rfl, trivial⟩) rfl ?_
  intro a hf
  have hm := Mem.start w0
  refine wp_seq ?_
  refine wp_region_lit ?_
  refine st_y hf rfl rfl rfl (y_assign rfl rfl) ?_
  clear hf a; intro a hf
  refine st_y hf rfl rfl rfl (y_assign rfl rfl) ?_
  clear hf a; intro a hf
  refine st_end ?_
  refine x_then_n ?_
  refine wp_seq ?_
  refine wp_region_lit ?_
  refine st_y hf rfl rfl rfl (y_assign rfl rfl) ?_
  clear hf a; intro a hf
  refine st_end ?_
  refine x_then_n ?_
  refine wp_seq ?_
  refine wp_seq ?_
  refine wp_region_lit ?_
  refine st_y hf rfl rfl rfl (y_move rfl rfl) ?_
  clear hf a; intro a hf
  refine st_end ?_
  refine x_then_n ?_
  refine wp_block ?_
  refine wp_seq ?_
  refine wp_region_lit ?_
  refine st_y hf rfl rfl rfl (y_eql rfl rfl rfl) ?_
  clear hf a; intro a hf
  refine st_y hf rfl rfl rfl (y_assign rfl rfl) ?_
  clear hf a; intro a hf
  refine st_end ?_
  refine x_then_n ?_
  rcases bcases (decide (op = 3)) with h0_1 | h0_1
  ·
   replace hq := (ite_t h0_1).symm.trans hq
   have h0_2 := of_decide_eq_true h0_1
   refine cond_t hf rfl h0_1 ?_
   refine wp_seq ?_
   refine wp_region_lit ?_
   refine st_y hf rfl rfl rfl (y_move rfl rfl) ?_
   clear hf a; intro a hf
   refine st_y hf rfl rfl rfl (y_move rfl rfl) ?_
   clear hf a; intro a hf
   refine st_y hf rfl rfl rfl (y_addw rfl rfl rfl) ?_
   clear hf a; intro a hf
   refine st_y hf rfl rfl rfl (y_rem rfl rfl rfl (by decide)) ?_
   clear hf a; intro a hf
   refine st_y hf rfl rfl rfl (y_assign rfl rfl) ?_
   clear hf a; intro a hf
   refine st_y hf rfl rfl rfl (y_assign rfl rfl) ?_
   clear hf a; intro a hf
   refine st_end ?_
   refine x_then_n ?_
   refine wp_ret ?_
   refine x_blk_ret ?_
   refine x_then_ret ?_
   obtain rfl := Option.some.inj hq
   refine ret_tmp2 hf Try.results141 rfl rfl ?_
   exact ⟨rfl, hm.below⟩
  ·
   replace hq := (ite_f h0_1).symm.trans hq
   have h0_3 := of_decide_eq_false h0_1
   refine cond_f hf rfl h0_1 ?_
   refine wp_seq ?_
   refine wp_region_lit ?_
   refine st_y hf rfl rfl rfl (y_eql rfl rfl rfl) ?_
   clear hf a; intro a hf
   refine st_y hf rfl rfl rfl (y_assign rfl rfl) ?_
   clear hf a; intro a hf
   refine st_end ?_
   refine x_then_n ?_
   rcases bcases (decide (op = 4)) with h0_4 | h0_4
   ·
    replace hq := (ite_t h0_4).symm.trans hq
    have h0_5 := of_decide_eq_true h0_4
    refine cond_t hf rfl h0_4 ?_
    refine wp_seq ?_
    refine wp_region_lit ?_
    refine st_y hf rfl rfl rfl (y_move rfl rfl) ?_
    clear hf a; intro a hf
    refine st_y hf rfl rfl rfl (y_move rfl rfl) ?_
    clear hf a; intro a hf
    refine st_y hf rfl rfl rfl (y_subw rfl rfl rfl) ?_
    clear hf a; intro a hf
    refine st_y hf rfl rfl rfl (y_addw rfl rfl rfl) ?_
    clear hf a; intro a hf
    refine st_y hf rfl rfl rfl (y_rem rfl rfl rfl (by decide)) ?_
    clear hf a; intro a hf
    refine st_y hf rfl rfl rfl (y_assign rfl rfl) ?_
    clear hf a; intro a hf
    refine st_y hf rfl rfl rfl (y_assign rfl rfl) ?_
    clear hf a; intro a hf
    refine st_end ?_
    refine x_then_n ?_
    refine wp_ret ?_
    refine x_blk_ret ?_
    refine x_then_ret ?_
    obtain rfl := Option.some.inj hq
    refine ret_tmp2 hf Try.results141 rfl rfl ?_
    exact ⟨rfl, hm.below⟩
   ·
    replace hq := (ite_f h0_4).symm.trans hq
    have h0_6 := of_decide_eq_false h0_4
    refine cond_f hf rfl h0_4 ?_
    refine wp_seq ?_
    refine wp_region_lit ?_
    refine st_y hf rfl rfl rfl (y_eql rfl rfl rfl) ?_
    clear hf a; intro a hf
    refine st_y hf rfl rfl rfl (y_assign rfl rfl) ?_
    clear hf a; intro a hf
    refine st_end ?_
    refine x_then_n ?_
    rcases bcases (decide (op = 5)) with h0_7 | h0_7
    ·
     replace hq := (ite_t h0_7).symm.trans hq
     have h0_8 := of_decide_eq_true h0_7
     refine cond_t hf rfl h0_7 ?_
     refine wp_seq ?_
     refine wp_region_lit ?_
     refine st_y hf rfl rfl rfl (y_move rfl rfl) ?_
     clear hf a; intro a hf
     refine st_y hf rfl rfl rfl (y_move rfl rfl) ?_
     clear hf a; intro a hf
     refine st_y hf rfl rfl rfl (y_mulw rfl rfl rfl) ?_
     clear hf a; intro a hf
     refine st_y hf rfl rfl rfl (y_rem rfl rfl rfl (by decide)) ?_
     clear hf a; intro a hf
     refine st_y hf rfl rfl rfl (y_assign rfl rfl) ?_
     clear hf a; intro a hf
     refine st_y hf rfl rfl rfl (y_assign rfl rfl) ?_
     clear hf a; intro a hf
     refine st_end ?_
     refine x_then_n ?_
     refine wp_ret ?_
     refine x_blk_ret ?_
     refine x_then_ret ?_
     obtain rfl := Option.some.inj hq
     refine ret_tmp2 hf Try.results141 rfl rfl ?_
     exact ⟨rfl, hm.below⟩
    ·
     replace hq := (ite_f h0_7).symm.trans hq
     have h0_9 := of_decide_eq_false h0_7
     refine cond_f hf rfl h0_7 ?_
     refine wp_seq ?_
     refine wp_seq ?_
     refine wp_region_lit ?_
     refine st_y hf rfl rfl rfl (y_eql rfl rfl rfl) ?_
     clear hf a; intro a hf
     refine st_y hf rfl rfl rfl (y_assign rfl rfl) ?_
     clear hf a; intro a hf
     refine st_end ?_
     refine x_then_n ?_
     obtain ⟨s0_1, hq0_1, hq⟩ := bnd hq
     refine code_cut (K := fun a w => Fr 70 [(0, (.int .i64 (op))), (1, (.int .i64 (a_))), (2, (.int .i64 (b_))), (8, (.func (.func 171) #[] #[])), (9, (.int .i64 (op))), (29, (.bool (s0_1)))] a ∧ Mem w0 (hp w0) w []) ?_ ?_
     ·
      rcases bcases (decide (op = 6)) with h1_1 | h1_1
      ·
       replace hq0_1 := (ite_t h1_1).symm.trans hq0_1
       have h1_2 := of_decide_eq_true h1_1
       refine cond_t hf rfl h1_1 ?_
       refine wp_skip ?_
       refine x_then_n ?_
       obtain rfl := Option.some.inj hq0_1
       exact ⟨hf.sub ⟨rfl, rfl, rfl, rfl, rfl, rfl, trivial⟩, hm.pick [] (by decide) rfl⟩
      ·
       replace hq0_1 := (ite_f h1_1).symm.trans hq0_1
       have h1_3 := of_decide_eq_false h1_1
       refine cond_f hf rfl h1_1 ?_
       refine wp_region_lit ?_
       refine st_y hf rfl rfl rfl (y_eql rfl rfl rfl) ?_
       clear hf a; intro a hf
       refine st_y hf rfl rfl rfl (y_assign rfl rfl) ?_
       clear hf a; intro a hf
       refine st_end ?_
       refine x_then_n ?_
       obtain rfl := Option.some.inj hq0_1
       exact ⟨hf.sub ⟨rfl, rfl, rfl, rfl, rfl, rfl, trivial⟩, hm.pick [] (by decide) rfl⟩
     ·
      clear hf hm
      rintro a w ⟨hf, hm⟩
      refine x_then_n ?_
      rcases bcases (s0_1) with h0_10 | h0_10
      ·
       replace hq := (ite_t h0_10).symm.trans hq
       refine cond_t hf rfl h0_10 ?_
       refine wp_seq ?_
       refine wp_seq ?_
       refine wp_region_lit ?_
       refine st_y hf rfl rfl rfl (y_move rfl rfl) ?_
       clear hf a; intro a hf
       refine st_y hf rfl rfl rfl (y_eql rfl rfl rfl) ?_
       clear hf a; intro a hf
       refine st_end ?_
       refine x_then_n ?_
       rcases bcases (decide (b_ = 0)) with h0_11 | h0_11
       ·
        replace hq := (ite_t h0_11).symm.trans hq
        have h0_12 := of_decide_eq_true h0_11
        refine cond_t hf rfl h0_11 ?_
        refine wp_seq ?_
        refine wp_region_lit ?_
        refine st_y hf rfl rfl rfl (y_assign rfl rfl) ?_
        clear hf a; intro a hf
        refine st_y hf rfl rfl rfl (y_assign rfl rfl) ?_
        clear hf a; intro a hf
        refine st_end ?_
        refine x_then_n ?_
        refine wp_ret ?_
        refine x_then_ret ?_
        refine x_blk_ret ?_
        refine x_then_ret ?_
        obtain rfl := Option.some.inj hq
        refine ret_tmp2 hf Try.results141 rfl rfl ?_
        exact ⟨rfl, hm.below⟩
       ·
        replace hq := (ite_f h0_11).symm.trans hq
        have h0_13 := of_decide_eq_false h0_11
        refine cond_f hf rfl h0_11 ?_
        refine wp_skip ?_
        refine x_then_n ?_
        refine wp_seq ?_
        refine wp_seq ?_
        refine wp_region_lit ?_
        refine st_y hf rfl rfl rfl (y_move rfl rfl) ?_
        clear hf a; intro a hf
        refine st_y hf rfl rfl rfl (y_eql rfl rfl rfl) ?_
        clear hf a; intro a hf
        refine st_end ?_
        refine x_then_n ?_
        rcases bcases (decide (op = 6)) with h0_14 | h0_14
        ·
         replace hq := (ite_t h0_14).symm.trans hq
         have h0_15 := of_decide_eq_true h0_14
         refine cond_t hf rfl h0_14 ?_
         refine wp_seq ?_
         refine wp_region_lit ?_
         refine st_y hf rfl rfl rfl (y_move rfl rfl) ?_
         clear hf a; intro a hf
         refine st_y hf rfl rfl rfl (y_move rfl rfl) ?_
         clear hf a; intro a hf
         obtain ⟨q0_1, hx0_1, hq⟩ := bnd hq
         obtain ⟨h0_16, rfl⟩ := quoM_some.1 hx0_1
         refine st_y hf rfl rfl rfl (y_quo rfl rfl rfl h0_16) ?_
         clear hf a; intro a hf
         refine st_y hf rfl rfl rfl (y_assign rfl rfl) ?_
         clear hf a; intro a hf
         refine st_y hf rfl rfl rfl (y_assign rfl rfl) ?_
         clear hf a; intro a hf
         refine st_end ?_
         refine x_then_n ?_
         refine wp_ret ?_
         refine x_then_ret ?_
         refine x_blk_ret ?_
         refine x_then_ret ?_
         obtain rfl := Option.some.inj hq
         refine ret_tmp2 hf Try.results141 rfl rfl ?_
         exact ⟨rfl, hm.below⟩
        ·
         replace hq := (ite_f h0_14).symm.trans hq
         have h0_17 := of_decide_eq_false h0_14
         refine cond_f hf rfl h0_14 ?_
         refine wp_skip ?_
         refine x_then_n ?_
         refine wp_seq ?_
         refine wp_region_lit ?_
         refine st_y hf rfl rfl rfl (y_move rfl rfl) ?_
         clear hf a; intro a hf
         refine st_y hf rfl rfl rfl (y_move rfl rfl) ?_
         clear hf a; intro a hf
         obtain ⟨q0_2, hx0_2, hq⟩ := bnd hq
         obtain ⟨h0_18, rfl⟩ := remM_some.1 hx0_2
         refine st_y hf rfl rfl rfl (y_rem rfl rfl rfl h0_18) ?_
         clear hf a; intro a hf
         refine st_y hf rfl rfl rfl (y_assign rfl rfl) ?_
         clear hf a; intro a hf
         refine st_y hf rfl rfl rfl (y_assign rfl rfl) ?_
         clear hf a; intro a hf
         refine st_end ?_
         refine x_then_n ?_
         refine wp_ret ?_
         refine x_blk_ret ?_
         refine x_then_ret ?_
         obtain rfl := Option.some.inj hq
         refine ret_tmp2 hf Try.results141 rfl rfl ?_
         exact ⟨rfl, hm.below⟩
      ·
       replace hq := (ite_f h0_10).symm.trans hq
       refine cond_f hf rfl h0_10 ?_
       refine wp_seq ?_
       refine wp_region_lit ?_
       refine st_y hf rfl rfl rfl (y_eql rfl rfl rfl) ?_
       clear hf a; intro a hf
       refine st_y hf rfl rfl rfl (y_assign rfl rfl) ?_
       clear hf a; intro a hf
       refine st_end ?_
       refine x_then_n ?_
       rcases bcases (decide (op = 8)) with h0_19 | h0_19
       ·
        replace hq := (ite_t h0_19).symm.trans hq
        have h0_20 := of_decide_eq_true h0_19
        refine cond_t hf rfl h0_19 ?_
        refine wp_seq ?_
        refine wp_region_lit ?_
        refine st_y hf rfl rfl rfl (y_move rfl rfl) ?_
        clear hf a; intro a hf
        refine st_y hf rfl rfl rfl (y_move rfl rfl) ?_
        clear hf a; intro a hf
        refine st_y hf rfl rfl rfl (y_move rfl rfl) ?_
        clear hf a; intro a hf
        refine st_y hf rfl rfl rfl (y_lss rfl rfl rfl) ?_
        clear hf a; intro a hf
        obtain ⟨r0_1, hx0_3, hq⟩ := bnd hq
        refine st_ef hf rfl rfl rfl (e_callv hf rfl rfl rfl ⟨171, [], rfl, Try.call171, impl_arith_1_ok _ (decide (a_ < b_)) _ hx0_3⟩) ?_
        clear hf a; rintro v0_1 w0_1 a ho0_1 hf
        obtain ⟨rfl, hB⟩ := ho0_1
        replace hm := hm.below' hB; clear hB
        refine st_y hf rfl rfl rfl (y_assign rfl rfl) ?_
        clear hf a; intro a hf
        refine st_y hf rfl rfl rfl (y_assign rfl rfl) ?_
        clear hf a; intro a hf
        refine st_end ?_
        refine x_then_n ?_
        refine wp_ret ?_
        refine x_blk_ret ?_
        refine x_then_ret ?_
        obtain rfl := Option.some.inj hq
        refine ret_tmp2 hf Try.results141 rfl rfl ?_
        exact ⟨rfl, hm.below⟩
       ·
        replace hq := (ite_f h0_19).symm.trans hq
        have h0_21 := of_decide_eq_false h0_19
        refine cond_f hf rfl h0_19 ?_
        refine wp_seq ?_
        refine wp_region_lit ?_
        refine st_y hf rfl rfl rfl (y_eql rfl rfl rfl) ?_
        clear hf a; intro a hf
        refine st_y hf rfl rfl rfl (y_assign rfl rfl) ?_
        clear hf a; intro a hf
        refine st_end ?_
        refine x_then_n ?_
        rcases bcases (decide (op = 9)) with h0_22 | h0_22
        ·
         replace hq := (ite_t h0_22).symm.trans hq
         have h0_23 := of_decide_eq_true h0_22
         refine cond_t hf rfl h0_22 ?_
         refine wp_seq ?_
         refine wp_region_lit ?_
         refine st_y hf rfl rfl rfl (y_move rfl rfl) ?_
         clear hf a; intro a hf
         refine st_y hf rfl rfl rfl (y_move rfl rfl) ?_
         clear hf a; intro a hf
         refine st_y hf rfl rfl rfl (y_move rfl rfl) ?_
         clear hf a; intro a hf
         refine st_y hf rfl rfl rfl (y_eql rfl rfl rfl) ?_
         clear hf a; intro a hf
         obtain ⟨r0_2, hx0_4, hq⟩ := bnd hq
         refine st_ef hf rfl rfl rfl (e_callv hf rfl rfl rfl ⟨171, [], rfl, Try.call171, impl_arith_1_ok _ (decide (a_ = b_)) _ hx0_4⟩) ?_
         clear hf a; rintro v0_2 w0_2 a ho0_2 hf
         obtain ⟨rfl, hB⟩ := ho0_2
         replace hm := hm.below' hB; clear hB
         refine st_y hf rfl rfl rfl (y_assign rfl rfl) ?_
         clear hf a; intro a hf
         refine st_y hf rfl rfl rfl (y_assign rfl rfl) ?_
         clear hf a; intro a hf
         refine st_end ?_
         refine x_then_n ?_
         refine wp_ret ?_
         refine x_blk_ret ?_
         refine x_then_ret ?_
         obtain rfl := Option.some.inj hq
         refine ret_tmp2 hf Try.results141 rfl rfl ?_
         exact ⟨rfl, hm.below⟩
        ·
         replace hq := (ite_f h0_22).symm.trans hq
         have h0_24 := of_decide_eq_false h0_22
         refine cond_f hf rfl h0_22 ?_
         refine wp_seq ?_
         refine wp_region_lit ?_
         refine st_y hf rfl rfl rfl (y_eql rfl rfl rfl) ?_
         clear hf a; intro a hf
         refine st_y hf rfl rfl rfl (y_assign rfl rfl) ?_
         clear hf a; intro a hf
         refine st_end ?_
         refine x_then_n ?_
         rcases bcases (decide (op = 10)) with h0_25 | h0_25
         ·
          replace hq := (ite_t h0_25).symm.trans hq
          have h0_26 := of_decide_eq_true h0_25
          refine cond_t hf rfl h0_25 ?_
          refine wp_seq ?_
          obtain ⟨s0_2, hq0_2, hq⟩ := bnd hq
          refine code_cut (K := fun a w => Fr 70 [(6, (.int .i64 (s0_2))), (7, (.bool (true)))] a ∧ Mem w0 (hp w0) w []) ?_ ?_
          ·
           refine wp_region_lit ?_
           refine st_y hf rfl rfl rfl (y_move rfl rfl) ?_
           clear hf a; intro a hf
           refine st_y hf rfl rfl rfl (y_move rfl rfl) ?_
           clear hf a; intro a hf
           refine st_y hf rfl rfl rfl (y_neq rfl rfl rfl) ?_
           clear hf a; intro a hf
           refine st_y hf rfl rfl rfl (y_move rfl rfl) ?_
           clear hf a; intro a hf
           rcases bcases (decide (a_ ≠ 0)) with h1_4 | h1_4
           ·
            replace hq0_2 := (ite_t h1_4).symm.trans hq0_2
            have h1_5 := of_decide_eq_true h1_4
            refine st_yg hf rfl rfl (lk_b rfl h1_4) rfl rfl (y_move rfl rfl) ?_
            clear hf a; intro a hf
            refine st_yg hf rfl rfl (lk_b rfl h1_4) rfl rfl (y_neq rfl rfl rfl) ?_
            clear hf a; intro a hf
            refine st_y hf rfl rfl rfl (y_pick_t rfl (ev_b rfl h1_4) rfl) ?_
            clear hf a; intro a hf
            obtain ⟨r1_1, hx1_1, hq0_2⟩ := bnd hq0_2
            refine st_ef hf rfl rfl rfl (e_callv hf rfl rfl rfl ⟨171, [], rfl, Try.call171, impl_arith_1_ok _ (decide (b_ ≠ 0)) _ hx1_1⟩) ?_
            clear hf a; rintro v1_1 w1_1 a ho1_1 hf
            obtain ⟨rfl, hB⟩ := ho1_1
            replace hm := hm.below' hB; clear hB
            refine st_y hf rfl rfl rfl (y_assign rfl rfl) ?_
            clear hf a; intro a hf
            refine st_y hf rfl rfl rfl (y_assign rfl rfl) ?_
            clear hf a; intro a hf
            refine st_end ?_
            refine x_then_n ?_
            obtain rfl := Option.some.inj hq0_2
            exact ⟨hf.sub ⟨rfl, rfl, trivial⟩, hm.pick [] (by decide) rfl⟩
           ·
            replace hq0_2 := (ite_f h1_4).symm.trans hq0_2
            have h1_6 := of_decide_eq_false h1_4
            refine st_no hf rfl rfl (lk_b rfl h1_4) rfl rfl rfl ?_
            clear hf a; intro a hf
            refine st_no hf rfl rfl (lk_b rfl h1_4) rfl rfl rfl ?_
            clear hf a; intro a hf
            refine st_y hf rfl rfl rfl (y_pick_f rfl (ev_b rfl h1_4) rfl) ?_
            clear hf a; intro a hf
            obtain ⟨r1_2, hx1_2, hq0_2⟩ := bnd hq0_2
            refine st_ef hf rfl rfl rfl (e_callv hf rfl rfl rfl ⟨171, [], rfl, Try.call171, impl_arith_1_ok _ false _ hx1_2⟩) ?_
            clear hf a; rintro v1_2 w1_2 a ho1_2 hf
            obtain ⟨rfl, hB⟩ := ho1_2
            replace hm := hm.below' hB; clear hB
            refine st_y hf rfl rfl rfl (y_assign rfl rfl) ?_
            clear hf a; intro a hf
            refine st_y hf rfl rfl rfl (y_assign rfl rfl) ?_
            clear hf a; intro a hf
            refine st_end ?_
            refine x_then_n ?_
            obtain rfl := Option.some.inj hq0_2
            exact ⟨hf.sub ⟨rfl, rfl, trivial⟩, hm.pick [] (by decide) rfl⟩
          ·
           clear hf hm
           rintro a w ⟨hf, hm⟩
           refine x_then_n ?_
           refine wp_ret ?_
           refine x_blk_ret ?_
           refine x_then_ret ?_
           obtain rfl := Option.some.inj hq
           refine ret_tmp2 hf Try.results141 rfl rfl ?_
           exact ⟨rfl, hm.below⟩
         ·
          replace hq := (ite_f h0_25).symm.trans hq
          have h0_27 := of_decide_eq_false h0_25
          refine cond_f hf rfl h0_25 ?_
          refine wp_skip ?_
          refine x_blk_n ?_
          refine x_then_n ?_
          refine wp_seq ?_
          refine wp_region_lit ?_
          refine st_y hf rfl rfl rfl (y_move rfl rfl) ?_
          clear hf a; intro a hf
          refine st_y hf rfl rfl rfl (y_move rfl rfl) ?_
          clear hf a; intro a hf
          refine st_y hf rfl rfl rfl (y_eql rfl rfl rfl) ?_
          clear hf a; intro a hf
          obtain ⟨r0_3, hx0_5, hq⟩ := bnd hq
          refine st_ef hf rfl rfl rfl (e_callv hf rfl rfl rfl ⟨171, [], rfl, Try.call171, impl_arith_1_ok _ (decide (a_ = 0)) _ hx0_5⟩) ?_
          clear hf a; rintro v0_3 w0_3 a ho0_3 hf
          obtain ⟨rfl, hB⟩ := ho0_3
          replace hm := hm.below' hB; clear hB
          refine st_y hf rfl rfl rfl (y_assign rfl rfl) ?_
          clear hf a; intro a hf
          refine st_y hf rfl rfl rfl (y_assign rfl rfl) ?_
          clear hf a; intro a hf
          refine st_end ?_
          refine x_then_n ?_
          refine wp_ret ?_
          obtain rfl := Option.some.inj hq
          refine ret_tmp2 hf Try.results141 rfl rfl ?_
          exact ⟨rfl, hm.below⟩

end Go.Proofs.Ytjbcoilagfdidaa
