/- A part of the proof of FnExactSameRunsSaid. -/
import Derived.Test.YtjbcoilagfdidaaGreatSrWalksB
namespace Go.Proofs.YtjbcoilagfdidaaGreat
open Go Go.Wk Go.RowKit
set_option maxRecDepth 4000
set_option maxHeartbeats 4000000

theorem impl_codeOk_ok (w0 : World) (u : Unit_) (v1 : Value) (h1 : GT.rep (hp w0) [v1] u.codes) (k_ : Int) (r : Bool) (hq : impl_codeOk u k_ = some r) :
    Con Tryz.prog 58 [(.agg #[v1]), (.int .i64 (k_))] w0 (fun v w' => v = (.bool (r)) ∧ Below w0.heap.size w0 w') := by
  unfold impl_codeOk at hq
  refine con_body (l := [(0, (.agg #[v1])), (1, (.int .i64 (k_)))]) Tryz.func58 rfl Tryz.ntmps58 (Args.get ⟨rfl, rfl, trivial⟩) rfl ?_
  intro a hf
  have hm := Mem.start w0
  refine wp_seq (wp_region_lit (st_ef hf rfl rfl rfl (e_box hf hm rfl rfl rfl) ?_))
  clear hf a; rintro _ w0_1 a ⟨b0_1, rfl, hm⟩ hf
  refine st_ef hf rfl rfl rfl (e_box hf hm rfl rfl rfl) ?_
  clear hf a; rintro _ w0_2 a ⟨b0_2, rfl, hm⟩ hf
  refine st_y hf rfl rfl rfl (y_assign rfl rfl) fun a hf => st_end (x_then_n (wp_seq (wp_region_lit (st_y hf rfl rfl rfl (y_fieldAddr fo_30_0 rfl rfl) fun a hf => st_y hf rfl rfl rfl (y_load1 Tryz.isAgg28 rfl rfl (hm.blk_cell 1 rfl rfl)) fun a hf => st_y hf rfl rfl rfl (y_load1 Tryz.isAgg3 rfl rfl (hm.blk_cell 0 rfl rfl)) fun a hf => ?_))))
  obtain ⟨x0_1, hx0_1, hq⟩ := bnd hq
  obtain ⟨h0_1, hx0_2⟩ := getI_some.1 hx0_1
  obtain ⟨b0_3, o0_1, c0_1, he⟩ := idx_form' h1 hx0_2
  subst he
  obtain ⟨_, _, hc0_1, hr0_1⟩ := ro_get' h1 hx0_2
  obtain ⟨_, _, rfl, rfl, _, _, rfl, rfl, h0_2⟩ := hr0_1
  obtain ⟨v0_1, rfl, -⟩ := id h0_2
  replace h0_2 : GT.rep (hp w0) [v0_1] x0_1.blocks := h0_2
  replace hc0_1 : CellsAt (hp w0) b0_3 (o0_1 + (k_).toNat * 3) [(.int .i64 (x0_1.params)), (.int .i64 (x0_1.regs)), v0_1] := hc0_1
  refine st_y hf rfl rfl rfl (y_indexAddr st_28 rfl rfl rfl h0_1 (idx_lt hx0_2)) fun a hf => st_y hf rfl rfl rfl (y_loadN (cs := [(.int .i64 (x0_1.params)), (.int .i64 (x0_1.regs)), v0_1]) Tryz.isAgg69 Tryz.sizeOf69 rfl rfl (hc0_1.mono hm.lez)) fun a hf => st_ef hf rfl rfl rfl (e_alloc hm Tryz.zeroValue69 rfl rfl) ?_
  clear hf a; rintro _ w0_3 a ⟨b0_4, rfl, hm⟩ hf
  refine st_ef0 hf rfl rfl (e_storeN 0 hf hm rfl Tryz.sizeOf69 rfl rfl rfl (one_cons rfl (one_cons rfl (one_cons (rep_one h0_2) one_nil))) rfl rfl) ?_
  clear hf a; rintro _ w0_4 a hm hf
  refine st_end (x_then_n (wp_seq (wp_seq ?_)))
  obtain ⟨s0_1, hq0_1, hq⟩ := bnd hq
  refine code_cut (K := fun a w => Fr 121 [(2, (.pointer (some ⟨b0_1, 0, none⟩))), (3, (.pointer (some ⟨b0_2, 0, none⟩))), (5, (.pointer (some ⟨b0_4, 0, none⟩))), (36, (.bool (s0_1)))] a ∧ Mem w0 (hp w0) w [blk b0_1 [(.slice (some ⟨b0_3, o0_1, none⟩) u.codes.length c0_1)] 30, blk b0_2 [(.int .i64 (k_))] 3, blk b0_4 [(.int .i64 (x0_1.params)), (.int .i64 (x0_1.regs)), v0_1] 69]) ?_ ?_
  ·
   refine wp_region_lit (st_y hf rfl rfl rfl (y_fieldAddr fo_69_1 rfl rfl) fun a hf => st_y hf rfl rfl rfl (y_load1 Tryz.isAgg3 rfl rfl (hm.blk_cell 0 rfl rfl)) fun a hf => ?_)
   obtain ⟨r1_1, hx1_1, hq0_1⟩ := bnd hq0_1
   refine st_ef hf rfl rfl rfl (e_call hf rfl Tryz.call45 rfl (impl_within_ok _ x0_1.regs 0 300 _ hx1_1)) ?_
   clear hf a; rintro v1_1 w1_1 a ho1_1 hf
   obtain ⟨rfl, hB⟩ := ho1_1
   replace hm := hm.below' hB; clear hB
   refine st_y hf rfl rfl rfl (y_not rfl rfl) fun a hf => st_y hf rfl rfl rfl (y_move rfl rfl) fun a hf => ?_
   rcases bcases (!(r1_1)) with h1_1 | h1_1
   ·
    replace hq0_1 := (ite_t h1_1).symm.trans hq0_1
    have h1_2 := bnot_t' h1_1
    refine st_no hf rfl rfl (lk_b rfl h1_1) rfl rfl rfl fun a hf => st_no hf rfl rfl (lk_b rfl h1_1) rfl rfl rfl fun a hf => st_no hf rfl rfl (lk_b rfl h1_1) rfl rfl rfl fun a hf => st_no hf rfl rfl (lk_b rfl h1_1) rfl rfl rfl fun a hf => st_no hf rfl rfl (lk_b rfl h1_1) rfl rfl rfl fun a hf => st_no hf rfl rfl (lk_b rfl h1_1) rfl rfl rfl fun a hf => st_no hf rfl rfl (lk_b rfl h1_1) rfl rfl rfl fun a hf => st_y hf rfl rfl rfl (y_pick_t rfl (ev_b rfl h1_1) rfl) fun a hf => st_y hf rfl rfl rfl (y_move rfl rfl) fun a hf => ?_
    refine st_no hf rfl rfl (lk_b rfl rfl) rfl rfl rfl fun a hf => st_no hf rfl rfl (lk_b rfl rfl) rfl rfl rfl fun a hf => st_no hf rfl rfl (lk_b rfl rfl) rfl rfl rfl fun a hf => st_no hf rfl rfl (lk_b rfl rfl) rfl rfl rfl fun a hf => st_no hf rfl rfl (lk_b rfl rfl) rfl rfl rfl fun a hf => st_y hf rfl rfl rfl (y_pick_t rfl (ev_b rfl rfl) rfl) fun a hf => st_end (x_then_n ?_)
    obtain rfl := Option.some.inj hq0_1
    exact ⟨hf.sub ⟨rfl, rfl, rfl, rfl, trivial⟩, hm.pick [2, 1, 0] (by decide) rfl⟩
   ·
    replace hq0_1 := (ite_f h1_1).symm.trans hq0_1
    have h1_3 := bnot_f' h1_1
    refine st_yg hf rfl rfl (lk_b rfl h1_1) rfl rfl (y_fieldAddr fo_69_0 rfl rfl) fun a hf => st_yg hf rfl rfl (lk_b rfl h1_1) rfl rfl (y_load1 Tryz.isAgg3 rfl rfl (hm.blk_cell 0 rfl rfl)) fun a hf => st_yg hf rfl rfl (lk_b rfl h1_1) rfl rfl (y_fieldAddr fo_69_1 rfl rfl) fun a hf => st_yg hf rfl rfl (lk_b rfl h1_1) rfl rfl (y_load1 Tryz.isAgg3 rfl rfl (hm.blk_cell 0 rfl rfl)) fun a hf => st_yg hf rfl rfl (lk_b rfl h1_1) rfl rfl (y_min rfl rfl rfl) fun a hf => ?_
    have h1_4 : minI 3 x0_1.regs = min 3 x0_1.regs := minI_eq _ _
    obtain ⟨r1_2, hx1_2, hq0_1⟩ := bnd hq0_1
    refine st_efg hf rfl rfl (lk_b rfl h1_1) rfl rfl (e_call hf rfl Tryz.call45 rfl (impl_within_ok _ x0_1.params 0 (minI 3 x0_1.regs) _ hx1_2)) ?_
    clear hf a; rintro v1_2 w1_2 a ho1_2 hf
    obtain ⟨rfl, hB⟩ := ho1_2
    replace hm := hm.below' hB; clear hB
    refine st_yg hf rfl rfl (lk_b rfl h1_1) rfl rfl (y_not rfl rfl) fun a hf => st_y hf rfl rfl rfl (y_pick_f rfl (ev_b rfl h1_1) rfl) fun a hf => st_y hf rfl rfl rfl (y_move rfl rfl) fun a hf => ?_
    rcases bcases (!(r1_2)) with h1_5 | h1_5
    ·
     replace hq0_1 := (ite_t h1_5).symm.trans hq0_1
     have h1_6 := bnot_t' h1_5
     refine st_no hf rfl rfl (lk_b rfl h1_5) rfl rfl rfl fun a hf => st_no hf rfl rfl (lk_b rfl h1_5) rfl rfl rfl fun a hf => st_no hf rfl rfl (lk_b rfl h1_5) rfl rfl rfl fun a hf => st_no hf rfl rfl (lk_b rfl h1_5) rfl rfl rfl fun a hf => st_no hf rfl rfl (lk_b rfl h1_5) rfl rfl rfl fun a hf => st_y hf rfl rfl rfl (y_pick_t rfl (ev_b rfl h1_5) rfl) fun a hf => st_end (x_then_n ?_)
     obtain rfl := Option.some.inj hq0_1
     exact ⟨hf.sub ⟨rfl, rfl, rfl, rfl, trivial⟩, hm.pick [2, 1, 0] (by decide) rfl⟩
    ·
     replace hq0_1 := (ite_f h1_5).symm.trans hq0_1
     have h1_7 := bnot_f' h1_5
     refine st_yg hf rfl rfl (lk_b rfl h1_5) rfl rfl (y_fieldAddr fo_69_2 rfl rfl) fun a hf => st_yg hf rfl rfl (lk_b rfl h1_5) rfl rfl (y_load1 Tryz.isAgg67 rfl rfl (hm.blk_cell 0 rfl rfl)) fun a hf => ?_
     obtain ⟨p1_1, c1_1, he, hl1_1⟩ := ro_slice h0_2
     subst he
     refine st_yg hf rfl rfl (lk_b rfl h1_5) rfl rfl (y_len_slice st_67.und rfl rfl) fun a hf => ?_
     obtain ⟨r1_3, hx1_3, hq0_1⟩ := bnd hq0_1
     refine st_efg hf rfl rfl (lk_b rfl h1_5) rfl rfl (e_call hf rfl Tryz.call45 rfl (impl_within_ok _ (x0_1.blocks.length : Int) 1 160 _ hx1_3)) ?_
     clear hf a; rintro v1_3 w1_3 a ho1_3 hf
     obtain ⟨rfl, hB⟩ := ho1_3
     replace hm := hm.below' hB; clear hB
     refine st_yg hf rfl rfl (lk_b rfl h1_5) rfl rfl (y_not rfl rfl) fun a hf => st_y hf rfl rfl rfl (y_pick_f rfl (ev_b rfl h1_5) rfl) fun a hf => st_end (x_then_n ?_)
     obtain rfl := Option.some.inj hq0_1
     exact ⟨hf.sub ⟨rfl, rfl, rfl, rfl, trivial⟩, hm.pick [2, 1, 0] (by decide) rfl⟩
  ·
   clear hf hm
   rintro a w ⟨hf, hm⟩
   refine x_then_n ?_
   rcases bcases (s0_1) with h0_3 | h0_3
   ·
    replace hq := (ite_t h0_3).symm.trans hq
    refine cond_t hf rfl h0_3 (wp_seq (wp_region_lit (st_y hf rfl rfl rfl (y_assign rfl rfl) fun a hf => st_end (x_then_n (wp_ret (x_then_ret ?_))))))
    obtain rfl := Option.some.inj hq
    refine ret_tmp hf Tryz.results58 rfl ?_
    exact ⟨rfl, hm.below⟩
   ·
    replace hq := (ite_f h0_3).symm.trans hq
    refine cond_f hf rfl h0_3 (wp_skip (x_then_n (wp_seq (wp_region_lit (st_y hf rfl rfl rfl (y_makeFunc rfl rfl) fun a hf => st_ef hf rfl rfl rfl (e_alloc hm Tryz.zeroValue96 rfl rfl) ?_)))))
    clear hf a; rintro _ w0_5 a ⟨b0_5, rfl, hm⟩ hf
    refine st_ef0 hf rfl rfl (e_store1 0 hf hm rfl Tryz.sizeOf96 rfl rfl rfl rfl rfl) ?_
    clear hf a; rintro _ w0_6 a hm hf
    refine st_end (x_then_n (wp_seq (wp_seq (wp_region_lit (st_y hf rfl rfl rfl (y_fieldAddr fo_69_2 rfl rfl) fun a hf => st_y hf rfl rfl rfl (y_load1 Tryz.isAgg67 rfl rfl (hm.blk_cell 3 rfl rfl)) fun a hf => ?_)))))
    obtain ⟨p0_1, c0_2, he, hl0_1⟩ := ro_slice h0_2
    subst he
    refine st_y hf rfl rfl rfl (y_len_slice st_67.und rfl rfl) fun a hf => st_y hf rfl rfl rfl (y_move rfl rfl) fun a hf => st_end (x_then_n (wp_block ?_))
    obtain ⟨r0_1, hl0_2, hq⟩ := bnd hq
    refine wp_forN _ (fun i1_1 xs1_1 a w => Fr 121 [(2, (.pointer (some ⟨b0_1, 0, none⟩))), (3, (.pointer (some ⟨b0_2, 0, none⟩))), (5, (.pointer (some ⟨b0_4, 0, none⟩))), (6, (.pointer (some ⟨b0_5, 0, none⟩))), (39, (.slice p0_1 x0_1.blocks.length c0_2)), (40, (.int .i64 ((x0_1.blocks.length : Int)))), (41, (.int .i64 (i1_1)))] a ∧ Mem w0 (hp w0) w [blk b0_1 [(.slice (some ⟨b0_3, o0_1, none⟩) u.codes.length c0_1)] 30, blk b0_2 [(.int .i64 (k_))] 3, blk b0_4 [(.int .i64 (x0_1.params)), (.int .i64 (x0_1.regs)), (.slice p0_1 x0_1.blocks.length c0_2)] 69, blk b0_5 [(.func (.func 81) #[] #[(.pointer (some ⟨b0_4, 0, none⟩))])] 96]) (0) ((x0_1.blocks.length : Int)) hl0_2 ?_ ?_ ?_
    ·
     exact ⟨hf.sub ⟨rfl, rfl, rfl, rfl, rfl, rfl, rfl, trivial⟩, hm.pick [1, 2, 3, 0] (by decide) rfl⟩
    ·
     clear hf hm
     rintro i1_1 xs1_1 a w ⟨hf, hm⟩ hi1_1 hi1_2 q0_1 hb0_1 ho0_1
     refine wp_seq (wp_region_lit (st_y hf rfl rfl rfl (y_lss rfl rfl rfl) fun a hf => st_end (x_then_n (wp_seq (cond_t hf rfl (decide_eq_true (by omega)) (wp_skip (x_then_n ?_)))))))
     refine wp_seq (wp_block (wp_seq (wp_region_lit (st_y hf rfl rfl rfl (y_move rfl rfl) fun a hf => ?_))))
     obtain ⟨x1_1, hx1_4, hb0_1⟩ := bnd hb0_1
     obtain ⟨h1_8, hx1_5⟩ := getI_some.1 hx1_4
     obtain ⟨b1_1, o1_1, c1_2, he⟩ := idx_form' h0_2 hx1_5
     simp only [Value.slice.injEq, Option.some.injEq] at he; obtain ⟨rfl, _, rfl⟩ := he
     obtain ⟨_, _, hc1_1, hr1_1⟩ := ro_get' h0_2 hx1_5
     obtain ⟨_, _, rfl, h1_9, _, _, rfl, h1_10, _, _, rfl, rfl, _, _, rfl, rfl, h1_11⟩ := hr1_1
     obtain ⟨v1_4, rfl, -⟩ := id h1_9
     replace h1_9 : GT.rep (hp w0) [v1_4] x1_1.phis := h1_9
     obtain ⟨v1_5, rfl, -⟩ := id h1_10
     replace h1_10 : GT.rep (hp w0) [v1_5] x1_1.ins := h1_10
     obtain ⟨v1_6, rfl, -⟩ := id h1_11
     replace h1_11 : GT.rep (hp w0) [v1_6] x1_1.next_ := h1_11
     replace hc1_1 : CellsAt (hp w0) b1_1 (o1_1 + (i1_1).toNat * 5) [v1_4, v1_5, (.int .i64 (x1_1.jump)), (.int .i64 (x1_1.on)), v1_6] := hc1_1
     refine st_y hf rfl rfl rfl (y_indexAddr st_67 rfl rfl rfl h1_8 (idx_lt hx1_5)) fun a hf => st_y hf rfl rfl rfl (y_loadN (cs := [v1_4, v1_5, (.int .i64 (x1_1.jump)), (.int .i64 (x1_1.on)), v1_6]) Tryz.isAgg86 Tryz.sizeOf86 rfl rfl (hc1_1.mono hm.lez)) fun a hf => st_ef hf rfl rfl rfl (e_alloc hm Tryz.zeroValue86 rfl rfl) ?_
     clear hf a; rintro _ w1_4 a ⟨b1_2, rfl, hm⟩ hf
     refine st_y hf rfl rfl rfl (y_assign rfl rfl) fun a hf => st_ef0 hf rfl rfl (e_storeN 0 hf hm rfl Tryz.sizeOf86 rfl rfl rfl (one_cons (rep_one h1_9) (one_cons (rep_one h1_10) (one_cons rfl (one_cons rfl (one_cons (rep_one h1_11) one_nil))))) rfl rfl) ?_
     clear hf a; rintro _ w1_5 a hm hf
     refine st_end (x_then_n (wp_seq (wp_seq ?_)))
     obtain ⟨s1_1, hq1_1, hb0_1⟩ := bnd hb0_1
     refine code_cut (K := fun a w => Fr 121 [(2, (.pointer (some ⟨b0_1, 0, none⟩))), (3, (.pointer (some ⟨b0_2, 0, none⟩))), (5, (.pointer (some ⟨b0_4, 0, none⟩))), (6, (.pointer (some ⟨b0_5, 0, none⟩))), (7, (.int .i64 (i1_1))), (8, (.pointer (some ⟨b1_2, 0, none⟩))), (39, (.slice (some ⟨b1_1, o1_1, none⟩) x0_1.blocks.length c0_2)), (40, (.int .i64 ((x0_1.blocks.length : Int)))), (41, (.int .i64 (i1_1))), (75, (.bool (s1_1)))] a ∧ Mem w0 (hp w0) w [blk b0_1 [(.slice (some ⟨b0_3, o0_1, none⟩) u.codes.length c0_1)] 30, blk b0_2 [(.int .i64 (k_))] 3, blk b0_4 [(.int .i64 (x0_1.params)), (.int .i64 (x0_1.regs)), (.slice (some ⟨b1_1, o1_1, none⟩) x0_1.blocks.length c0_2)] 69, blk b0_5 [(.func (.func 81) #[] #[(.pointer (some ⟨b0_4, 0, none⟩))])] 96, blk b1_2 [v1_4, v1_5, (.int .i64 (x1_1.jump)), (.int .i64 (x1_1.on)), v1_6] 86]) ?_ ?_
     ·
      refine wp_tree (.p 0 (.p 3 (.q 1 (.p 2 (.e 4 (.e 5 (.p 6 (.p 7 (.p 8 (.e 9 (.e 10 (.p 11 (.p 13 (.q 12 (.e 14 (.e 15 (.p 16 (.p 17 (.p 18 (.p 19 (.p 20 (.e 21 (.e 22 (.p 23 (.p 24 (.p 25 (.e 26 (.p 27 (.p 28 (.p 29 .fin))) .nil)))) .nil) .nil)))))) .nil) .nil)))) .nil) .nil)))) .nil) .nil))))) [4, 5, 14] [0, 2, 3, 6, 7, 8, 11, 13, 16, 17, 18, 19, 20, 23, 24, 25, 27, 28, 29] (fun w => Mem w0 (hp w0) w [blk b1_2 [v1_4, v1_5, (.int .i64 (x1_1.jump)), (.int .i64 (x1_1.on)), v1_6] 86, blk b0_1 [(.slice (some ⟨b0_3, o0_1, none⟩) u.codes.length c0_1)] 30, blk b0_2 [(.int .i64 (k_))] 3, blk b0_4 [(.int .i64 (x0_1.params)), (.int .i64 (x0_1.regs)), (.slice (some ⟨b1_1, o1_1, none⟩) x0_1.blocks.length c0_2)] 69, blk b0_5 [(.func (.func 81) #[] #[(.pointer (some ⟨b0_4, 0, none⟩))])] 96]) (by kernel_rfl) (by kernel_rfl) (fun _ _ _ h => h.2) ?_
      replace hm := hm.drew
      have hS : Mem w0 (hp w0) _ [blk b1_2 [v1_4, v1_5, (.int .i64 (x1_1.jump)), (.int .i64 (x1_1.on)), v1_6] 86, blk b0_1 [(.slice (some ⟨b0_3, o0_1, none⟩) u.codes.length c0_1)] 30, blk b0_2 [(.int .i64 (k_))] 3, blk b0_4 [(.int .i64 (x0_1.params)), (.int .i64 (x0_1.regs)), (.slice (some ⟨b1_1, o1_1, none⟩) x0_1.blocks.length c0_2)] 69, blk b0_5 [(.func (.func 81) #[] #[(.pointer (some ⟨b0_4, 0, none⟩))])] 96] := hm.pick [0, 1, 2, 3, 4] (by decide) rfl
      refine td_p hf rfl rfl rfl rfl (fun w => y_fieldAddr fo_86_4 rfl rfl) fun a hf => td_p hf rfl rfl rfl rfl (fun w => y_fieldAddr fo_86_2 rfl rfl) fun a hf => td_y hf rfl rfl rfl rfl hS (fun w hm => y_load1 Tryz.isAgg25 rfl rfl (hm.blk_cell 0 rfl rfl)) fun a hf => ?_
      obtain ⟨p2_1, c2_1, he, hl2_1⟩ := ro_slice h1_11
      subst he
      refine td_p hf rfl rfl rfl rfl (fun w => y_len_slice st_25.und rfl rfl) fun a hf => te_one (td_ef hf rfl rfl rfl rfl (ef_y hf (y_load1 Tryz.isAgg3 rfl rfl (hm.blk_cell 0 rfl rfl))) ?_)
      clear hf a; rintro _ _ a ⟨rfl, rfl⟩ hf
      refine ⟨fun _ => hS, ?_⟩
      refine te_one ?_
      obtain ⟨r2_1, hx2_1, hq1_1⟩ := bnd hq1_1
      refine td_ef hf rfl rfl rfl rfl (e_call hf rfl Tryz.call82 rfl (impl_nextCount_ok _ x1_1.jump _ hx2_1)) ?_
      clear hf a; rintro v2_1 w2_1 a ho2_1 hf
      obtain ⟨rfl, hB⟩ := ho2_1
      replace hm := hm.below' hB; clear hB
      clear hS
      have hS : Mem w0 (hp w0) _ [blk b1_2 [v1_4, v1_5, (.int .i64 (x1_1.jump)), (.int .i64 (x1_1.on)), (.slice p2_1 x1_1.next_.length c2_1)] 86, blk b0_1 [(.slice (some ⟨b0_3, o0_1, none⟩) u.codes.length c0_1)] 30, blk b0_2 [(.int .i64 (k_))] 3, blk b0_4 [(.int .i64 (x0_1.params)), (.int .i64 (x0_1.regs)), (.slice (some ⟨b1_1, o1_1, none⟩) x0_1.blocks.length c0_2)] 69, blk b0_5 [(.func (.func 81) #[] #[(.pointer (some ⟨b0_4, 0, none⟩))])] 96] := hm.pick [0, 1, 2, 3, 4] (by decide) rfl
      refine ⟨fun _ => hS, ?_⟩
      refine td_p hf rfl rfl rfl rfl (fun w => y_neq rfl rfl rfl) fun a hf => td_p hf rfl rfl rfl rfl (fun w => y_move rfl rfl) fun a hf => ?_
      rcases bcases (decide (((x1_1.next_.length : Int)) ≠ r2_1)) with h2_1 | h2_1
      ·
       replace hq1_1 := (ite_t h2_1).symm.trans hq1_1
       have h2_2 := of_decide_eq_true h2_1
       refine td_pno hf rfl rfl rfl (lk_b rfl h2_1) rfl rfl rfl fun a hf => te_one (td_no' hf rfl rfl rfl (lk_b rfl h2_1) rfl rfl rfl fun a hf => ⟨fun h => absurd h (by decide), ?_⟩)
       refine te_one (td_no' hf rfl rfl rfl (lk_b rfl h2_1) rfl rfl rfl fun a hf => ⟨fun h => absurd h (by decide), ?_⟩)
       refine td_pno hf rfl rfl rfl (lk_b rfl h2_1) rfl rfl rfl fun a hf => td_pnou hf rfl rfl rfl rfl rfl rfl fun a hf => td_nou hf rfl rfl rfl rfl rfl rfl hS fun a hf => te_one (td_nou' hf rfl rfl rfl rfl rfl rfl fun a hf => ⟨fun _ => hS, ?_⟩)
       refine te_one (td_nou' hf rfl rfl rfl rfl rfl rfl fun a hf => ⟨fun h => absurd h (by decide), ?_⟩)
       refine td_pnou hf rfl rfl rfl rfl rfl rfl fun a hf => td_pno hf rfl rfl rfl (lk_b rfl h2_1) rfl rfl rfl fun a hf => td_p hf rfl rfl rfl rfl (fun w => y_pick_t rfl (ev_b rfl h2_1) rfl) fun a hf => td_p hf rfl rfl rfl rfl (fun w => y_move rfl rfl) fun a hf => td_pno hf rfl rfl rfl (lk_b rfl rfl) rfl rfl rfl fun a hf => te_one (td_no' hf rfl rfl rfl (lk_b rfl rfl) rfl rfl rfl fun a hf => ⟨fun h => absurd h (by decide), ?_⟩)
       refine te_one (td_no' hf rfl rfl rfl (lk_b rfl rfl) rfl rfl rfl fun a hf => ⟨fun h => absurd h (by decide), ?_⟩)
       refine td_pno hf rfl rfl rfl (lk_b rfl rfl) rfl rfl rfl fun a hf => td_pno hf rfl rfl rfl (lk_b rfl rfl) rfl rfl rfl fun a hf => td_pnou hf rfl rfl rfl rfl rfl rfl fun a hf => te_one (td_nou' hf rfl rfl rfl rfl rfl rfl fun a hf => ⟨fun h => absurd h (by decide), ?_⟩)
       refine td_pnou hf rfl rfl rfl rfl rfl rfl fun a hf => td_pno hf rfl rfl rfl (lk_b rfl rfl) rfl rfl rfl fun a hf => td_p hf rfl rfl rfl rfl (fun w => y_pick_t rfl (ev_b rfl rfl) rfl) fun a hf => ?_
       clear hS; refine td_end ?_
       refine x_then_n ?_
       obtain rfl := Option.some.inj hq1_1
       exact ⟨hf.sub ⟨rfl, rfl, rfl, rfl, rfl, rfl, rfl, rfl, rfl, rfl, trivial⟩, hm.pick [1, 2, 3, 4, 0] (by decide) rfl⟩
      ·
       replace hq1_1 := (ite_f h2_1).symm.trans hq1_1
       have h2_3 := of_decide_eq_false h2_1
       refine td_pg hf rfl rfl rfl (lk_b rfl h2_1) rfl rfl (fun w => y_fieldAddr fo_86_2 rfl rfl) fun a hf => te_one (td_efg hf rfl rfl rfl (lk_b rfl h2_1) rfl rfl (ef_y hf (y_load1 Tryz.isAgg3 rfl rfl (hm.blk_cell 0 rfl rfl))) ?_)
       clear hf a; rintro _ _ a ⟨rfl, rfl⟩ hf
       refine ⟨fun h => absurd h (by decide), ?_⟩
       refine te_one ?_
       obtain ⟨r2_2, hx2_2, hq1_1⟩ := bnd hq1_1
       refine td_efg hf rfl rfl rfl (lk_b rfl h2_1) rfl rfl (e_call hf rfl Tryz.call83 rfl (impl_usesOn_ok _ x1_1.jump _ hx2_2)) ?_
       clear hf a; rintro v2_2 w2_2 a ho2_2 hf
       obtain ⟨rfl, hB⟩ := ho2_2
       replace hm := hm.below' hB; clear hB
       clear hS
       have hS : Mem w0 (hp w0) _ [blk b1_2 [v1_4, v1_5, (.int .i64 (x1_1.jump)), (.int .i64 (x1_1.on)), (.slice p2_1 x1_1.next_.length c2_1)] 86, blk b0_1 [(.slice (some ⟨b0_3, o0_1, none⟩) u.codes.length c0_1)] 30, blk b0_2 [(.int .i64 (k_))] 3, blk b0_4 [(.int .i64 (x0_1.params)), (.int .i64 (x0_1.regs)), (.slice (some ⟨b1_1, o1_1, none⟩) x0_1.blocks.length c0_2)] 69, blk b0_5 [(.func (.func 81) #[] #[(.pointer (some ⟨b0_4, 0, none⟩))])] 96] := hm.pick [0, 1, 2, 3, 4] (by decide) rfl
       refine ⟨fun h => absurd h (by decide), ?_⟩
       refine td_pg hf rfl rfl rfl (lk_b rfl h2_1) rfl rfl (fun w => y_move rfl rfl) fun a hf => ?_
       rcases bcases (r2_2) with h2_4 | h2_4
       ·
        replace hq1_1 := (ite_t h2_4).symm.trans hq1_1
        refine td_pg hf rfl rfl rfl (lk_b rfl h2_4) rfl rfl (fun w => y_fieldAddr fo_86_3 rfl rfl) fun a hf => td_yg hf rfl rfl rfl (lk_b rfl h2_4) rfl rfl hS (fun w hm => y_load1 Tryz.isAgg96 rfl rfl (hm.blk_cell 4 rfl rfl)) fun a hf => te_one (td_efg hf rfl rfl rfl (lk_b rfl h2_4) rfl rfl (ef_y hf (y_load1 Tryz.isAgg3 rfl rfl (hm.blk_cell 0 rfl rfl))) ?_)
        clear hf a; rintro _ _ a ⟨rfl, rfl⟩ hf
        refine ⟨fun _ => hS, ?_⟩
        refine te_one ?_
        obtain ⟨r2_3, hx2_3, hq1_1⟩ := bnd hq1_1
        refine td_efg hf rfl rfl rfl (lk_b rfl h2_4) rfl rfl (e_callv hf rfl rfl rfl ⟨81, [(.pointer (some ⟨b0_4, 0, none⟩))], rfl, Tryz.call81, impl_codeOk_1_ok _ x1_1.on x0_1 (.slice (some ⟨b1_1, o1_1, none⟩) x0_1.blocks.length c0_2) (rep_later (hm.now h0_2) (Below.refl _ _)) b0_4 (hm.blk_later 3 rfl (Below.refl _ _)) _ hx2_3⟩) ?_
        clear hf a; rintro v2_3 w2_3 a ho2_3 hf
        obtain ⟨rfl, hB⟩ := ho2_3
        replace hm := hm.below' hB; clear hB
        refine ⟨fun h => absurd h (by decide), ?_⟩
        refine td_pg hf rfl rfl rfl (lk_b rfl h2_4) rfl rfl (fun w => y_not rfl rfl) fun a hf => td_pg hf rfl rfl rfl (lk_b rfl h2_1) rfl rfl (fun w => y_pick_t rfl (ev_b rfl h2_4) rfl) fun a hf => td_p hf rfl rfl rfl rfl (fun w => y_pick_f rfl (ev_b rfl h2_1) rfl) fun a hf => td_p hf rfl rfl rfl rfl (fun w => y_move rfl rfl) fun a hf => ?_
        rcases bcases (!(r2_3)) with h2_5 | h2_5
        ·
         replace hq1_1 := (ite_t h2_5).symm.trans hq1_1
         have h2_6 := bnot_t' h2_5
         refine td_pno hf rfl rfl rfl (lk_b rfl h2_5) rfl rfl rfl fun a hf => te_one (td_no' hf rfl rfl rfl (lk_b rfl h2_5) rfl rfl rfl fun a hf => ⟨fun h => absurd h (by decide), ?_⟩)
         refine te_one (td_no' hf rfl rfl rfl (lk_b rfl h2_5) rfl rfl rfl fun a hf => ⟨fun h => absurd h (by decide), ?_⟩)
         refine td_pno hf rfl rfl rfl (lk_b rfl h2_5) rfl rfl rfl fun a hf => td_pno hf rfl rfl rfl (lk_b rfl h2_5) rfl rfl rfl fun a hf => td_pnou hf rfl rfl rfl rfl rfl rfl fun a hf => te_one (td_nou' hf rfl rfl rfl rfl rfl rfl fun a hf => ⟨fun h => absurd h (by decide), ?_⟩)
         refine td_pnou hf rfl rfl rfl rfl rfl rfl fun a hf => td_pno hf rfl rfl rfl (lk_b rfl h2_5) rfl rfl rfl fun a hf => td_p hf rfl rfl rfl rfl (fun w => y_pick_t rfl (ev_b rfl h2_5) rfl) fun a hf => ?_
         clear hS; refine td_end ?_
         refine x_then_n ?_
         obtain rfl := Option.some.inj hq1_1
         exact ⟨hf.sub ⟨rfl, rfl, rfl, rfl, rfl, rfl, rfl, rfl, rfl, rfl, trivial⟩, hm.pick [1, 2, 3, 4, 0] (by decide) rfl⟩
        ·
         replace hq1_1 := (ite_f h2_5).symm.trans hq1_1
         have h2_7 := bnot_f' h2_5
         refine td_pg hf rfl rfl rfl (lk_b rfl h2_5) rfl rfl (fun w => y_fieldAddr fo_86_2 rfl rfl) fun a hf => te_one (td_efg hf rfl rfl rfl (lk_b rfl h2_5) rfl rfl (ef_y hf (y_load1 Tryz.isAgg3 rfl rfl (hm.blk_cell 0 rfl rfl))) ?_)
         clear hf a; rintro _ _ a ⟨rfl, rfl⟩ hf
         refine ⟨fun h => absurd h (by decide), ?_⟩
         refine te_one ?_
         obtain ⟨r2_4, hx2_4, hq1_1⟩ := bnd hq1_1
         refine td_efg hf rfl rfl rfl (lk_b rfl h2_5) rfl rfl (e_call hf rfl Tryz.call83 rfl (impl_usesOn_ok _ x1_1.jump _ hx2_4)) ?_
         clear hf a; rintro v2_4 w2_4 a ho2_4 hf
         obtain ⟨rfl, hB⟩ := ho2_4
         replace hm := hm.below' hB; clear hB
         refine ⟨fun h => absurd h (by decide), ?_⟩
         refine td_pg hf rfl rfl rfl (lk_b rfl h2_5) rfl rfl (fun w => y_not rfl rfl) fun a hf => td_pg hf rfl rfl rfl (lk_b rfl h2_5) rfl rfl (fun w => y_move rfl rfl) fun a hf => ?_
         rcases bcases (!(r2_4)) with h2_8 | h2_8
         ·
          replace hq1_1 := (ite_t h2_8).symm.trans hq1_1
          have h2_9 := bnot_t' h2_8
          refine td_pg hf rfl rfl rfl (lk_b rfl h2_8) rfl rfl (fun w => y_fieldAddr fo_86_3 rfl rfl) fun a hf => te_one (td_efg hf rfl rfl rfl (lk_b rfl h2_8) rfl rfl (ef_y hf (y_load1 Tryz.isAgg3 rfl rfl (hm.blk_cell 0 rfl rfl))) ?_)
          clear hf a; rintro _ _ a ⟨rfl, rfl⟩ hf
          refine ⟨fun h => absurd h (by decide), ?_⟩
          refine td_pg hf rfl rfl rfl (lk_b rfl h2_8) rfl rfl (fun w => y_neq rfl rfl rfl) fun a hf => td_pg hf rfl rfl rfl (lk_b rfl h2_5) rfl rfl (fun w => y_pick_t rfl (ev_b rfl h2_8) rfl) fun a hf => td_p hf rfl rfl rfl rfl (fun w => y_pick_f rfl (ev_b rfl h2_5) rfl) fun a hf => ?_
          clear hS; refine td_end ?_
          refine x_then_n ?_
          obtain rfl := Option.some.inj hq1_1
          exact ⟨hf.sub ⟨rfl, rfl, rfl, rfl, rfl, rfl, rfl, rfl, rfl, rfl, trivial⟩, hm.pick [1, 2, 3, 4, 0] (by decide) rfl⟩
         ·
          replace hq1_1 := (ite_f h2_8).symm.trans hq1_1
          have h2_10 := bnot_f' h2_8
          refine td_pno hf rfl rfl rfl (lk_b rfl h2_8) rfl rfl rfl fun a hf => te_one (td_no' hf rfl rfl rfl (lk_b rfl h2_8) rfl rfl rfl fun a hf => ⟨fun h => absurd h (by decide), ?_⟩)
          refine td_pno hf rfl rfl rfl (lk_b rfl h2_8) rfl rfl rfl fun a hf => td_pg hf rfl rfl rfl (lk_b rfl h2_5) rfl rfl (fun w => y_pick_f rfl (ev_b rfl h2_8) rfl) fun a hf => td_p hf rfl rfl rfl rfl (fun w => y_pick_f rfl (ev_b rfl h2_5) rfl) fun a hf => ?_
          clear hS; refine td_end ?_
          refine x_then_n ?_
          obtain rfl := Option.some.inj hq1_1
          exact ⟨hf.sub ⟨rfl, rfl, rfl, rfl, rfl, rfl, rfl, rfl, rfl, rfl, trivial⟩, hm.pick [1, 2, 3, 4, 0] (by decide) rfl⟩
       ·
        replace hq1_1 := (ite_f h2_4).symm.trans hq1_1
        refine td_pno hf rfl rfl rfl (lk_b rfl h2_4) rfl rfl rfl fun a hf => td_no hf rfl rfl rfl (lk_b rfl h2_4) rfl rfl rfl hS fun a hf => te_one (td_no' hf rfl rfl rfl (lk_b rfl h2_4) rfl rfl rfl fun a hf => ⟨fun _ => hS, ?_⟩)
        refine te_one (td_no' hf rfl rfl rfl (lk_b rfl h2_4) rfl rfl rfl fun a hf => ⟨fun h => absurd h (by decide), ?_⟩)
        refine td_pno hf rfl rfl rfl (lk_b rfl h2_4) rfl rfl rfl fun a hf => td_pg hf rfl rfl rfl (lk_b rfl h2_1) rfl rfl (fun w => y_pick_f rfl (ev_b rfl h2_4) rfl) fun a hf => td_p hf rfl rfl rfl rfl (fun w => y_pick_f rfl (ev_b rfl h2_1) rfl) fun a hf => td_p hf rfl rfl rfl rfl (fun w => y_move rfl rfl) fun a hf => td_pg hf rfl rfl rfl (lk_b rfl rfl) rfl rfl (fun w => y_fieldAddr fo_86_2 rfl rfl) fun a hf => te_one (td_efg hf rfl rfl rfl (lk_b rfl rfl) rfl rfl (ef_y hf (y_load1 Tryz.isAgg3 rfl rfl (hm.blk_cell 0 rfl rfl))) ?_)
        clear hf a; rintro _ _ a ⟨rfl, rfl⟩ hf
        refine ⟨fun h => absurd h (by decide), ?_⟩
        refine te_one ?_
        obtain ⟨r2_5, hx2_5, hq1_1⟩ := bnd hq1_1
        refine td_efg hf rfl rfl rfl (lk_b rfl rfl) rfl rfl (e_call hf rfl Tryz.call83 rfl (impl_usesOn_ok _ x1_1.jump _ hx2_5)) ?_
        clear hf a; rintro v2_5 w2_5 a ho2_5 hf
        obtain ⟨rfl, hB⟩ := ho2_5
        replace hm := hm.below' hB; clear hB
        refine ⟨fun h => absurd h (by decide), ?_⟩
        refine td_pg hf rfl rfl rfl (lk_b rfl rfl) rfl rfl (fun w => y_not rfl rfl) fun a hf => td_pg hf rfl rfl rfl (lk_b rfl rfl) rfl rfl (fun w => y_move rfl rfl) fun a hf => ?_
        rcases bcases (!(r2_5)) with h2_11 | h2_11
        ·
         replace hq1_1 := (ite_t h2_11).symm.trans hq1_1
         have h2_12 := bnot_t' h2_11
         refine td_pg hf rfl rfl rfl (lk_b rfl h2_11) rfl rfl (fun w => y_fieldAddr fo_86_3 rfl rfl) fun a hf => te_one (td_efg hf rfl rfl rfl (lk_b rfl h2_11) rfl rfl (ef_y hf (y_load1 Tryz.isAgg3 rfl rfl (hm.blk_cell 0 rfl rfl))) ?_)
         clear hf a; rintro _ _ a ⟨rfl, rfl⟩ hf
         refine ⟨fun h => absurd h (by decide), ?_⟩
         refine td_pg hf rfl rfl rfl (lk_b rfl h2_11) rfl rfl (fun w => y_neq rfl rfl rfl) fun a hf => td_pg hf rfl rfl rfl (lk_b rfl rfl) rfl rfl (fun w => y_pick_t rfl (ev_b rfl h2_11) rfl) fun a hf => td_p hf rfl rfl rfl rfl (fun w => y_pick_f rfl (ev_b rfl rfl) rfl) fun a hf => ?_
         clear hS; refine td_end ?_
         refine x_then_n ?_
         obtain rfl := Option.some.inj hq1_1
         exact ⟨hf.sub ⟨rfl, rfl, rfl, rfl, rfl, rfl, rfl, rfl, rfl, rfl, trivial⟩, hm.pick [1, 2, 3, 4, 0] (by decide) rfl⟩
        ·
         replace hq1_1 := (ite_f h2_11).symm.trans hq1_1
         have h2_13 := bnot_f' h2_11
         refine td_pno hf rfl rfl rfl (lk_b rfl h2_11) rfl rfl rfl fun a hf => te_one (td_no' hf rfl rfl rfl (lk_b rfl h2_11) rfl rfl rfl fun a hf => ⟨fun h => absurd h (by decide), ?_⟩)
         refine td_pno hf rfl rfl rfl (lk_b rfl h2_11) rfl rfl rfl fun a hf => td_pg hf rfl rfl rfl (lk_b rfl rfl) rfl rfl (fun w => y_pick_f rfl (ev_b rfl h2_11) rfl) fun a hf => td_p hf rfl rfl rfl rfl (fun w => y_pick_f rfl (ev_b rfl rfl) rfl) fun a hf => ?_
         clear hS; refine td_end ?_
         refine x_then_n ?_
         obtain rfl := Option.some.inj hq1_1
         exact ⟨hf.sub ⟨rfl, rfl, rfl, rfl, rfl, rfl, rfl, rfl, rfl, rfl, trivial⟩, hm.pick [1, 2, 3, 4, 0] (by decide) rfl⟩
     ·
      clear hf hm
      rintro a w ⟨hf, hm⟩
      refine x_then_n ?_
      rcases bcases (s1_1) with h1_12 | h1_12
      ·
       replace hb0_1 := (ite_t h1_12).symm.trans hb0_1
       refine cond_t hf rfl h1_12 (wp_seq (wp_region_lit (st_y hf rfl rfl rfl (y_assign rfl rfl) fun a hf => st_end (x_then_n (wp_ret (x_then_ret (x_blk_ret ?_)))))))
       refine x_then_ret (x_then_ret (x_blk_ret (x_then_ret ?_)))
       obtain rfl := Option.some.inj hb0_1
       obtain rfl := ho0_1 _ rfl
       replace hq := sum_r hq
       obtain rfl := Option.some.inj hq
       refine ret_tmp hf Tryz.results58 rfl ?_
       exact ⟨rfl, hm.below⟩
      ·
       replace hb0_1 := (ite_f h1_12).symm.trans hb0_1
       refine cond_f hf rfl h1_12 (wp_skip (x_then_n (wp_seq (wp_seq ?_))))
       obtain ⟨s1_2, hq1_2, hb0_1⟩ := bnd hb0_1
       refine code_cut (K := fun a w => Fr 121 [(2, (.pointer (some ⟨b0_1, 0, none⟩))), (3, (.pointer (some ⟨b0_2, 0, none⟩))), (5, (.pointer (some ⟨b0_4, 0, none⟩))), (6, (.pointer (some ⟨b0_5, 0, none⟩))), (7, (.int .i64 (i1_1))), (8, (.pointer (some ⟨b1_2, 0, none⟩))), (39, (.slice (some ⟨b1_1, o1_1, none⟩) x0_1.blocks.length c0_2)), (40, (.int .i64 ((x0_1.blocks.length : Int)))), (41, (.int .i64 (i1_1))), (85, (.bool (s1_2)))] a ∧ Mem w0 (hp w0) w [blk b0_1 [(.slice (some ⟨b0_3, o0_1, none⟩) u.codes.length c0_1)] 30, blk b0_2 [(.int .i64 (k_))] 3, blk b0_4 [(.int .i64 (x0_1.params)), (.int .i64 (x0_1.regs)), (.slice (some ⟨b1_1, o1_1, none⟩) x0_1.blocks.length c0_2)] 69, blk b0_5 [(.func (.func 81) #[] #[(.pointer (some ⟨b0_4, 0, none⟩))])] 96, blk b1_2 [v1_4, v1_5, (.int .i64 (x1_1.jump)), (.int .i64 (x1_1.on)), v1_6] 86]) ?_ ?_
       ·
        refine wp_region_lit (st_y hf rfl rfl rfl (y_fieldAddr fo_86_4 rfl rfl) fun a hf => st_y hf rfl rfl rfl (y_load1 Tryz.isAgg25 rfl rfl (hm.blk_cell 4 rfl rfl)) fun a hf => st_y hf rfl rfl rfl (y_makeFunc rfl rfl) fun a hf => ?_)
        obtain ⟨r2_6, hx2_6, hq1_2⟩ := bnd hq1_2
        refine st_ef hf rfl rfl rfl (e_call hf rfl Tryz.call60 rfl (slices_ContainsFunc_S_int_int_ok _ x1_1.next_ v1_6 (hm.now h1_11) (fun y0 => impl_codeOk_2 y0 x0_1) (.func (.func 84) #[] #[(.pointer (some ⟨b0_4, 0, none⟩))]) (fun w y0 r hB hq => ⟨84, [(.pointer (some ⟨b0_4, 0, none⟩))], rfl, Tryz.call84, impl_codeOk_2_ok w y0 x0_1 (.slice (some ⟨b1_1, o1_1, none⟩) x0_1.blocks.length c0_2) (rep_later (hm.now h0_2) hB) b0_4 (hm.blk_later 2 rfl hB) r hq⟩) _ hx2_6)) ?_
        clear hf a; rintro v2_6 w2_6 a ho2_6 hf
        obtain ⟨rfl, hB⟩ := ho2_6
        replace hm := hm.below' hB; clear hB
        refine st_y hf rfl rfl rfl (y_move rfl rfl) fun a hf => ?_
        rcases bcases (r2_6) with h2_14 | h2_14
        ·
         replace hq1_2 := (ite_t h2_14).symm.trans hq1_2
         refine st_no hf rfl rfl (lk_b rfl h2_14) rfl rfl rfl fun a hf => st_no hf rfl rfl (lk_b rfl h2_14) rfl rfl rfl fun a hf => st_no hf rfl rfl (lk_b rfl h2_14) rfl rfl rfl fun a hf => st_no hf rfl rfl (lk_b rfl h2_14) rfl rfl rfl fun a hf => st_y hf rfl rfl rfl (y_pick_t rfl (ev_b rfl h2_14) rfl) fun a hf => st_end (x_then_n ?_)
         obtain rfl := Option.some.inj hq1_2
         exact ⟨hf.sub ⟨rfl, rfl, rfl, rfl, rfl, rfl, rfl, rfl, rfl, rfl, trivial⟩, hm.pick [0, 1, 2, 3, 4] (by decide) rfl⟩
        ·
         replace hq1_2 := (ite_f h2_14).symm.trans hq1_2
         refine st_yg hf rfl rfl (lk_b rfl h2_14) rfl rfl (y_fieldAddr fo_86_1 rfl rfl) fun a hf => st_yg hf rfl rfl (lk_b rfl h2_14) rfl rfl (y_load1 Tryz.isAgg84 rfl rfl (hm.blk_cell 4 rfl rfl)) fun a hf => st_yg hf rfl rfl (lk_b rfl h2_14) rfl rfl (y_makeFunc rfl rfl) fun a hf => ?_
         obtain ⟨r2_7, hx2_7, hq1_2⟩ := bnd hq1_2
         refine st_efg hf rfl rfl (lk_b rfl h2_14) rfl rfl (e_call hf rfl Tryz.call85 rfl (slices_ContainsFunc_S_impl_Ins_impl_Ins_ok _ x1_1.ins v1_5 (hm.now h1_10) (fun y0 => impl_codeOk_3 y0 u k_) (.func (.func 86) #[] #[(.pointer (some ⟨b0_1, 0, none⟩)), (.pointer (some ⟨b0_2, 0, none⟩))]) (fun w y0 z0_0 z0_1 r hB hq => ⟨86, [(.pointer (some ⟨b0_1, 0, none⟩)), (.pointer (some ⟨b0_2, 0, none⟩))], rfl, Tryz.call86, impl_codeOk_3_ok w y0 z0_0 z0_1 u (.slice (some ⟨b0_3, o0_1, none⟩) u.codes.length c0_1) (rep_later (hm.now h1) hB) b0_1 (hm.blk_later 0 rfl hB) k_ b0_2 (hm.blk_later 1 rfl hB) r hq⟩) _ hx2_7)) ?_
         clear hf a; rintro v2_7 w2_7 a ho2_7 hf
         obtain ⟨rfl, hB⟩ := ho2_7
         replace hm := hm.below' hB; clear hB
         refine st_y hf rfl rfl rfl (y_pick_f rfl (ev_b rfl h2_14) rfl) fun a hf => st_end (x_then_n ?_)
         obtain rfl := Option.some.inj hq1_2
         exact ⟨hf.sub ⟨rfl, rfl, rfl, rfl, rfl, rfl, rfl, rfl, rfl, rfl, trivial⟩, hm.pick [0, 1, 2, 3, 4] (by decide) rfl⟩
       ·
        clear hf hm
        rintro a w ⟨hf, hm⟩
        refine x_then_n ?_
        rcases bcases (s1_2) with h1_13 | h1_13
        ·
         replace hb0_1 := (ite_t h1_13).symm.trans hb0_1
         refine cond_t hf rfl h1_13 (wp_seq (wp_region_lit (st_y hf rfl rfl rfl (y_assign rfl rfl) fun a hf => st_end (x_then_n (wp_ret (x_then_ret (x_blk_ret ?_)))))))
         refine x_then_ret (x_then_ret (x_blk_ret (x_then_ret ?_)))
         obtain rfl := Option.some.inj hb0_1
         obtain rfl := ho0_1 _ rfl
         replace hq := sum_r hq
         obtain rfl := Option.some.inj hq
         refine ret_tmp hf Tryz.results58 rfl ?_
         exact ⟨rfl, hm.below⟩
        ·
         replace hb0_1 := (ite_f h1_13).symm.trans hb0_1
         refine cond_f hf rfl h1_13 (wp_skip (x_then_n (wp_seq (wp_region_lit (st_y hf rfl rfl rfl (y_loadN (cs := [(.int .i64 (x0_1.params)), (.int .i64 (x0_1.regs)), (.slice (some ⟨b1_1, o1_1, none⟩) x0_1.blocks.length c0_2)]) Tryz.isAgg69 Tryz.sizeOf69 rfl rfl (hm.blk_at 2 rfl)) fun a hf => st_y hf rfl rfl rfl (y_move rfl rfl) fun a hf => ?_)))))
         obtain ⟨r1_4, hx1_6, hb0_1⟩ := bnd hb0_1
         refine st_ef hf rfl rfl rfl (e_call hf rfl Tryz.call65 rfl (impl_PredsOf_ok _ x0_1 (.slice (some ⟨b1_1, o1_1, none⟩) x0_1.blocks.length c0_2) (hm.now h0_2) i1_1 _ hx1_6)) ?_
         clear hf a; rintro v1_7 w1_6 a ho1_4 hf
         obtain ⟨_, rfl, hB⟩ := ho1_4
         replace hm := hm.give hB; clear hB
         obtain ⟨p1_2, c1_3, he, hl1_2⟩ := ro_slice (hm.ow_rep 0 rfl)
         subst he
         refine st_y hf rfl rfl rfl (y_len_slice st_25.und rfl rfl) fun a hf => st_y hf rfl rfl rfl (y_assign rfl rfl) fun a hf => st_end (x_then_n (wp_seq (wp_region_lit (st_y hf rfl rfl rfl (y_fieldAddr fo_86_0 rfl rfl) fun a hf => st_y hf rfl rfl rfl (y_load1 Tryz.isAgg83 rfl rfl (hm.blk_cell 5 rfl rfl)) fun a hf => ?_))))
         obtain ⟨p1_3, c1_4, he, hl1_3⟩ := ro_slice h1_9
         subst he
         refine st_y hf rfl rfl rfl (y_len_slice st_83.und rfl rfl) fun a hf => st_y hf rfl rfl rfl (y_move rfl rfl) fun a hf => st_end (x_then_n (wp_block ?_))
         obtain ⟨r1_5, hl1_4, hb0_1⟩ := bnd hb0_1
         refine wp_forN _ (fun i2_1 xs2_1 a w => Fr 121 [(2, (.pointer (some ⟨b0_1, 0, none⟩))), (3, (.pointer (some ⟨b0_2, 0, none⟩))), (5, (.pointer (some ⟨b0_4, 0, none⟩))), (6, (.pointer (some ⟨b0_5, 0, none⟩))), (7, (.int .i64 (i1_1))), (9, (.int .i64 ((r1_4.length : Int)))), (39, (.slice (some ⟨b1_1, o1_1, none⟩) x0_1.blocks.length c0_2)), (40, (.int .i64 ((x0_1.blocks.length : Int)))), (41, (.int .i64 (i1_1))), (91, (.slice p1_3 x1_1.phis.length c1_4)), (92, (.int .i64 ((x1_1.phis.length : Int)))), (93, (.int .i64 (i2_1)))] a ∧ Mem w0 (hp w0) w [blk b0_1 [(.slice (some ⟨b0_3, o0_1, none⟩) u.codes.length c0_1)] 30, blk b0_2 [(.int .i64 (k_))] 3, blk b0_4 [(.int .i64 (x0_1.params)), (.int .i64 (x0_1.regs)), (.slice (some ⟨b1_1, o1_1, none⟩) x0_1.blocks.length c0_2)] 69, blk b0_5 [(.func (.func 81) #[] #[(.pointer (some ⟨b0_4, 0, none⟩))])] 96]) (0) ((x1_1.phis.length : Int)) hl1_4 ?_ ?_ ?_
         ·
          exact ⟨hf.sub ⟨rfl, rfl, rfl, rfl, rfl, rfl, rfl, rfl, rfl, rfl, rfl, rfl, trivial⟩, hm.pick [1, 2, 3, 4] (by decide) rfl⟩
         ·
          clear hf hm
          rintro i2_1 xs2_1 a w ⟨hf, hm⟩ hi2_1 hi2_2 q1_1 hb1_1 ho1_5
          refine wp_seq (wp_region_lit (st_y hf rfl rfl rfl (y_lss rfl rfl rfl) fun a hf => st_end (x_then_n (wp_seq (cond_t hf rfl (decide_eq_true (by omega)) (wp_skip (x_then_n ?_)))))))
          refine wp_seq (wp_block (wp_seq (wp_region_lit ?_)))
          obtain ⟨x2_1, hx2_8, hb1_1⟩ := bnd hb1_1
          obtain ⟨h2_15, hx2_9⟩ := getI_some.1 hx2_8
          obtain ⟨b2_1, o2_1, c2_2, he⟩ := idx_form' h1_9 hx2_9
          simp only [Value.slice.injEq, Option.some.injEq] at he; obtain ⟨rfl, _, rfl⟩ := he
          obtain ⟨_, _, hc2_1, hr2_1⟩ := ro_get' h1_9 hx2_9
          obtain ⟨_, _, rfl, rfl, h2_16⟩ := hr2_1
          obtain ⟨v2_8, rfl, -⟩ := id h2_16
          replace h2_16 : GT.rep (hp w0) [v2_8] x2_1.args := h2_16
          replace hc2_1 : CellsAt (hp w0) b2_1 (o2_1 + (i2_1).toNat * 2) [(.int .i64 (x2_1.to)), v2_8] := hc2_1
          refine st_y hf rfl rfl rfl (y_indexAddr st_83 rfl rfl rfl h2_15 (idx_lt hx2_9)) fun a hf => st_y hf rfl rfl rfl (y_loadN (cs := [(.int .i64 (x2_1.to)), v2_8]) Tryz.isAgg102 Tryz.sizeOf102 rfl rfl (hc2_1.mono hm.lez)) fun a hf => st_ef hf rfl rfl rfl (e_alloc hm Tryz.zeroValue102 rfl rfl) ?_
          clear hf a; rintro _ w2_8 a ⟨b2_2, rfl, hm⟩ hf
          refine st_ef0 hf rfl rfl (e_storeN 0 hf hm rfl Tryz.sizeOf102 rfl rfl rfl (one_cons rfl (one_cons (rep_one h2_16) one_nil)) rfl rfl) ?_
          clear hf a; rintro _ w2_9 a hm hf
          refine st_end (x_then_n (wp_seq ?_))
          obtain ⟨s2_1, hq2_1, hb1_1⟩ := bnd hb1_1
          refine code_cut (K := fun a w => Fr 121 [(2, (.pointer (some ⟨b0_1, 0, none⟩))), (3, (.pointer (some ⟨b0_2, 0, none⟩))), (5, (.pointer (some ⟨b0_4, 0, none⟩))), (6, (.pointer (some ⟨b0_5, 0, none⟩))), (7, (.int .i64 (i1_1))), (9, (.int .i64 ((r1_4.length : Int)))), (39, (.slice (some ⟨b1_1, o1_1, none⟩) x0_1.blocks.length c0_2)), (40, (.int .i64 ((x0_1.blocks.length : Int)))), (41, (.int .i64 (i1_1))), (91, (.slice (some ⟨b2_1, o2_1, none⟩) x1_1.phis.length c1_4)), (92, (.int .i64 ((x1_1.phis.length : Int)))), (93, (.int .i64 (i2_1))), (118, (.bool (s2_1)))] a ∧ Mem w0 (hp w0) w [blk b0_1 [(.slice (some ⟨b0_3, o0_1, none⟩) u.codes.length c0_1)] 30, blk b0_2 [(.int .i64 (k_))] 3, blk b0_4 [(.int .i64 (x0_1.params)), (.int .i64 (x0_1.regs)), (.slice (some ⟨b1_1, o1_1, none⟩) x0_1.blocks.length c0_2)] 69, blk b0_5 [(.func (.func 81) #[] #[(.pointer (some ⟨b0_4, 0, none⟩))])] 96]) ?_ ?_
          ·
           refine wp_region_lit (st_y hf rfl rfl rfl (y_move rfl rfl) fun a hf => st_y hf rfl rfl rfl (y_eql rfl rfl rfl) fun a hf => st_y hf rfl rfl rfl (y_move rfl rfl) fun a hf => ?_)
           rcases bcases (decide (i1_1 = 0)) with h3_1 | h3_1
           ·
            replace hq2_1 := (ite_t h3_1).symm.trans hq2_1
            have h3_2 := of_decide_eq_true h3_1
            refine st_no hf rfl rfl (lk_b rfl h3_1) rfl rfl rfl fun a hf => st_no hf rfl rfl (lk_b rfl h3_1) rfl rfl rfl fun a hf => st_no hf rfl rfl (lk_b rfl h3_1) rfl rfl rfl fun a hf => st_no hf rfl rfl (lk_b rfl h3_1) rfl rfl rfl fun a hf => st_no hf rfl rfl (lk_b rfl h3_1) rfl rfl rfl fun a hf => st_y hf rfl rfl rfl (y_pick_t rfl (ev_b rfl h3_1) rfl) fun a hf => st_y hf rfl rfl rfl (y_move rfl rfl) fun a hf => st_no hf rfl rfl (lk_b rfl rfl) rfl rfl rfl fun a hf => st_no hf rfl rfl (lk_b rfl rfl) rfl rfl rfl fun a hf => ?_
            refine st_no hf rfl rfl (lk_b rfl rfl) rfl rfl rfl fun a hf => st_no hf rfl rfl (lk_b rfl rfl) rfl rfl rfl fun a hf => st_no hf rfl rfl (lk_b rfl rfl) rfl rfl rfl fun a hf => st_y hf rfl rfl rfl (y_pick_t rfl (ev_b rfl rfl) rfl) fun a hf => st_y hf rfl rfl rfl (y_move rfl rfl) fun a hf => st_no hf rfl rfl (lk_b rfl rfl) rfl rfl rfl fun a hf => st_no hf rfl rfl (lk_b rfl rfl) rfl rfl rfl fun a hf => st_no hf rfl rfl (lk_b rfl rfl) rfl rfl rfl fun a hf => st_no hf rfl rfl (lk_b rfl rfl) rfl rfl rfl fun a hf => ?_
            refine st_y hf rfl rfl rfl (y_pick_t rfl (ev_b rfl rfl) rfl) fun a hf => st_end (x_then_n ?_)
            obtain rfl := Option.some.inj hq2_1
            exact ⟨hf.sub ⟨rfl, rfl, rfl, rfl, rfl, rfl, rfl, rfl, rfl, rfl, rfl, rfl, rfl, trivial⟩, hm.pick [1, 2, 3, 4] (by decide) rfl⟩
           ·
            replace hq2_1 := (ite_f h3_1).symm.trans hq2_1
            have h3_3 := of_decide_eq_false h3_1
            refine st_yg hf rfl rfl (lk_b rfl h3_1) rfl rfl (y_load1 Tryz.isAgg96 rfl rfl (hm.blk_cell 4 rfl rfl)) fun a hf => st_yg hf rfl rfl (lk_b rfl h3_1) rfl rfl (y_fieldAddr fo_102_0 rfl rfl) fun a hf => st_yg hf rfl rfl (lk_b rfl h3_1) rfl rfl (y_load1 Tryz.isAgg3 rfl rfl (hm.blk_cell 0 rfl rfl)) fun a hf => ?_
            obtain ⟨r3_1, hx3_1, hq2_1⟩ := bnd hq2_1
            refine st_efg hf rfl rfl (lk_b rfl h3_1) rfl rfl (e_callv hf rfl rfl rfl ⟨81, [(.pointer (some ⟨b0_4, 0, none⟩))], rfl, Tryz.call81, impl_codeOk_1_ok _ x2_1.to x0_1 (.slice (some ⟨b1_1, o1_1, none⟩) x0_1.blocks.length c0_2) (rep_later (hm.now h0_2) (Below.refl _ _)) b0_4 (hm.blk_later 3 rfl (Below.refl _ _)) _ hx3_1⟩) ?_
            clear hf a; rintro v3_1 w3_1 a ho3_1 hf
            obtain ⟨rfl, hB⟩ := ho3_1
            replace hm := hm.below' hB; clear hB
            refine st_yg hf rfl rfl (lk_b rfl h3_1) rfl rfl (y_not rfl rfl) fun a hf => st_y hf rfl rfl rfl (y_pick_f rfl (ev_b rfl h3_1) rfl) fun a hf => st_y hf rfl rfl rfl (y_move rfl rfl) fun a hf => ?_
            rcases bcases (!(r3_1)) with h3_4 | h3_4
            ·
             replace hq2_1 := (ite_t h3_4).symm.trans hq2_1
             have h3_5 := bnot_t' h3_4
             refine st_no hf rfl rfl (lk_b rfl h3_4) rfl rfl rfl fun a hf => st_no hf rfl rfl (lk_b rfl h3_4) rfl rfl rfl fun a hf => st_no hf rfl rfl (lk_b rfl h3_4) rfl rfl rfl fun a hf => st_no hf rfl rfl (lk_b rfl h3_4) rfl rfl rfl fun a hf => st_no hf rfl rfl (lk_b rfl h3_4) rfl rfl rfl fun a hf => st_y hf rfl rfl rfl (y_pick_t rfl (ev_b rfl h3_4) rfl) fun a hf => st_y hf rfl rfl rfl (y_move rfl rfl) fun a hf => st_no hf rfl rfl (lk_b rfl rfl) rfl rfl rfl fun a hf => st_no hf rfl rfl (lk_b rfl rfl) rfl rfl rfl fun a hf => ?_
             refine st_no hf rfl rfl (lk_b rfl rfl) rfl rfl rfl fun a hf => st_no hf rfl rfl (lk_b rfl rfl) rfl rfl rfl fun a hf => st_y hf rfl rfl rfl (y_pick_t rfl (ev_b rfl rfl) rfl) fun a hf => st_end (x_then_n ?_)
             obtain rfl := Option.some.inj hq2_1
             exact ⟨hf.sub ⟨rfl, rfl, rfl, rfl, rfl, rfl, rfl, rfl, rfl, rfl, rfl, rfl, rfl, trivial⟩, hm.pick [1, 2, 3, 4] (by decide) rfl⟩
            ·
             replace hq2_1 := (ite_f h3_4).symm.trans hq2_1
             have h3_6 := bnot_f' h3_4
             refine st_yg hf rfl rfl (lk_b rfl h3_4) rfl rfl (y_fieldAddr fo_102_1 rfl rfl) fun a hf => st_yg hf rfl rfl (lk_b rfl h3_4) rfl rfl (y_load1 Tryz.isAgg25 rfl rfl (hm.blk_cell 0 rfl rfl)) fun a hf => ?_
             obtain ⟨p3_1, c3_1, he, hl3_1⟩ := ro_slice h2_16
             subst he
             refine st_yg hf rfl rfl (lk_b rfl h3_4) rfl rfl (y_len_slice st_25.und rfl rfl) fun a hf => st_yg hf rfl rfl (lk_b rfl h3_4) rfl rfl (y_move rfl rfl) fun a hf => st_yg hf rfl rfl (lk_b rfl h3_4) rfl rfl (y_neq rfl rfl rfl) fun a hf => st_y hf rfl rfl rfl (y_pick_f rfl (ev_b rfl h3_4) rfl) fun a hf => st_y hf rfl rfl rfl (y_move rfl rfl) fun a hf => ?_
             rcases bcases (decide (((x2_1.args.length : Int)) ≠ ((r1_4.length : Int)))) with h3_7 | h3_7
             ·
              replace hq2_1 := (ite_t h3_7).symm.trans hq2_1
              have h3_8 := of_decide_eq_true h3_7
              refine st_no hf rfl rfl (lk_b rfl h3_7) rfl rfl rfl fun a hf => st_no hf rfl rfl (lk_b rfl h3_7) rfl rfl rfl fun a hf => st_no hf rfl rfl (lk_b rfl h3_7) rfl rfl rfl fun a hf => st_no hf rfl rfl (lk_b rfl h3_7) rfl rfl rfl fun a hf => st_y hf rfl rfl rfl (y_pick_t rfl (ev_b rfl h3_7) rfl) fun a hf => st_end (x_then_n ?_)
              obtain rfl := Option.some.inj hq2_1
              exact ⟨hf.sub ⟨rfl, rfl, rfl, rfl, rfl, rfl, rfl, rfl, rfl, rfl, rfl, rfl, rfl, trivial⟩, hm.pick [1, 2, 3, 4] (by decide) rfl⟩
             ·
              replace hq2_1 := (ite_f h3_7).symm.trans hq2_1
              have h3_9 := of_decide_eq_false h3_7
              refine st_yg hf rfl rfl (lk_b rfl h3_7) rfl rfl (y_fieldAddr fo_102_1 rfl rfl) fun a hf => st_yg hf rfl rfl (lk_b rfl h3_7) rfl rfl (y_load1 Tryz.isAgg25 rfl rfl (hm.blk_cell 0 rfl rfl)) fun a hf => st_yg hf rfl rfl (lk_b rfl h3_7) rfl rfl (y_makeFunc rfl rfl) fun a hf => ?_
              obtain ⟨r3_2, hx3_2, hq2_1⟩ := bnd hq2_1
              refine st_efg hf rfl rfl (lk_b rfl h3_7) rfl rfl (e_call hf rfl Tryz.call60 rfl (slices_ContainsFunc_S_int_int_ok _ x2_1.args (.slice p3_1 x2_1.args.length c3_1) (hm.now h2_16) (fun y0 => impl_codeOk_4 y0 x0_1) (.func (.func 88) #[] #[(.pointer (some ⟨b0_5, 0, none⟩))]) (fun w y0 r hB hq => ⟨88, [(.pointer (some ⟨b0_5, 0, none⟩))], rfl, Tryz.call88, impl_codeOk_4_ok w y0 x0_1 (.slice (some ⟨b1_1, o1_1, none⟩) x0_1.blocks.length c0_2) (rep_later (hm.now h0_2) hB) b0_4 (hm.blk_later 3 rfl hB) b0_5 (hm.blk_later 4 rfl hB) r hq⟩) _ hx3_2)) ?_
              clear hf a; rintro v3_2 w3_2 a ho3_2 hf
              obtain ⟨rfl, hB⟩ := ho3_2
              replace hm := hm.below' hB; clear hB
              refine st_y hf rfl rfl rfl (y_pick_f rfl (ev_b rfl h3_7) rfl) fun a hf => st_end (x_then_n ?_)
              obtain rfl := Option.some.inj hq2_1
              exact ⟨hf.sub ⟨rfl, rfl, rfl, rfl, rfl, rfl, rfl, rfl, rfl, rfl, rfl, rfl, rfl, trivial⟩, hm.pick [1, 2, 3, 4] (by decide) rfl⟩
          ·
           clear hf hm
           rintro a w ⟨hf, hm⟩
           refine x_then_n ?_
           rcases bcases (s2_1) with h2_17 | h2_17
           ·
            replace hb1_1 := (ite_t h2_17).symm.trans hb1_1
            refine cond_t hf rfl h2_17 (wp_seq (wp_region_lit (st_y hf rfl rfl rfl (y_assign rfl rfl) fun a hf => st_end (x_then_n (wp_ret (x_blk_ret (x_then_ret ?_)))))))
            refine x_then_ret (x_blk_ret (x_blk_ret (x_then_ret (x_then_ret (x_blk_ret (x_then_ret ?_))))))
            obtain rfl := Option.some.inj hb1_1
            obtain rfl := ho1_5 _ rfl
            replace hb0_1 := sum_r hb0_1
            obtain rfl := Option.some.inj hb0_1
            obtain rfl := ho0_1 _ rfl
            replace hq := sum_r hq
            obtain rfl := Option.some.inj hq
            refine ret_tmp hf Tryz.results58 rfl ?_
            exact ⟨rfl, hm.below⟩
           ·
            replace hb1_1 := (ite_f h2_17).symm.trans hb1_1
            refine cond_f hf rfl h2_17 (wp_skip (x_blk_n (x_then_n (wp_region_lit (st_y hf rfl rfl rfl (y_add64 rfl rfl rfl (by omega) (by omega)) fun a hf => st_y hf rfl rfl rfl (y_move rfl rfl) fun a hf => st_end (x_then_n ?_))))))
            obtain rfl := Option.some.inj hb1_1
            exact ⟨_, rfl, hf.sub ⟨rfl, rfl, rfl, rfl, rfl, rfl, rfl, rfl, rfl, rfl, rfl, rfl, trivial⟩, hm.pick [0, 1, 2, 3] (by decide) rfl⟩
         ·
          clear hf hm
          rintro i1_2 xs1_2 a w ⟨hf, hm⟩ hi1_3 hi1_4 rfl
          replace hb0_1 := sum_l hb0_1
          refine wp_seq (wp_region_lit (st_y hf rfl rfl rfl (y_lss rfl rfl rfl) fun a hf => st_end (x_then_n (wp_seq (cond_f hf rfl (decide_eq_false (by omega)) (wp_exit (x_then_exit ?_)))))))
          refine x_then_exit (x_blk_hit (x_blk_n (x_then_n (wp_region_lit (st_y hf rfl rfl rfl (y_add64 rfl rfl rfl (by omega) (by omega)) fun a hf => st_y hf rfl rfl rfl (y_move rfl rfl) fun a hf => st_end (x_then_n ?_))))))
          obtain rfl := Option.some.inj hb0_1
          exact ⟨_, rfl, hf.sub ⟨rfl, rfl, rfl, rfl, rfl, rfl, rfl, trivial⟩, hm.pick [0, 1, 2, 3] (by decide) rfl⟩
    ·
     clear hf hm
     rintro i0_1 xs0_1 a w ⟨hf, hm⟩ hi0_1 hi0_2 rfl
     replace hq := sum_l hq
     refine wp_seq (wp_region_lit (st_y hf rfl rfl rfl (y_lss rfl rfl rfl) fun a hf => st_end (x_then_n (wp_seq (cond_f hf rfl (decide_eq_false (by omega)) (wp_exit (x_then_exit ?_)))))))
     refine x_then_exit (x_blk_hit (x_then_n (wp_seq (wp_region_lit (st_y hf rfl rfl rfl (y_assign rfl rfl) fun a hf => st_end (x_then_n (wp_ret ?_)))))))
     obtain rfl := Option.some.inj hq
     refine ret_tmp hf Tryz.results58 rfl ?_
     exact ⟨rfl, hm.below⟩

theorem impl_codeCount_ok (w0 : World) (c_ : Code_) (v1 : Value) (h1 : GT.rep (hp w0) [v1] c_.blocks) (r : Int) (hq : impl_codeCount c_ = some r) :
    Con Tryz.prog 59 [(.agg #[(.int .i64 (c_.params)), (.int .i64 (c_.regs)), v1])] w0 (fun v w' => v = (.int .i64 (r)) ∧ Below w0.heap.size w0 w') := by
  unfold impl_codeCount at hq
  refine con_body (l := [(0, (.agg #[(.int .i64 (c_.params)), (.int .i64 (c_.regs)), v1]))]) Tryz.func59 rfl Tryz.ntmps59 (Args.get ⟨rfl, trivial⟩) rfl ?_
  intro a hf
  have hm := Mem.start w0
  refine wp_seq (wp_region_lit (st_ef hf rfl rfl rfl (e_box hf hm rfl rfl rfl) ?_))
  clear hf a; rintro _ w0_1 a ⟨b0_1, rfl, hm⟩ hf
  refine st_y hf rfl rfl rfl (y_assign rfl rfl) fun a hf => st_end (x_then_n (wp_seq (wp_region_lit (st_y hf rfl rfl rfl (y_assign rfl rfl) fun a hf => st_end (x_then_n (wp_seq ?_))))))
  refine wp_seq (wp_region_lit (st_y hf rfl rfl rfl (y_fieldAddr fo_69_2 rfl rfl) fun a hf => st_y hf rfl rfl rfl (y_load1 Tryz.isAgg67 rfl rfl (hm.blk_cell 0 rfl rfl)) fun a hf => ?_))
  obtain ⟨p0_1, c0_1, he, hl0_1⟩ := ro_slice h1
  subst he
  refine st_y hf rfl rfl rfl (y_len_slice st_67.und rfl rfl) fun a hf => st_y hf rfl rfl rfl (y_move rfl rfl) fun a hf => st_end (x_then_n (wp_block ?_))
  obtain ⟨r0_1, hl0_2, hq⟩ := bnd hq
  refine wp_forN _ (fun i1_1 xs1_1 a w => Fr 24 [(3, (.int .i64 (xs1_1))), (7, (.slice p0_1 c_.blocks.length c0_1)), (8, (.int .i64 ((c_.blocks.length : Int)))), (9, (.int .i64 (i1_1)))] a ∧ Mem w0 (hp w0) w []) (0) ((c_.blocks.length : Int)) hl0_2 ?_ ?_ ?_
  ·
   exact ⟨hf.sub ⟨rfl, rfl, rfl, rfl, trivial⟩, hm.pick [] (by decide) rfl⟩
  ·
   clear hf hm
   rintro i1_1 xs1_1 a w ⟨hf, hm⟩ hi1_1 hi1_2 q0_1 hb0_1 ho0_1
   refine wp_seq (wp_region_lit (st_y hf rfl rfl rfl (y_lss rfl rfl rfl) fun a hf => st_end (x_then_n (wp_seq (cond_t hf rfl (decide_eq_true (by omega)) (wp_skip (x_then_n ?_)))))))
   refine wp_seq (wp_block (wp_seq (wp_region_lit ?_)))
   obtain ⟨x1_1, hx1_1, hb0_1⟩ := bnd hb0_1
   obtain ⟨h1_1, hx1_2⟩ := getI_some.1 hx1_1
   obtain ⟨b1_1, o1_1, c1_1, he⟩ := idx_form' h1 hx1_2
   simp only [Value.slice.injEq, Option.some.injEq] at he; obtain ⟨rfl, _, rfl⟩ := he
   obtain ⟨_, _, hc1_1, hr1_1⟩ := ro_get' h1 hx1_2
   obtain ⟨_, _, rfl, h1_2, _, _, rfl, h1_3, _, _, rfl, rfl, _, _, rfl, rfl, h1_4⟩ := hr1_1
   obtain ⟨v1_1, rfl, -⟩ := id h1_2
   replace h1_2 : GT.rep (hp w0) [v1_1] x1_1.phis := h1_2
   obtain ⟨v1_2, rfl, -⟩ := id h1_3
   replace h1_3 : GT.rep (hp w0) [v1_2] x1_1.ins := h1_3
   obtain ⟨v1_3, rfl, -⟩ := id h1_4
   replace h1_4 : GT.rep (hp w0) [v1_3] x1_1.next_ := h1_4
   replace hc1_1 : CellsAt (hp w0) b1_1 (o1_1 + (i1_1).toNat * 5) [v1_1, v1_2, (.int .i64 (x1_1.jump)), (.int .i64 (x1_1.on)), v1_3] := hc1_1
   refine st_y hf rfl rfl rfl (y_indexAddr st_67 rfl rfl rfl h1_1 (idx_lt hx1_2)) fun a hf => st_y hf rfl rfl rfl (y_loadN (cs := [v1_1, v1_2, (.int .i64 (x1_1.jump)), (.int .i64 (x1_1.on)), v1_3]) Tryz.isAgg86 Tryz.sizeOf86 rfl rfl (hc1_1.mono hm.lez)) fun a hf => st_ef hf rfl rfl rfl (e_alloc hm Tryz.zeroValue86 rfl rfl) ?_
   clear hf a; rintro _ w1_1 a ⟨b1_2, rfl, hm⟩ hf
   refine st_ef0 hf rfl rfl (e_storeN 0 hf hm rfl Tryz.sizeOf86 rfl rfl rfl (one_cons (rep_one h1_2) (one_cons (rep_one h1_3) (one_cons rfl (one_cons rfl (one_cons (rep_one h1_4) one_nil))))) rfl rfl) ?_
   clear hf a; rintro _ w1_2 a hm hf
   refine st_end (x_then_n (wp_region_lit (st_y hf rfl rfl rfl (y_move rfl rfl) fun a hf => st_y hf rfl rfl rfl (y_fieldAddr fo_86_0 rfl rfl) fun a hf => st_y hf rfl rfl rfl (y_load1 Tryz.isAgg83 rfl rfl (hm.blk_cell 0 rfl rfl)) fun a hf => ?_)))
   obtain ⟨p1_1, c1_2, he, hl1_1⟩ := ro_slice h1_2
   subst he
   refine st_y hf rfl rfl rfl (y_len_slice st_83.und rfl rfl) fun a hf => st_y hf rfl rfl rfl (y_fieldAddr fo_86_1 rfl rfl) fun a hf => st_y hf rfl rfl rfl (y_load1 Tryz.isAgg84 rfl rfl (hm.blk_cell 0 rfl rfl)) fun a hf => ?_
   obtain ⟨p1_2, c1_3, he, hl1_2⟩ := ro_slice h1_3
   subst he
   refine st_y hf rfl rfl rfl (y_len_slice st_84.und rfl rfl) fun a hf => st_y hf rfl rfl rfl (y_add64 rfl rfl rfl (by omega) (by omega)) fun a hf => st_y hf rfl rfl rfl (y_addw rfl rfl rfl) fun a hf => st_y hf rfl rfl rfl (y_assign rfl rfl) fun a hf => st_end (x_blk_n (x_then_n (wp_region_lit (st_y hf rfl rfl rfl (y_add64 rfl rfl rfl (by omega) (by omega)) fun a hf => ?_))))
   refine st_y hf rfl rfl rfl (y_move rfl rfl) fun a hf => st_end (x_then_n ?_)
   obtain rfl := Option.some.inj hb0_1
   exact ⟨_, rfl, hf.sub ⟨rfl, rfl, rfl, rfl, trivial⟩, hm.pick [] (by decide) rfl⟩
  ·
   clear hf hm
   rintro i0_1 xs0_1 a w ⟨hf, hm⟩ hi0_1 hi0_2 rfl
   replace hq := sum_l hq
   refine wp_seq (wp_region_lit (st_y hf rfl rfl rfl (y_lss rfl rfl rfl) fun a hf => st_end (x_then_n (wp_seq (cond_f hf rfl (decide_eq_false (by omega)) (wp_exit (x_then_exit ?_)))))))
   refine x_then_exit (x_blk_hit (x_then_n (wp_seq (wp_region_lit (st_y hf rfl rfl rfl (y_move rfl rfl) fun a hf => st_y hf rfl rfl rfl (y_assign rfl rfl) fun a hf => st_end (x_then_n ?_))))))
   refine wp_ret ?_
   obtain rfl := Option.some.inj hq
   refine ret_tmp hf Tryz.results59 rfl ?_
   exact ⟨rfl, hm.below⟩

theorem impl_UnitValid_ok (w0 : World) (u : Unit_) (v1 : Value) (h1 : GT.rep (hp w0) [v1] u.codes) (r : Bool) (hq : impl_UnitValid u = some r) :
    Con Tryz.prog 42 [(.agg #[v1])] w0 (fun v w' => v = (.bool (r)) ∧ Below w0.heap.size w0 w') := by
  unfold impl_UnitValid at hq
  refine con_body (l := [(0, (.agg #[v1]))]) Tryz.func42 rfl Tryz.ntmps42 (Args.get ⟨rfl, trivial⟩) rfl ?_
  intro a hf
  have hm := Mem.start w0
  refine wp_seq (wp_region_lit (st_ef hf rfl rfl rfl (e_box hf hm rfl rfl rfl) ?_))
  clear hf a; rintro _ w0_1 a ⟨b0_1, rfl, hm⟩ hf
  refine st_y hf rfl rfl rfl (y_assign rfl rfl) fun a hf => st_end (x_then_n (wp_seq (wp_seq (wp_region_lit (st_y hf rfl rfl rfl (y_fieldAddr fo_30_0 rfl rfl) fun a hf => st_y hf rfl rfl rfl (y_load1 Tryz.isAgg28 rfl rfl (hm.blk_cell 0 rfl rfl)) fun a hf => ?_)))))
  obtain ⟨p0_1, c0_1, he, hl0_1⟩ := ro_slice h1
  subst he
  refine st_y hf rfl rfl rfl (y_len_slice st_28.und rfl rfl) fun a hf => ?_
  obtain ⟨r0_1, hx0_1, hq⟩ := bnd hq
  refine st_ef hf rfl rfl rfl (e_call hf rfl Tryz.call45 rfl (impl_within_ok _ (u.codes.length : Int) 1 4 _ hx0_1)) ?_
  clear hf a; rintro v0_1 w0_2 a ho0_1 hf
  obtain ⟨rfl, hB⟩ := ho0_1
  replace hm := hm.below' hB; clear hB
  refine st_y hf rfl rfl rfl (y_not rfl rfl) fun a hf => st_end (x_then_n ?_)
  rcases bcases (!(r0_1)) with h0_1 | h0_1
  ·
   replace hq := (ite_t h0_1).symm.trans hq
   have h0_2 := bnot_t' h0_1
   refine cond_t hf rfl h0_1 (wp_seq (wp_region_lit (st_y hf rfl rfl rfl (y_assign rfl rfl) fun a hf => st_end (x_then_n (wp_ret (x_then_ret ?_))))))
   obtain rfl := Option.some.inj hq
   refine ret_tmp hf Tryz.results42 rfl ?_
   exact ⟨rfl, hm.below⟩
  ·
   replace hq := (ite_f h0_1).symm.trans hq
   have h0_3 := bnot_f' h0_1
   refine cond_f hf rfl h0_1 (wp_skip (x_then_n (wp_seq (wp_region_lit (st_y hf rfl rfl rfl (y_assign rfl rfl) fun a hf => st_end (x_then_n (wp_seq ?_)))))))
   refine wp_seq (wp_region_lit (st_y hf rfl rfl rfl (y_fieldAddr fo_30_0 rfl rfl) fun a hf => st_y hf rfl rfl rfl (y_load1 Tryz.isAgg28 rfl rfl (hm.blk_cell 0 rfl rfl)) fun a hf => st_y hf rfl rfl rfl (y_len_slice st_28.und rfl rfl) fun a hf => st_y hf rfl rfl rfl (y_move rfl rfl) fun a hf => st_end (x_then_n (wp_block ?_))))
   obtain ⟨r0_2, hl0_2, hq⟩ := bnd hq
   refine wp_forN _ (fun i1_1 xs1_1 a w => Fr 30 [(1, (.pointer (some ⟨b0_1, 0, none⟩))), (3, (.int .i64 (xs1_1))), (12, (.slice p0_1 u.codes.length c0_1)), (13, (.int .i64 ((u.codes.length : Int)))), (14, (.int .i64 (i1_1)))] a ∧ Mem w0 (hp w0) w [blk b0_1 [(.slice p0_1 u.codes.length c0_1)] 30]) (0) ((u.codes.length : Int)) hl0_2 ?_ ?_ ?_
   ·
    exact ⟨hf.sub ⟨rfl, rfl, rfl, rfl, rfl, trivial⟩, hm.pick [0] (by decide) rfl⟩
   ·
    clear hf hm
    rintro i1_1 xs1_1 a w ⟨hf, hm⟩ hi1_1 hi1_2 q0_1 hb0_1 ho0_2
    refine wp_seq (wp_region_lit (st_y hf rfl rfl rfl (y_lss rfl rfl rfl) fun a hf => st_end (x_then_n (wp_seq (cond_t hf rfl (decide_eq_true (by omega)) (wp_skip (x_then_n ?_)))))))
    refine wp_seq (wp_block (wp_seq (wp_region_lit (st_y hf rfl rfl rfl (y_move rfl rfl) fun a hf => ?_))))
    obtain ⟨x1_1, hx1_1, hb0_1⟩ := bnd hb0_1
    obtain ⟨h1_1, hx1_2⟩ := getI_some.1 hx1_1
    obtain ⟨b1_1, o1_1, c1_1, he⟩ := idx_form' h1 hx1_2
    simp only [Value.slice.injEq, Option.some.injEq] at he; obtain ⟨rfl, _, rfl⟩ := he
    obtain ⟨_, _, hc1_1, hr1_1⟩ := ro_get' h1 hx1_2
    obtain ⟨_, _, rfl, rfl, _, _, rfl, rfl, h1_2⟩ := hr1_1
    obtain ⟨v1_1, rfl, -⟩ := id h1_2
    replace h1_2 : GT.rep (hp w0) [v1_1] x1_1.blocks := h1_2
    replace hc1_1 : CellsAt (hp w0) b1_1 (o1_1 + (i1_1).toNat * 3) [(.int .i64 (x1_1.params)), (.int .i64 (x1_1.regs)), v1_1] := hc1_1
    refine st_y hf rfl rfl rfl (y_indexAddr st_28 rfl rfl rfl h1_1 (idx_lt hx1_2)) fun a hf => st_y hf rfl rfl rfl (y_loadN (cs := [(.int .i64 (x1_1.params)), (.int .i64 (x1_1.regs)), v1_1]) Tryz.isAgg69 Tryz.sizeOf69 rfl rfl (hc1_1.mono hm.lez)) fun a hf => st_ef hf rfl rfl rfl (e_alloc hm Tryz.zeroValue69 rfl rfl) ?_
    clear hf a; rintro _ w1_1 a ⟨b1_2, rfl, hm⟩ hf
    refine st_y hf rfl rfl rfl (y_assign rfl rfl) fun a hf => st_ef0 hf rfl rfl (e_storeN 0 hf hm rfl Tryz.sizeOf69 rfl rfl rfl (one_cons rfl (one_cons rfl (one_cons (rep_one h1_2) one_nil))) rfl rfl) ?_
    clear hf a; rintro _ w1_2 a hm hf
    refine st_end (x_then_n (wp_seq (wp_seq (wp_region_lit (st_y hf rfl rfl rfl (y_loadN (cs := [(.slice (some ⟨b1_1, o1_1, none⟩) u.codes.length c0_1)]) Tryz.isAgg30 Tryz.sizeOf30 rfl rfl (hm.blk_at 1 rfl)) fun a hf => st_y hf rfl rfl rfl (y_move rfl rfl) fun a hf => ?_)))))
    obtain ⟨r1_1, hx1_3, hb0_1⟩ := bnd hb0_1
    refine st_ef hf rfl rfl rfl (e_call hf rfl Tryz.call58 rfl (impl_codeOk_ok _ u (.slice (some ⟨b1_1, o1_1, none⟩) u.codes.length c0_1) (hm.now h1) i1_1 _ hx1_3)) ?_
    clear hf a; rintro v1_2 w1_3 a ho1_1 hf
    obtain ⟨rfl, hB⟩ := ho1_1
    replace hm := hm.below' hB; clear hB
    refine st_y hf rfl rfl rfl (y_not rfl rfl) fun a hf => st_end (x_then_n ?_)
    rcases bcases (!(r1_1)) with h1_3 | h1_3
    ·
     replace hb0_1 := (ite_t h1_3).symm.trans hb0_1
     have h1_4 := bnot_t' h1_3
     refine cond_t hf rfl h1_3 (wp_seq (wp_region_lit (st_y hf rfl rfl rfl (y_assign rfl rfl) fun a hf => st_end (x_then_n (wp_ret (x_then_ret (x_blk_ret ?_)))))))
     refine x_then_ret (x_then_ret (x_blk_ret (x_then_ret ?_)))
     obtain rfl := Option.some.inj hb0_1
     obtain rfl := ho0_2 _ rfl
     replace hq := sum_r hq
     obtain rfl := Option.some.inj hq
     refine ret_tmp hf Tryz.results42 rfl ?_
     exact ⟨rfl, hm.below⟩
    ·
     replace hb0_1 := (ite_f h1_3).symm.trans hb0_1
     have h1_5 := bnot_f' h1_3
     refine cond_f hf rfl h1_3 (wp_skip (x_then_n (wp_region_lit (st_y hf rfl rfl rfl (y_move rfl rfl) fun a hf => st_y hf rfl rfl rfl (y_loadN (cs := [(.int .i64 (x1_1.params)), (.int .i64 (x1_1.regs)), v1_1]) Tryz.isAgg69 Tryz.sizeOf69 rfl rfl (hm.blk_at 0 rfl)) fun a hf => ?_))))
     obtain ⟨r1_2, hx1_4, hb0_1⟩ := bnd hb0_1
     refine st_ef hf rfl rfl rfl (e_call hf rfl Tryz.call59 rfl (impl_codeCount_ok _ x1_1 v1_1 (hm.now h1_2) _ hx1_4)) ?_
     clear hf a; rintro v1_3 w1_4 a ho1_2 hf
     obtain ⟨rfl, hB⟩ := ho1_2
     replace hm := hm.below' hB; clear hB
     refine st_y hf rfl rfl rfl (y_addw rfl rfl rfl) fun a hf => st_y hf rfl rfl rfl (y_assign rfl rfl) fun a hf => st_end (x_blk_n (x_then_n (wp_region_lit (st_y hf rfl rfl rfl (y_add64 rfl rfl rfl (by omega) (by omega)) fun a hf => st_y hf rfl rfl rfl (y_move rfl rfl) fun a hf => st_end ?_))))
     refine x_then_n ?_
     obtain rfl := Option.some.inj hb0_1
     exact ⟨_, rfl, hf.sub ⟨rfl, rfl, rfl, rfl, rfl, trivial⟩, hm.pick [1] (by decide) rfl⟩
   ·
    clear hf hm
    rintro i0_1 xs0_1 a w ⟨hf, hm⟩ hi0_1 hi0_2 rfl
    replace hq := sum_l hq
    refine wp_seq (wp_region_lit (st_y hf rfl rfl rfl (y_lss rfl rfl rfl) fun a hf => st_end (x_then_n (wp_seq (cond_f hf rfl (decide_eq_false (by omega)) (wp_exit (x_then_exit ?_)))))))
    refine x_then_exit (x_blk_hit (x_then_n (wp_seq (wp_region_lit (st_y hf rfl rfl rfl (y_move rfl rfl) fun a hf => st_y hf rfl rfl rfl (y_leq rfl rfl rfl) fun a hf => st_y hf rfl rfl rfl (y_assign rfl rfl) fun a hf => st_end ?_)))))
    refine x_then_n (wp_ret ?_)
    obtain rfl := Option.some.inj hq
    refine ret_tmp hf Tryz.results42 rfl ?_
    exact ⟨rfl, hm.below⟩

theorem impl_mainParams_ok (w0 : World) (u : Unit_) (v1 : Value) (h1 : GT.rep (hp w0) [v1] u.codes) (r : Int) (hq : impl_mainParams u = some r) :
    Con Tryz.prog 44 [(.agg #[v1])] w0 (fun v w' => v = (.int .i64 (r)) ∧ Below w0.heap.size w0 w') := by
  unfold impl_mainParams at hq
  refine con_body (l := [(0, (.agg #[v1]))]) Tryz.func44 rfl Tryz.ntmps44 (Args.get ⟨rfl, trivial⟩) rfl ?_
  intro a hf
  have hm := Mem.start w0
  refine wp_seq (wp_region_lit (st_ef hf rfl rfl rfl (e_box hf hm rfl rfl rfl) ?_))
  clear hf a; rintro _ w0_1 a ⟨b0_1, rfl, hm⟩ hf
  refine st_y hf rfl rfl rfl (y_assign rfl rfl) fun a hf => st_end (x_then_n (wp_seq (wp_region_lit (st_y hf rfl rfl rfl (y_fieldAddr fo_30_0 rfl rfl) fun a hf => st_y hf rfl rfl rfl (y_load1 Tryz.isAgg28 rfl rfl (hm.blk_cell 0 rfl rfl)) fun a hf => st_y hf rfl rfl rfl (y_fieldAddr fo_30_0 rfl rfl) fun a hf => st_y hf rfl rfl rfl (y_load1 Tryz.isAgg28 rfl rfl (hm.blk_cell 0 rfl rfl)) fun a hf => ?_))))
  obtain ⟨p0_1, c0_1, he, hl0_1⟩ := ro_slice h1
  subst he
  refine st_y hf rfl rfl rfl (y_len_slice st_28.und rfl rfl) fun a hf => st_y hf rfl rfl rfl (y_sub64 rfl rfl rfl (by omega) (by omega)) fun a hf => ?_
  obtain ⟨x0_1, hx0_1, hq⟩ := bnd hq
  obtain ⟨h0_1, hx0_2⟩ := getI_some.1 hx0_1
  obtain ⟨b0_2, o0_1, c0_2, he⟩ := idx_form' h1 hx0_2
  simp only [Value.slice.injEq, Option.some.injEq] at he; obtain ⟨rfl, _, rfl⟩ := he
  obtain ⟨_, _, hc0_1, hr0_1⟩ := ro_get' h1 hx0_2
  obtain ⟨_, _, rfl, rfl, _, _, rfl, rfl, h0_2⟩ := hr0_1
  obtain ⟨v0_1, rfl, -⟩ := id h0_2
  replace h0_2 : GT.rep (hp w0) [v0_1] x0_1.blocks := h0_2
  replace hc0_1 : CellsAt (hp w0) b0_2 (o0_1 + (((u.codes.length : Int)) - 1).toNat * 3) [(.int .i64 (x0_1.params)), (.int .i64 (x0_1.regs)), v0_1] := hc0_1
  refine st_y hf rfl rfl rfl (y_indexAddr st_28 rfl rfl rfl h0_1 (idx_lt hx0_2)) fun a hf => st_y hf rfl rfl rfl (y_fieldAddr fo_69_0 rfl rfl) fun a hf => st_y hf rfl rfl rfl (y_load1 Tryz.isAgg3 rfl rfl ((hc0_1.mono hm.lez).cell (j := 0) rfl)) fun a hf => st_y hf rfl rfl rfl (y_assign rfl rfl) fun a hf => st_end (x_then_n (wp_ret ?_))
  obtain rfl := Option.some.inj hq
  refine ret_tmp hf Tryz.results44 rfl ?_
  exact ⟨rfl, hm.below⟩

theorem impl_bytesOk_1_ok (w0 : World) (v_ : Int) (r : Bool) (hq : impl_bytesOk_1 v_ = some r) :
    Con Tryz.prog 61 [(.int .i64 (v_))] w0 (fun v w' => v = (.bool (r)) ∧ Below w0.heap.size w0 w') := by
  unfold impl_bytesOk_1 at hq
  refine con_body (l := [(0, (.int .i64 (v_)))]) Tryz.func61 rfl Tryz.ntmps61 (Args.get ⟨rfl, trivial⟩) rfl ?_
  intro a hf
  have hm := Mem.start w0
  refine wp_seq (wp_region_lit (st_y hf rfl rfl rfl (y_assign rfl rfl) fun a hf => st_end (x_then_n (wp_seq (wp_region_lit (st_y hf rfl rfl rfl (y_move rfl rfl) fun a hf => ?_))))))
  obtain ⟨r0_1, hx0_1, hq⟩ := bnd hq
  refine st_ef hf rfl rfl rfl (e_call hf rfl Tryz.call62 rfl (impl_isByte_ok _ v_ _ hx0_1)) ?_
  clear hf a; rintro v0_1 w0_1 a ho0_1 hf
  obtain ⟨rfl, hB⟩ := ho0_1
  replace hm := hm.below' hB; clear hB
  refine st_y hf rfl rfl rfl (y_not rfl rfl) fun a hf => st_y hf rfl rfl rfl (y_assign rfl rfl) fun a hf => st_end (x_then_n (wp_ret ?_))
  obtain rfl := Option.some.inj hq
  refine ret_tmp hf Tryz.results61 rfl ?_
  exact ⟨rfl, hm.below⟩

theorem impl_bytesOk_ok (w0 : World) (in_ : List Int) (v1 : Value) (h1 : GT.rep (hp w0) [v1] in_) (n_ : Int) (r : Bool) (hq : impl_bytesOk in_ n_ = some r) :
    Con Tryz.prog 43 [v1, (.int .i64 (n_))] w0 (fun v w' => v = (.bool (r)) ∧ Below w0.heap.size w0 w') := by
  unfold impl_bytesOk at hq
  refine con_body (l := [(0, v1), (1, (.int .i64 (n_)))]) Tryz.func43 rfl Tryz.ntmps43 (Args.get ⟨rfl, rfl, trivial⟩) rfl ?_
  intro a hf
  have hm := Mem.start w0
  refine wp_seq (wp_region_lit (st_y hf rfl rfl rfl (y_assign rfl rfl) fun a hf => st_end (x_then_n (wp_seq ?_))))
  obtain ⟨s0_1, hq0_1, hq⟩ := bnd hq
  refine code_cut (K := fun a w => Fr 14 [(4, (.bool (s0_1)))] a ∧ Mem w0 (hp w0) w []) ?_ ?_
  ·
   refine wp_region_lit (st_y hf rfl rfl rfl (y_move rfl rfl) fun a hf => ?_)
   obtain ⟨p1_1, c1_1, he, hl1_1⟩ := ro_slice h1
   subst he
   refine st_y hf rfl rfl rfl (y_len_slice st_25.und rfl rfl) fun a hf => st_y hf rfl rfl rfl (y_move rfl rfl) fun a hf => st_y hf rfl rfl rfl (y_eql rfl rfl rfl) fun a hf => st_y hf rfl rfl rfl (y_move rfl rfl) fun a hf => ?_
   rcases bcases (decide (((in_.length : Int)) = n_)) with h1_1 | h1_1
   ·
    replace hq0_1 := (ite_t h1_1).symm.trans hq0_1
    have h1_2 := of_decide_eq_true h1_1
    refine st_yg hf rfl rfl (lk_b rfl h1_1) rfl rfl (y_move rfl rfl) fun a hf => ?_
    obtain ⟨r1_1, hx1_1, hq0_1⟩ := bnd hq0_1
    refine st_efg hf rfl rfl (lk_b rfl h1_1) rfl rfl (e_call hf rfl Tryz.call60 rfl (slices_ContainsFunc_S_int_int_ok _ in_ (.slice p1_1 in_.length c1_1) (hm.now h1) (fun y0 => impl_bytesOk_1 y0) (.func (.func 61) #[] #[]) (fun w y0 r hB hq => ⟨61, [], rfl, Tryz.call61, impl_bytesOk_1_ok w y0  r hq⟩) _ hx1_1)) ?_
    clear hf a; rintro v1_1 w1_1 a ho1_1 hf
    obtain ⟨rfl, hB⟩ := ho1_1
    replace hm := hm.below' hB; clear hB
    refine st_yg hf rfl rfl (lk_b rfl h1_1) rfl rfl (y_not rfl rfl) fun a hf => st_y hf rfl rfl rfl (y_pick_t rfl (ev_b rfl h1_1) rfl) fun a hf => st_y hf rfl rfl rfl (y_assign rfl rfl) fun a hf => st_end (x_then_n ?_)
    obtain rfl := Option.some.inj hq0_1
    exact ⟨hf.sub ⟨rfl, trivial⟩, hm.pick [] (by decide) rfl⟩
   ·
    replace hq0_1 := (ite_f h1_1).symm.trans hq0_1
    have h1_3 := of_decide_eq_false h1_1
    refine st_no hf rfl rfl (lk_b rfl h1_1) rfl rfl rfl fun a hf => st_no hf rfl rfl (lk_b rfl h1_1) rfl rfl rfl fun a hf => st_no hf rfl rfl (lk_b rfl h1_1) rfl rfl rfl fun a hf => st_y hf rfl rfl rfl (y_pick_f rfl (ev_b rfl h1_1) rfl) fun a hf => st_y hf rfl rfl rfl (y_assign rfl rfl) fun a hf => st_end (x_then_n ?_)
    obtain rfl := Option.some.inj hq0_1
    exact ⟨hf.sub ⟨rfl, trivial⟩, hm.pick [] (by decide) rfl⟩
  ·
   clear hf hm
   rintro a w ⟨hf, hm⟩
   refine x_then_n (wp_ret ?_)
   obtain rfl := Option.some.inj hq
   refine ret_tmp hf Tryz.results43 rfl ?_
   exact ⟨rfl, hm.below⟩

theorem impl_unitRuns_ok (w0 : World) (u : Unit_) (v1 : Value) (h1 : GT.rep (hp w0) [v1] u.codes) (in_ : List Int) (v2 : Value) (h2 : GT.rep (hp w0) [v2] in_) (steps : Int) (r : Bool) (hq : impl_unitRuns u in_ steps = some r) :
    Con Tryz.prog 31 [(.agg #[v1]), v2, (.int .i64 (steps))] w0 (fun v w' => v = (.bool (r)) ∧ Below w0.heap.size w0 w') := by
  unfold impl_unitRuns at hq
  refine con_body (l := [(0, (.agg #[v1])), (1, v2), (2, (.int .i64 (steps)))]) Tryz.func31 rfl Tryz.ntmps31 (Args.get ⟨rfl, rfl, rfl, trivial⟩) rfl ?_
  intro a hf
  have hm := Mem.start w0
  refine wp_seq (wp_region_lit (st_ef hf rfl rfl rfl (e_box hf hm rfl rfl rfl) ?_))
  clear hf a; rintro _ w0_1 a ⟨b0_1, rfl, hm⟩ hf
  refine st_y hf rfl rfl rfl (y_assign rfl rfl) fun a hf => st_end (x_then_n (wp_seq ?_))
  obtain ⟨s0_1, hq0_1, hq⟩ := bnd hq
  refine code_cut (K := fun a w => Fr 19 [(6, (.bool (s0_1)))] a ∧ Mem w0 (hp w0) w []) ?_ ?_
  ·
   refine wp_region_lit (st_y hf rfl rfl rfl (y_loadN (cs := [v1]) Tryz.isAgg30 Tryz.sizeOf30 rfl rfl (hm.blk_at 0 rfl)) fun a hf => ?_)
   obtain ⟨r1_1, hx1_1, hq0_1⟩ := bnd hq0_1
   refine st_ef hf rfl rfl rfl (e_call hf rfl Tryz.call42 rfl (impl_UnitValid_ok _ u v1 (hm.now h1) _ hx1_1)) ?_
   clear hf a; rintro v1_1 w1_1 a ho1_1 hf
   obtain ⟨rfl, hB⟩ := ho1_1
   replace hm := hm.below' hB; clear hB
   refine st_y hf rfl rfl rfl (y_move rfl rfl) fun a hf => ?_
   rcases bcases (r1_1) with h1_1 | h1_1
   ·
    replace hq0_1 := (ite_t h1_1).symm.trans hq0_1
    refine st_yg hf rfl rfl (lk_b rfl h1_1) rfl rfl (y_move rfl rfl) fun a hf => st_yg hf rfl rfl (lk_b rfl h1_1) rfl rfl (y_loadN (cs := [v1]) Tryz.isAgg30 Tryz.sizeOf30 rfl rfl (hm.blk_at 0 rfl)) fun a hf => ?_
    obtain ⟨r1_2, hx1_2, hq0_1⟩ := bnd hq0_1
    refine st_efg hf rfl rfl (lk_b rfl h1_1) rfl rfl (e_call hf rfl Tryz.call44 rfl (impl_mainParams_ok _ u v1 (hm.now h1) _ hx1_2)) ?_
    clear hf a; rintro v1_2 w1_2 a ho1_2 hf
    obtain ⟨rfl, hB⟩ := ho1_2
    replace hm := hm.below' hB; clear hB
    obtain ⟨r1_3, hx1_3, hq0_1⟩ := bnd hq0_1
    refine st_efg hf rfl rfl (lk_b rfl h1_1) rfl rfl (e_call hf rfl Tryz.call43 rfl (impl_bytesOk_ok _ in_ v2 (hm.now h2) r1_2 _ hx1_3)) ?_
    clear hf a; rintro v1_3 w1_3 a ho1_3 hf
    obtain ⟨rfl, hB⟩ := ho1_3
    replace hm := hm.below' hB; clear hB
    refine st_y hf rfl rfl rfl (y_pick_t rfl (ev_b rfl h1_1) rfl) fun a hf => st_y hf rfl rfl rfl (y_move rfl rfl) fun a hf => ?_
    rcases bcases (r1_3) with h1_2 | h1_2
    ·
     replace hq0_1 := (ite_t h1_2).symm.trans hq0_1
     refine st_yg hf rfl rfl (lk_b rfl h1_2) rfl rfl (y_move rfl rfl) fun a hf => ?_
     obtain ⟨r1_4, hx1_4, hq0_1⟩ := bnd hq0_1
     refine st_efg hf rfl rfl (lk_b rfl h1_2) rfl rfl (e_call hf rfl Tryz.call45 rfl (impl_within_ok _ steps 0 60000 _ hx1_4)) ?_
     clear hf a; rintro v1_4 w1_4 a ho1_4 hf
     obtain ⟨rfl, hB⟩ := ho1_4
     replace hm := hm.below' hB; clear hB
     refine st_y hf rfl rfl rfl (y_pick_t rfl (ev_b rfl h1_2) rfl) fun a hf => st_y hf rfl rfl rfl (y_assign rfl rfl) fun a hf => st_end (x_then_n ?_)
     obtain rfl := Option.some.inj hq0_1
     exact ⟨hf.sub ⟨rfl, trivial⟩, hm.pick [] (by decide) rfl⟩
    ·
     replace hq0_1 := (ite_f h1_2).symm.trans hq0_1
     refine st_no hf rfl rfl (lk_b rfl h1_2) rfl rfl rfl fun a hf => st_no hf rfl rfl (lk_b rfl h1_2) rfl rfl rfl fun a hf => st_y hf rfl rfl rfl (y_pick_f rfl (ev_b rfl h1_2) rfl) fun a hf => st_y hf rfl rfl rfl (y_assign rfl rfl) fun a hf => st_end (x_then_n ?_)
     obtain rfl := Option.some.inj hq0_1
     exact ⟨hf.sub ⟨rfl, trivial⟩, hm.pick [] (by decide) rfl⟩
   ·
    replace hq0_1 := (ite_f h1_1).symm.trans hq0_1
    refine st_no hf rfl rfl (lk_b rfl h1_1) rfl rfl rfl fun a hf => st_no hf rfl rfl (lk_b rfl h1_1) rfl rfl rfl fun a hf => st_no hf rfl rfl (lk_b rfl h1_1) rfl rfl rfl fun a hf => st_no hf rfl rfl (lk_b rfl h1_1) rfl rfl rfl fun a hf => st_y hf rfl rfl rfl (y_pick_f rfl (ev_b rfl h1_1) rfl) fun a hf => st_y hf rfl rfl rfl (y_move rfl rfl) fun a hf => st_no hf rfl rfl (lk_b rfl rfl) rfl rfl rfl fun a hf => st_no hf rfl rfl (lk_b rfl rfl) rfl rfl rfl fun a hf => st_y hf rfl rfl rfl (y_pick_f rfl (ev_b rfl rfl) rfl) fun a hf => ?_
    refine st_y hf rfl rfl rfl (y_assign rfl rfl) fun a hf => st_end (x_then_n ?_)
    obtain rfl := Option.some.inj hq0_1
    exact ⟨hf.sub ⟨rfl, trivial⟩, hm.pick [] (by decide) rfl⟩
  ·
   clear hf hm
   rintro a w ⟨hf, hm⟩
   refine x_then_n (wp_ret ?_)
   obtain rfl := Option.some.inj hq
   refine ret_tmp hf Tryz.results31 rfl ?_
   exact ⟨rfl, hm.below⟩

theorem pimpl_running__code_1_ok (w0 : World) (f : Phi_) (v1 : Value) (h1 : GT.rep (hp w0) [v1] f.args) (c0_ : List Int) (v2 : Value) (h2 : GT.rep (hp w0) [v2] c0_) (bf0 : Nat) (hbf0 : w0.heap[bf0]? = some (.cells ([v2] : List Value).toArray 25 (0, 0))) (c1_ : Int) (bf1 : Nat) (hbf1 : w0.heap[bf1]? = some (.cells ([(.int .i64 (c1_))] : List Value).toArray 3 (0, 0))) (r : Int) (hq : pimpl_running__code_1 f c0_ c1_ = some r) :
    Con Tryz.prog 67 [(.agg #[(.int .i64 (f.to)), v1]), (.pointer (some ⟨bf0, 0, none⟩)), (.pointer (some ⟨bf1, 0, none⟩))] w0 (fun v w' => v = (.int .i64 (r)) ∧ Below w0.heap.size w0 w') := by
  unfold pimpl_running__code_1 at hq
  refine con_body (l := [(0, (.agg #[(.int .i64 (f.to)), v1])), (1, (.pointer (some ⟨bf0, 0, none⟩))), (2, (.pointer (some ⟨bf1, 0, none⟩)))]) Tryz.func67 rfl Tryz.ntmps67 (Args.get ⟨rfl, rfl, rfl, trivial⟩) rfl ?_
  intro a hf
  have hm := Mem.start w0
  refine wp_seq (wp_region_lit (st_ef hf rfl rfl rfl (e_box hf hm rfl rfl rfl) ?_))
  clear hf a; rintro _ w0_1 a ⟨b0_1, rfl, hm⟩ hf
  refine st_y hf rfl rfl rfl (y_assign rfl rfl) fun a hf => st_end (x_then_n (wp_seq (wp_tree (.p 1 (.q 0 (.q 2 (.e 3 (.p 4 (.e 5 (.p 6 (.e 7 (.p 8 .fin) .nil)) .nil)) .nil)))) [0, 2, 3, 5] [1, 4, 6, 8] (fun w => Mem w0 (hp w0) w [blk b0_1 [(.int .i64 (f.to)), v1] 102]) (by kernel_rfl) (by kernel_rfl) (fun _ _ _ h => h.2) ?_)))
  replace hm := hm.drew
  have hS : Mem w0 (hp w0) _ [blk b0_1 [(.int .i64 (f.to)), v1] 102] := hm.pick [0] (by decide) rfl
  refine td_p hf rfl rfl rfl rfl (fun w => y_fieldAddr fo_102_1 rfl rfl) fun a hf => td_y hf rfl rfl rfl rfl hS (fun w hm => y_load1 Tryz.isAgg25 rfl rfl (hm.old_cell hbf0 rfl)) fun a hf => td_y hf rfl rfl rfl rfl hS (fun w hm => y_load1 Tryz.isAgg25 rfl rfl (hm.blk_cell 0 rfl rfl)) fun a hf => te_one (td_ef hf rfl rfl rfl rfl (ef_y hf (y_load1 Tryz.isAgg3 rfl rfl (hm.old_cell hbf1 rfl))) ?_)
  clear hf a; rintro _ _ a ⟨rfl, rfl⟩ hf
  refine ⟨fun _ => hS, ?_⟩
  obtain ⟨x0_1, hx0_1, hq⟩ := bnd hq
  obtain ⟨h0_1, hx0_2⟩ := getI_some.1 hx0_1
  obtain ⟨b0_2, o0_1, c0_1, he⟩ := idx_form h1 hx0_2
  subst he
  refine td_p hf rfl rfl rfl rfl (fun w => y_indexAddr st_25 rfl rfl rfl h0_1 (idx_lt hx0_2)) fun a hf => te_one (td_ef hf rfl rfl rfl rfl (ef_y hf (y_load1 Tryz.isAgg3 rfl rfl ((flat_cells (cs := [(.int .i64 (x0_1))]) (hm.now h1) hx0_2 rfl).cell (j := 0) rfl))) ?_)
  clear hf a; rintro _ _ a ⟨rfl, rfl⟩ hf
  refine ⟨fun _ => hS, ?_⟩
  obtain ⟨x0_2, hx0_3, hq⟩ := bnd hq
  obtain ⟨h0_2, hx0_4⟩ := getI_some.1 hx0_3
  obtain ⟨b0_3, o0_2, c0_2, he⟩ := idx_form h2 hx0_4
  subst he
  refine td_p hf rfl rfl rfl rfl (fun w => y_indexAddr st_25 rfl rfl rfl h0_2 (idx_lt hx0_4)) fun a hf => te_one (td_ef hf rfl rfl rfl rfl (ef_y hf (y_load1 Tryz.isAgg3 rfl rfl ((flat_cells (cs := [(.int .i64 (x0_2))]) (hm.now h2) hx0_4 rfl).cell (j := 0) rfl))) ?_)
  clear hf a; rintro _ _ a ⟨rfl, rfl⟩ hf
  refine ⟨fun h => absurd h (by decide), ?_⟩
  refine td_p hf rfl rfl rfl rfl (fun w => y_assign rfl rfl) fun a hf => ?_
  clear hS; refine td_end ?_
  refine x_then_n (wp_ret ?_)
  obtain rfl := Option.some.inj hq
  refine ret_tmp hf Tryz.results67 rfl ?_
  exact ⟨rfl, hm.below⟩

theorem impl_mapped_impl_Phi_int_ok (w0 : World) (list : List Phi_) (v1 : Value) (h1 : GT.rep (hp w0) [v1] list) (f : Phi_ → Option Int) (fv1 : Value) (hfn1 : ∀ (w : World) (y0 : Phi_) (z1 : Value) (_ : GT.rep (hp w) [z1] y0.args) (r : Int), Below w0.heap.size w0 w → f y0 = some r → FnOk Tryz.prog fv1 [(.agg #[(.int .i64 (y0.to)), z1])] w (fun v w' => v = (.int .i64 (r)) ∧ Below w.heap.size w w')) (r : (List Int)) (hq : impl_mapped_impl_Phi_int list f = some r) :
    Con Tryz.prog 66 [v1, fv1] w0 (fun v w' => ∃ (x1 : Value), v = x1 ∧ Mem w0 (hp w0) w' [ow [x1] r]) := by
  unfold impl_mapped_impl_Phi_int at hq
  refine con_body (l := [(0, v1), (1, fv1)]) Tryz.func66 rfl Tryz.ntmps66 (Args.get ⟨rfl, rfl, trivial⟩) rfl ?_
  intro a hf
  have hm := Mem.start w0
  refine wp_seq (wp_region_lit (st_y hf rfl rfl rfl (y_assign rfl rfl) fun a hf => st_end (x_then_n (wp_seq (wp_region_lit (st_y hf rfl rfl rfl (y_assign rfl rfl) fun a hf => st_end ?_))))))
  refine x_then_n (wp_seq (wp_seq (wp_region_lit (st_y hf rfl rfl rfl (y_move rfl rfl) fun a hf => ?_))))
  obtain ⟨p0_1, c0_1, he, hl0_1⟩ := ro_slice h1
  subst he
  refine st_y hf rfl rfl rfl (y_len_slice st_83.und rfl rfl) fun a hf => st_y hf rfl rfl rfl (y_move rfl rfl) fun a hf => st_end (x_then_n (wp_block ?_))
  obtain ⟨r0_1, hl0_2, hq⟩ := bnd hq
  refine wp_forN _ (fun i1_1 xs1_1 a w => ∃ (v1_1 : Value), Fr 22 [(1, fv1), (5, v1_1), (8, (.slice p0_1 list.length c0_1)), (9, (.int .i64 ((list.length : Int)))), (10, (.int .i64 (i1_1)))] a ∧ Mem w0 (hp w0) w [ow [v1_1] xs1_1]) (0) ((list.length : Int)) hl0_2 ?_ ?_ ?_
  ·
   have hm := hm.nilow (α := Int)
   exact ⟨(.slice none 0 0), hf.sub ⟨rfl, rfl, rfl, rfl, rfl, trivial⟩, hm.pick [0] (by decide) rfl⟩
  ·
   clear hf hm
   rintro i1_1 xs1_1 a w ⟨v1_1, hf, hm⟩ hi1_1 hi1_2 q0_1 hb0_1 ho0_1
   refine wp_seq (wp_region_lit (st_y hf rfl rfl rfl (y_lss rfl rfl rfl) fun a hf => st_end (x_then_n (wp_seq (cond_t hf rfl (decide_eq_true (by omega)) (wp_skip (x_then_n ?_)))))))
   refine wp_seq (wp_block (wp_seq (wp_region_lit ?_)))
   obtain ⟨x1_1, hx1_1, hb0_1⟩ := bnd hb0_1
   obtain ⟨h1_1, hx1_2⟩ := getI_some.1 hx1_1
   obtain ⟨b1_1, o1_1, c1_1, he⟩ := idx_form' h1 hx1_2
   simp only [Value.slice.injEq, Option.some.injEq] at he; obtain ⟨rfl, _, rfl⟩ := he
   obtain ⟨_, _, hc1_1, hr1_1⟩ := ro_get' h1 hx1_2
   obtain ⟨_, _, rfl, rfl, h1_2⟩ := hr1_1
   obtain ⟨v1_2, rfl, -⟩ := id h1_2
   replace h1_2 : GT.rep (hp w0) [v1_2] x1_1.args := h1_2
   replace hc1_1 : CellsAt (hp w0) b1_1 (o1_1 + (i1_1).toNat * 2) [(.int .i64 (x1_1.to)), v1_2] := hc1_1
   refine st_y hf rfl rfl rfl (y_indexAddr st_83 rfl rfl rfl h1_1 (idx_lt hx1_2)) fun a hf => st_y hf rfl rfl rfl (y_loadN (cs := [(.int .i64 (x1_1.to)), v1_2]) Tryz.isAgg102 Tryz.sizeOf102 rfl rfl (hc1_1.mono hm.lez)) fun a hf => st_ef hf rfl rfl rfl (e_alloc hm Tryz.zeroValue102 rfl rfl) ?_
   clear hf a; rintro _ w1_1 a ⟨b1_2, rfl, hm⟩ hf
   refine st_ef0 hf rfl rfl (e_storeN 0 hf hm rfl Tryz.sizeOf102 rfl rfl rfl (one_cons rfl (one_cons (rep_one h1_2) one_nil)) rfl rfl) ?_
   clear hf a; rintro _ w1_2 a hm hf
   refine st_end (x_then_n (wp_region_lit (st_y hf rfl rfl rfl (y_move rfl rfl) fun a hf => st_y hf rfl rfl rfl (y_move rfl rfl) fun a hf => st_y hf rfl rfl rfl (y_loadN (cs := [(.int .i64 (x1_1.to)), v1_2]) Tryz.isAgg102 Tryz.sizeOf102 rfl rfl (hm.blk_at 0 rfl)) fun a hf => ?_)))
   obtain ⟨r1_1, hx1_3, hb0_1⟩ := bnd hb0_1
   refine st_ef hf rfl rfl rfl (e_callv hf rfl rfl rfl (hfn1 _ x1_1 v1_2 (hm.now h1_2) _ hm.below hx1_3)) ?_
   clear hf a; rintro v1_3 w1_3 a ho1_1 hf
   obtain ⟨rfl, hB⟩ := ho1_1
   replace hm := hm.below' hB; clear hB
   refine st_ef hf rfl rfl rfl (e_build (vs := #[(0, (.int .i64 (r1_1)))]) (cs := [(.int .i64 (r1_1))]) et_25 hf hm rfl rfl (by kernel_rfl) rfl rfl) ?_
   clear hf a; rintro _ w1_4 a ⟨b1_3, rfl, hm⟩ hf
   replace hm := hm.lit (xs := ([r1_1] : List Int)) 0 rfl rfl rfl rfl
   obtain ⟨ys1_1, hx1_4, hb0_1⟩ := bnd hb0_1
   obtain ⟨h1_3, h1_3e⟩ := appM_some.1 hx1_4
   refine st_ef hf rfl rfl rfl (e_append 2 et_25 hf hm rfl (hm.ow_rep 0 rfl) rfl rfl rfl h1_3) ?_
   clear hf a; rintro v1_4 w1_5 a hm hf
   rw [h1_3e] at hm
   refine st_y hf rfl rfl rfl (y_assign rfl rfl) fun a hf => st_end (x_blk_n (x_then_n (wp_region_lit (st_y hf rfl rfl rfl (y_add64 rfl rfl rfl (by omega) (by omega)) fun a hf => st_y hf rfl rfl rfl (y_move rfl rfl) fun a hf => st_end (x_then_n ?_)))))
   obtain rfl := Option.some.inj hb0_1
   exact ⟨_, rfl, v1_4, hf.sub ⟨rfl, rfl, rfl, rfl, rfl, trivial⟩, hm.pick [2] (by decide) rfl⟩
  ·
   clear hf hm
   rintro i0_1 xs0_1 a w ⟨v0_1, hf, hm⟩ hi0_1 hi0_2 rfl
   replace hq := sum_l hq
   refine wp_seq (wp_region_lit (st_y hf rfl rfl rfl (y_lss rfl rfl rfl) fun a hf => st_end (x_then_n (wp_seq (cond_f hf rfl (decide_eq_false (by omega)) (wp_exit (x_then_exit ?_)))))))
   refine x_then_exit (x_blk_hit (x_then_n (wp_seq (wp_region_lit (st_y hf rfl rfl rfl (y_move rfl rfl) fun a hf => st_y hf rfl rfl rfl (y_assign rfl rfl) fun a hf => st_end (x_then_n ?_))))))
   refine wp_ret ?_
   obtain rfl := Option.some.inj hq
   refine ret_tmp hf Tryz.results66 rfl ?_
   exact ⟨v0_1, rfl, hm.pick [0] (by decide) rfl⟩

theorem impl_stop_ok (w0 : World) (end_ : Int) (r : (Unit) ⊕ (Int)) (hq : impl_stop end_ = some r) :
    ConX Tryz.prog 94 [(.int .i64 (end_))] w0 (fun v w' => ∃ q, r = .inl q ∧ (v = (.tuple #[]) ∧ Below w0.heap.size w0 w')) (fun c w' => ∃ q, r = .inr q ∧ (c = pch 97 q ∧ Below w0.heap.size w0 w')) := by
  unfold impl_stop at hq
  refine con_bodyx (l := [(0, (.int .i64 (end_)))]) Tryz.func94 rfl Tryz.ntmps94 (Args.get ⟨rfl, trivial⟩) rfl ?_
  intro a hf
  have hm := Mem.start w0
  refine wp_region_lit (st_y hf rfl rfl rfl (y_move rfl rfl) fun a hf => st_y hf rfl rfl rfl (y_makeIface Tryz.underlying97 rfl rfl) fun a hf => st_efx0 hf rfl rfl (e_panic hf rfl rfl) ?_ (fun _ _ _ h => h.elim))
  rintro c w ⟨rfl, rfl⟩
  obtain rfl := Option.some.inj hq
  refine And.intro hf.defers (rx_intro ?_)
  exact ⟨_, rfl, rfl, hm.below⟩

theorem pimpl_running__tick_ok (w0 : World) (hz : Heap) (m : running) (bp0 : Nat) (v1p : Value) (h1p : GT.rep hz [v1p] m.u.codes) (v2p : Value) (v3p : Value) (hm0 : Mem w0 hz w0 [blk bp0 [v1p, (.int .i64 (m.steps)), (.int .i64 (m.used)), v2p, (.int .i64 ((m.cells.getD 0 0))), (.int .i64 ((m.cells.getD 1 0))), (.int .i64 ((m.cells.getD 2 0))), (.int .i64 ((m.cells.getD 3 0))), (.int .i64 ((m.cells.getD 4 0))), (.int .i64 ((m.cells.getD 5 0))), (.int .i64 ((m.cells.getD 6 0))), (.int .i64 ((m.cells.getD 7 0))), (.int .i64 ((m.cells.getD 8 0))), (.int .i64 ((m.cells.getD 9 0))), (.int .i64 ((m.cells.getD 10 0))), (.int .i64 ((m.cells.getD 11 0))), (.int .i64 ((m.cells.getD 12 0))), (.int .i64 ((m.cells.getD 13 0))), (.int .i64 ((m.cells.getD 14 0))), (.int .i64 ((m.cells.getD 15 0))), v3p] 61, ow [v2p] m.said, ow [v3p] m.trace]) (r : (running) ⊕ (Int × running)) (hq : pimpl_running__tick m = some r) :
    ConX Tryz.prog 69 [(.pointer (some ⟨bp0, 0, none⟩))] w0 (fun v w' => ∃ q, r = .inl q ∧ (∃ (x2 : Value) (x3 : Value), v = (.tuple #[]) ∧ Mem w0 hz w' [blk bp0 [v1p, (.int .i64 (q.steps)), (.int .i64 (q.used)), x2, (.int .i64 ((q.cells.getD 0 0))), (.int .i64 ((q.cells.getD 1 0))), (.int .i64 ((q.cells.getD 2 0))), (.int .i64 ((q.cells.getD 3 0))), (.int .i64 ((q.cells.getD 4 0))), (.int .i64 ((q.cells.getD 5 0))), (.int .i64 ((q.cells.getD 6 0))), (.int .i64 ((q.cells.getD 7 0))), (.int .i64 ((q.cells.getD 8 0))), (.int .i64 ((q.cells.getD 9 0))), (.int .i64 ((q.cells.getD 10 0))), (.int .i64 ((q.cells.getD 11 0))), (.int .i64 ((q.cells.getD 12 0))), (.int .i64 ((q.cells.getD 13 0))), (.int .i64 ((q.cells.getD 14 0))), (.int .i64 ((q.cells.getD 15 0))), x3] 61, ow [x2] q.said, ow [x3] q.trace])) (fun c w' => ∃ q, r = .inr q ∧ (∃ (x2 : Value) (x3 : Value), c = pch 97 q.1 ∧ Mem w0 hz w' [blk bp0 [v1p, (.int .i64 (q.2.steps)), (.int .i64 (q.2.used)), x2, (.int .i64 ((q.2.cells.getD 0 0))), (.int .i64 ((q.2.cells.getD 1 0))), (.int .i64 ((q.2.cells.getD 2 0))), (.int .i64 ((q.2.cells.getD 3 0))), (.int .i64 ((q.2.cells.getD 4 0))), (.int .i64 ((q.2.cells.getD 5 0))), (.int .i64 ((q.2.cells.getD 6 0))), (.int .i64 ((q.2.cells.getD 7 0))), (.int .i64 ((q.2.cells.getD 8 0))), (.int .i64 ((q.2.cells.getD 9 0))), (.int .i64 ((q.2.cells.getD 10 0))), (.int .i64 ((q.2.cells.getD 11 0))), (.int .i64 ((q.2.cells.getD 12 0))), (.int .i64 ((q.2.cells.getD 13 0))), (.int .i64 ((q.2.cells.getD 14 0))), (.int .i64 ((q.2.cells.getD 15 0))), x3] 61, ow [x2] q.2.said, ow [x3] q.2.trace])) := by
  unfold pimpl_running__tick at hq
  refine con_bodyx (l := [(0, (.pointer (some ⟨bp0, 0, none⟩)))]) Tryz.func69 rfl Tryz.ntmps69 (Args.get ⟨rfl, trivial⟩) rfl ?_
  intro a hf
  have hm := hm0
  refine wp_seq (wp_seq (wp_treeX (.p 0 (.p 1 (.p 2 (.p 4 (.p 5 (.p 6 (.q 3 (.e 7 (.p 8 .fin) .nil)))))))) [7] [0, 1, 2, 4, 5, 6, 8] (fun w => Mem w0 hz w [blk bp0 [v1p, (.int .i64 (m.steps)), (.int .i64 (m.used)), v2p, (.int .i64 ((m.cells.getD 0 0))), (.int .i64 ((m.cells.getD 1 0))), (.int .i64 ((m.cells.getD 2 0))), (.int .i64 ((m.cells.getD 3 0))), (.int .i64 ((m.cells.getD 4 0))), (.int .i64 ((m.cells.getD 5 0))), (.int .i64 ((m.cells.getD 6 0))), (.int .i64 ((m.cells.getD 7 0))), (.int .i64 ((m.cells.getD 8 0))), (.int .i64 ((m.cells.getD 9 0))), (.int .i64 ((m.cells.getD 10 0))), (.int .i64 ((m.cells.getD 11 0))), (.int .i64 ((m.cells.getD 12 0))), (.int .i64 ((m.cells.getD 13 0))), (.int .i64 ((m.cells.getD 14 0))), (.int .i64 ((m.cells.getD 15 0))), v3p] 61, ow [v2p] m.said, ow [v3p] m.trace]) (by kernel_rfl) (by kernel_rfl) (fun _ _ _ _ e h => And.intro (e.symm.trans h.1) h.2) ?_))
  replace hm := hm.drew
  have hS : Mem w0 hz _ [blk bp0 [v1p, (.int .i64 (m.steps)), (.int .i64 (m.used)), v2p, (.int .i64 ((m.cells.getD 0 0))), (.int .i64 ((m.cells.getD 1 0))), (.int .i64 ((m.cells.getD 2 0))), (.int .i64 ((m.cells.getD 3 0))), (.int .i64 ((m.cells.getD 4 0))), (.int .i64 ((m.cells.getD 5 0))), (.int .i64 ((m.cells.getD 6 0))), (.int .i64 ((m.cells.getD 7 0))), (.int .i64 ((m.cells.getD 8 0))), (.int .i64 ((m.cells.getD 9 0))), (.int .i64 ((m.cells.getD 10 0))), (.int .i64 ((m.cells.getD 11 0))), (.int .i64 ((m.cells.getD 12 0))), (.int .i64 ((m.cells.getD 13 0))), (.int .i64 ((m.cells.getD 14 0))), (.int .i64 ((m.cells.getD 15 0))), v3p] 61, ow [v2p] m.said, ow [v3p] m.trace] := hm.pick [0, 1, 2] (by decide) rfl
  refine td_p hf rfl rfl rfl rfl (fun w => y_move rfl rfl) fun a hf => td_p hf rfl rfl rfl rfl (fun w => y_nilptr rfl rfl) fun a hf => td_p hf rfl rfl rfl rfl (fun w => y_fieldAddr fo_61_2 rfl rfl) fun a hf => td_p hf rfl rfl rfl rfl (fun w => y_move rfl rfl) fun a hf => td_p hf rfl rfl rfl rfl (fun w => y_nilptr rfl rfl) fun a hf => td_p hf rfl rfl rfl rfl (fun w => y_fieldAddr fo_61_1 rfl rfl) fun a hf => td_y hf rfl rfl rfl rfl hS (fun w hm => y_load1 Tryz.isAgg3 rfl rfl (hm.blk_cell 0 rfl rfl)) fun a hf => te_one (td_ef hf rfl rfl rfl rfl (ef_y hf (y_load1 Tryz.isAgg3 rfl rfl (hm.blk_cell 0 rfl rfl))) ?_)
  clear hf a; rintro _ _ a ⟨rfl, rfl⟩ hf
  refine ⟨fun _ => hS, ?_⟩
  refine td_p hf rfl rfl rfl rfl (fun w => y_eql rfl rfl rfl) fun a hf => ?_
  clear hS; refine td_end ?_
  refine x_then_n ?_
  obtain ⟨c0_1, hq0_1, hq⟩ := bnd hq
  refine code_cut (K := fun a w => ∃ s0_1, c0_1 = .inl s0_1 ∧ Fr 19 [(0, (.pointer (some ⟨bp0, 0, none⟩)))] a ∧ Mem w0 hz w [blk bp0 [v1p, (.int .i64 (m.steps)), (.int .i64 (m.used)), v2p, (.int .i64 ((m.cells.getD 0 0))), (.int .i64 ((m.cells.getD 1 0))), (.int .i64 ((m.cells.getD 2 0))), (.int .i64 ((m.cells.getD 3 0))), (.int .i64 ((m.cells.getD 4 0))), (.int .i64 ((m.cells.getD 5 0))), (.int .i64 ((m.cells.getD 6 0))), (.int .i64 ((m.cells.getD 7 0))), (.int .i64 ((m.cells.getD 8 0))), (.int .i64 ((m.cells.getD 9 0))), (.int .i64 ((m.cells.getD 10 0))), (.int .i64 ((m.cells.getD 11 0))), (.int .i64 ((m.cells.getD 12 0))), (.int .i64 ((m.cells.getD 13 0))), (.int .i64 ((m.cells.getD 14 0))), (.int .i64 ((m.cells.getD 15 0))), v3p] 61, ow [v2p] m.said, ow [v3p] m.trace]) ?_ ?_
  ·
   rcases bcases (decide (m.used = m.steps)) with h1_1 | h1_1
   ·
    replace hq0_1 := (ite_t h1_1).symm.trans hq0_1
    have h1_2 := of_decide_eq_true h1_1
    refine cond_t hf rfl h1_1 (wp_region_lit ?_)
    obtain ⟨r1_1, hx1_1, hq0_1⟩ := bnd hq0_1
    refine st_efx hf rfl rfl rfl (e_callx hf rfl Tryz.call94 rfl (impl_stop_ok _ 3 _ hx1_1)) ?_ ?_
    ·
     rintro c w1_1 ⟨q1_2, rfl, ho1_1⟩
     replace hq0_1 := sum_r hq0_1
     obtain ⟨rfl, hB⟩ := ho1_1
     replace hm := hm.below' hB; clear hB
     obtain rfl := Option.some.inj hq0_1
     replace hq := sum_r hq
     obtain rfl := Option.some.inj hq
     refine And.intro hf.defers (rx_intro ?_)
     exact ⟨_, rfl, v2p, v3p, rfl, hm.pick [0, 1, 2] (by decide) rfl⟩
    clear hf a; rintro v1_1 w1_2 a ⟨q1_1, rfl, ho1_1⟩ hf
    replace hq0_1 := sum_l hq0_1
    obtain ⟨rfl, hB⟩ := ho1_1
    replace hm := hm.below' hB; clear hB
    refine st_end (x_then_n ?_)
    obtain rfl := Option.some.inj hq0_1
    exact ⟨_, rfl, hf.sub ⟨rfl, trivial⟩, hm.pick [0, 1, 2] (by decide) rfl⟩
   ·
    replace hq0_1 := (ite_f h1_1).symm.trans hq0_1
    have h1_3 := of_decide_eq_false h1_1
    refine cond_f hf rfl h1_1 (wp_skip (x_then_n ?_))
    obtain rfl := Option.some.inj hq0_1
    exact ⟨_, rfl, hf.sub ⟨rfl, trivial⟩, hm.pick [0, 1, 2] (by decide) rfl⟩
  ·
   clear hf hm
   rintro a w ⟨s0_1, rfl, hf, hm⟩
   replace hq := sum_l hq
   refine x_then_n (wp_region_lit (st_y hf rfl rfl rfl (y_move rfl rfl) fun a hf => st_y hf rfl rfl rfl (y_nilptr rfl rfl) fun a hf => st_y hf rfl rfl rfl (y_fieldAddr fo_61_2 rfl rfl) fun a hf => st_y hf rfl rfl rfl (y_load1 Tryz.isAgg3 rfl rfl (hm.blk_cell 0 rfl rfl)) fun a hf => st_y hf rfl rfl rfl (y_addw rfl rfl rfl) fun a hf => st_y hf rfl rfl rfl (y_nilptr rfl rfl) fun a hf => st_y hf rfl rfl rfl (y_fieldAddr fo_61_2 rfl rfl) fun a hf => ?_))
   refine st_ef0 hf rfl rfl (e_store1 0 hf hm rfl Tryz.sizeOf3 rfl rfl rfl rfl rfl) ?_
   clear hf a; rintro _ w0_1 a hm hf
   refine st_end ?_
   obtain rfl := Option.some.inj hq
   refine ret_xn (ret_end hf Tryz.results69 ?_)
   exact ⟨_, rfl, ⟨v2p, v3p, rfl, hm.pick [0, 1, 2] (by decide) rfl⟩⟩

theorem pimpl_running__doIns_1_ok (w0 : World) (i_ : Int) (c0_ : List Int) (v1 : Value) (h1 : GT.rep (hp w0) [v1] c0_) (bf0 : Nat) (hbf0 : w0.heap[bf0]? = some (.cells ([v1] : List Value).toArray 25 (0, 0))) (c1_ : Ins_) (v2 : Value) (h2 : GT.rep (hp w0) [v2] c1_.args) (bf1 : Nat) (hbf1 : w0.heap[bf1]? = some (.cells ([(.int .i64 (c1_.op)), (.int .i64 (c1_.to)), v2, (.int .i64 (c1_.n_))] : List Value).toArray 91 (0, 0))) (r : Int) (hq : pimpl_running__doIns_1 i_ c0_ c1_ = some r) :
    Con Tryz.prog 91 [(.int .i64 (i_)), (.pointer (some ⟨bf0, 0, none⟩)), (.pointer (some ⟨bf1, 0, none⟩))] w0 (fun v w' => v = (.int .i64 (r)) ∧ Below w0.heap.size w0 w') := by
  unfold pimpl_running__doIns_1 at hq
  refine con_body (l := [(0, (.int .i64 (i_))), (1, (.pointer (some ⟨bf0, 0, none⟩))), (2, (.pointer (some ⟨bf1, 0, none⟩)))]) Tryz.func91 rfl Tryz.ntmps91 (Args.get ⟨rfl, rfl, rfl, trivial⟩) rfl ?_
  intro a hf
  have hm := Mem.start w0
  refine wp_seq (wp_region_lit (st_y hf rfl rfl rfl (y_assign rfl rfl) fun a hf => st_end (x_then_n (wp_seq (wp_tree (.p 1 (.p 3 (.q 0 (.e 2 (.p 4 (.e 5 (.p 6 (.e 7 (.p 8 .fin) .nil)) .nil)) .nil)))) [2, 5] [1, 3, 4, 6, 8] (fun w => Mem w0 (hp w0) w []) (by kernel_rfl) (by kernel_rfl) (fun _ _ _ h => h.2) ?_)))))
  replace hm := hm.drew
  have hS : Mem w0 (hp w0) _ [] := hm.pick [] (by decide) rfl
  refine td_p hf rfl rfl rfl rfl (fun w => y_fieldAddr fo_91_2 rfl rfl) fun a hf => td_p hf rfl rfl rfl rfl (fun w => y_move rfl rfl) fun a hf => td_y hf rfl rfl rfl rfl hS (fun w hm => y_load1 Tryz.isAgg25 rfl rfl (hm.old_cell hbf0 rfl)) fun a hf => te_one (td_ef hf rfl rfl rfl rfl (ef_y hf (y_load1 Tryz.isAgg25 rfl rfl (hm.old_cell hbf1 rfl))) ?_)
  clear hf a; rintro _ _ a ⟨rfl, rfl⟩ hf
  refine ⟨fun _ => hS, ?_⟩
  obtain ⟨x0_1, hx0_1, hq⟩ := bnd hq
  obtain ⟨h0_1, hx0_2⟩ := getI_some.1 hx0_1
  obtain ⟨b0_1, o0_1, c0_1, he⟩ := idx_form h2 hx0_2
  subst he
  refine td_p hf rfl rfl rfl rfl (fun w => y_indexAddr st_25 rfl rfl rfl h0_1 (idx_lt hx0_2)) fun a hf => te_one (td_ef hf rfl rfl rfl rfl (ef_y hf (y_load1 Tryz.isAgg3 rfl rfl ((flat_cells (cs := [(.int .i64 (x0_1))]) (hm.now h2) hx0_2 rfl).cell (j := 0) rfl))) ?_)
  clear hf a; rintro _ _ a ⟨rfl, rfl⟩ hf
  refine ⟨fun _ => hS, ?_⟩
  obtain ⟨x0_2, hx0_3, hq⟩ := bnd hq
  obtain ⟨h0_2, hx0_4⟩ := getI_some.1 hx0_3
  obtain ⟨b0_2, o0_2, c0_2, he⟩ := idx_form h1 hx0_4
  subst he
  refine td_p hf rfl rfl rfl rfl (fun w => y_indexAddr st_25 rfl rfl rfl h0_2 (idx_lt hx0_4)) fun a hf => te_one (td_ef hf rfl rfl rfl rfl (ef_y hf (y_load1 Tryz.isAgg3 rfl rfl ((flat_cells (cs := [(.int .i64 (x0_2))]) (hm.now h1) hx0_4 rfl).cell (j := 0) rfl))) ?_)
  clear hf a; rintro _ _ a ⟨rfl, rfl⟩ hf
  refine ⟨fun h => absurd h (by decide), ?_⟩
  refine td_p hf rfl rfl rfl rfl (fun w => y_assign rfl rfl) fun a hf => ?_
  clear hS; refine td_end ?_
  refine x_then_n (wp_ret ?_)
  obtain rfl := Option.some.inj hq
  refine ret_tmp hf Tryz.results91 rfl ?_
  exact ⟨rfl, hm.below⟩

theorem pimpl_running__cell_ok (w0 : World) (m : running) (bp0 : Nat) (v1p : Value) (h1p : GT.rep (hp w0) [v1p] m.u.codes) (v2p : Value) (h2p : GT.rep (hp w0) [v2p] m.said) (v3p : Value) (h3p : GT.rep (hp w0) [v3p] m.trace) (hbbp0 : (hp w0) bp0 = some (.cells ([v1p, (.int .i64 (m.steps)), (.int .i64 (m.used)), v2p, (.int .i64 ((m.cells.getD 0 0))), (.int .i64 ((m.cells.getD 1 0))), (.int .i64 ((m.cells.getD 2 0))), (.int .i64 ((m.cells.getD 3 0))), (.int .i64 ((m.cells.getD 4 0))), (.int .i64 ((m.cells.getD 5 0))), (.int .i64 ((m.cells.getD 6 0))), (.int .i64 ((m.cells.getD 7 0))), (.int .i64 ((m.cells.getD 8 0))), (.int .i64 ((m.cells.getD 9 0))), (.int .i64 ((m.cells.getD 10 0))), (.int .i64 ((m.cells.getD 11 0))), (.int .i64 ((m.cells.getD 12 0))), (.int .i64 ((m.cells.getD 13 0))), (.int .i64 ((m.cells.getD 14 0))), (.int .i64 ((m.cells.getD 15 0))), v3p] : List Value).toArray 61 (0, 0))) (n_ : Int) (r : (Int) ⊕ (Int)) (hq : pimpl_running__cell m n_ = some r) :
    ConX Tryz.prog 92 [(.pointer (some ⟨bp0, 0, none⟩)), (.int .i64 (n_))] w0 (fun v w' => ∃ q, r = .inl q ∧ (v = (.pointer (some ⟨bp0, 4 + (q).toNat, none⟩)) ∧ (0 ≤ q ∧ (q).toNat < 16) ∧ Below w0.heap.size w0 w')) (fun c w' => ∃ q, r = .inr q ∧ (c = pch 97 q ∧ Below w0.heap.size w0 w')) := by
  unfold pimpl_running__cell at hq
  refine con_bodyx (l := [(0, (.pointer (some ⟨bp0, 0, none⟩))), (1, (.int .i64 (n_)))]) Tryz.func92 rfl Tryz.ntmps92 (Args.get ⟨rfl, rfl, trivial⟩) rfl ?_
  intro a hf
  have hm := Mem.start w0
  refine wp_seq (wp_region_lit (st_y hf rfl rfl rfl (y_assign rfl rfl) fun a hf => st_end (x_then_n (wp_seq (wp_seq (wp_region_lit (st_y hf rfl rfl rfl (y_move rfl rfl) fun a hf => ?_)))))))
  refine st_y hf rfl rfl rfl (y_geq rfl rfl rfl) fun a hf => st_end (x_then_n ?_)
  obtain ⟨c0_1, hq0_1, hq⟩ := bnd hq
  refine code_cut (K := fun a w => ∃ s0_1, c0_1 = .inl s0_1 ∧ Fr 13 [(0, (.pointer (some ⟨bp0, 0, none⟩))), (1, (.int .i64 (n_)))] a ∧ Mem w0 (hp w0) w []) ?_ ?_
  ·
   rcases bcases (decide (16 ≤ n_)) with h1_1 | h1_1
   ·
    replace hq0_1 := (ite_t h1_1).symm.trans hq0_1
    have h1_2 := of_decide_eq_true h1_1
    refine cond_t hf rfl h1_1 (wp_region_lit ?_)
    obtain ⟨r1_1, hx1_1, hq0_1⟩ := bnd hq0_1
    refine st_efx hf rfl rfl rfl (e_callx hf rfl Tryz.call94 rfl (impl_stop_ok _ 2 _ hx1_1)) ?_ ?_
    ·
     rintro c w1_1 ⟨q1_2, rfl, ho1_1⟩
     replace hq0_1 := sum_r hq0_1
     obtain ⟨rfl, hB⟩ := ho1_1
     replace hm := hm.below' hB; clear hB
     obtain rfl := Option.some.inj hq0_1
     replace hq := sum_r hq
     obtain rfl := Option.some.inj hq
     refine And.intro hf.defers (rx_intro ?_)
     exact ⟨_, rfl, rfl, hm.below⟩
    clear hf a; rintro v1_1 w1_2 a ⟨q1_1, rfl, ho1_1⟩ hf
    replace hq0_1 := sum_l hq0_1
    obtain ⟨rfl, hB⟩ := ho1_1
    replace hm := hm.below' hB; clear hB
    refine st_end (x_then_n ?_)
    obtain rfl := Option.some.inj hq0_1
    exact ⟨_, rfl, hf.sub ⟨rfl, rfl, trivial⟩, hm.pick [] (by decide) rfl⟩
   ·
    replace hq0_1 := (ite_f h1_1).symm.trans hq0_1
    have h1_3 := of_decide_eq_false h1_1
    refine cond_f hf rfl h1_1 (wp_skip (x_then_n ?_))
    obtain rfl := Option.some.inj hq0_1
    exact ⟨_, rfl, hf.sub ⟨rfl, rfl, trivial⟩, hm.pick [] (by decide) rfl⟩
  ·
   clear hf hm
   rintro a w ⟨s0_1, rfl, hf, hm⟩
   replace hq := sum_l hq
   refine x_then_n (wp_seq (wp_region_lit (st_y hf rfl rfl rfl (y_move rfl rfl) fun a hf => st_y hf rfl rfl rfl (y_move rfl rfl) fun a hf => st_y hf rfl rfl rfl (y_nilptr rfl rfl) fun a hf => st_y hf rfl rfl rfl (y_fieldAddr fo_61_4 rfl rfl) fun a hf => ?_)))
   obtain ⟨x0_1, hx0_1, hq⟩ := bnd hq
   obtain ⟨h0_1, h0_2, rfl⟩ := idxA_some.1 hx0_1
   refine st_y hf rfl rfl rfl (y_indexArr1 Tryz.underlying59 Tryz.sizeOf3 rfl rfl rfl h0_1 h0_2) fun a hf => st_y hf rfl rfl rfl (y_assign rfl rfl) fun a hf => st_end (x_then_n (wp_ret ?_))
   obtain rfl := Option.some.inj hq
   refine ret_x (ret_tmp hf Tryz.results92 rfl ?_)
   exact ⟨_, rfl, ⟨rfl, ⟨h0_1, h0_2⟩, hm.below⟩⟩

theorem impl_arith_1_ok (w0 : World) (yes : Bool) (r : Int) (hq : impl_arith_1 yes = some r) :
    Con Tryz.prog 112 [(.bool (yes))] w0 (fun v w' => v = (.int .i64 (r)) ∧ Below w0.heap.size w0 w') := by
  unfold impl_arith_1 at hq
  refine con_body (l := [(0, (.bool (yes)))]) Tryz.func112 rfl Tryz.ntmps112 (Args.get ⟨rfl, trivial⟩) rfl ?_
  intro a hf
  have hm := Mem.start w0
  refine wp_seq (wp_region_lit (st_y hf rfl rfl rfl (y_assign rfl rfl) fun a hf => st_end (x_then_n (wp_seq (wp_seq (wp_region_lit (st_y hf rfl rfl rfl (y_move rfl rfl) fun a hf => ?_)))))))
  refine st_end (x_then_n ?_)
  rcases bcases (yes) with h0_1 | h0_1
  ·
   replace hq := (ite_t h0_1).symm.trans hq
   refine cond_t hf rfl h0_1 (wp_seq (wp_region_lit (st_y hf rfl rfl rfl (y_assign rfl rfl) fun a hf => st_end (x_then_n (wp_ret (x_then_ret ?_))))))
   obtain rfl := Option.some.inj hq
   refine ret_tmp hf Tryz.results112 rfl ?_
   exact ⟨rfl, hm.below⟩
  ·
   replace hq := (ite_f h0_1).symm.trans hq
   refine cond_f hf rfl h0_1 (wp_skip (x_then_n (wp_seq (wp_region_lit (st_y hf rfl rfl rfl (y_assign rfl rfl) fun a hf => st_end (x_then_n (wp_ret ?_)))))))
   obtain rfl := Option.some.inj hq
   refine ret_tmp hf Tryz.results112 rfl ?_
   exact ⟨rfl, hm.below⟩

theorem impl_arith_ok (w0 : World) (op : Int) (a_ : Int) (b_ : Int) (r : Int × Bool) (hq : impl_arith op a_ b_ = some r) :
    Con Tryz.prog 93 [(.int .i64 (op)), (.int .i64 (a_)), (.int .i64 (b_))] w0 (fun v w' => v = (.tuple #[(.int .i64 (r.1)), (.bool (r.2))]) ∧ Below w0.heap.size w0 w') := by
  unfold impl_arith at hq
  refine con_body (l := [(0, (.int .i64 (op))), (1, (.int .i64 (a_))), (2, (.int .i64 (b_)))]) Tryz.func93 rfl Tryz.ntmps93 (Args.get ⟨rfl, rfl, rfl, trivial⟩) rfl ?_
  intro a hf
  have hm := Mem.start w0
  refine wp_seq (wp_region_lit (st_y hf rfl rfl rfl (y_assign rfl rfl) fun a hf => st_y hf rfl rfl rfl (y_assign rfl rfl) fun a hf => st_end (x_then_n (wp_seq (wp_region_lit (st_y hf rfl rfl rfl (y_assign rfl rfl) fun a hf => ?_))))))
  refine st_end (x_then_n (wp_seq (wp_seq (wp_region_lit (st_y hf rfl rfl rfl (y_move rfl rfl) fun a hf => st_end (x_then_n (wp_block ?_)))))))
  refine wp_seq (wp_region_lit (st_y hf rfl rfl rfl (y_eql rfl rfl rfl) fun a hf => st_y hf rfl rfl rfl (y_assign rfl rfl) fun a hf => st_end (x_then_n ?_)))
  rcases bcases (decide (op = 3)) with h0_1 | h0_1
  ·
   replace hq := (ite_t h0_1).symm.trans hq
   have h0_2 := of_decide_eq_true h0_1
   refine cond_t hf rfl h0_1 (wp_seq (wp_region_lit (st_y hf rfl rfl rfl (y_move rfl rfl) fun a hf => st_y hf rfl rfl rfl (y_move rfl rfl) fun a hf => st_y hf rfl rfl rfl (y_addw rfl rfl rfl) fun a hf => st_y hf rfl rfl rfl (y_rem rfl rfl rfl (by decide)) fun a hf => st_y hf rfl rfl rfl (y_assign rfl rfl) fun a hf => st_y hf rfl rfl rfl (y_assign rfl rfl) fun a hf => ?_)))
   refine st_end (x_then_n (wp_ret (x_blk_ret (x_then_ret ?_))))
   obtain rfl := Option.some.inj hq
   refine ret_tmp2 hf Tryz.results93 rfl rfl ?_
   exact ⟨rfl, hm.below⟩
  ·
   replace hq := (ite_f h0_1).symm.trans hq
   have h0_3 := of_decide_eq_false h0_1
   refine cond_f hf rfl h0_1 (wp_seq (wp_region_lit (st_y hf rfl rfl rfl (y_eql rfl rfl rfl) fun a hf => st_y hf rfl rfl rfl (y_assign rfl rfl) fun a hf => st_end (x_then_n ?_))))
   rcases bcases (decide (op = 4)) with h0_4 | h0_4
   ·
    replace hq := (ite_t h0_4).symm.trans hq
    have h0_5 := of_decide_eq_true h0_4
    refine cond_t hf rfl h0_4 (wp_seq (wp_region_lit (st_y hf rfl rfl rfl (y_move rfl rfl) fun a hf => st_y hf rfl rfl rfl (y_move rfl rfl) fun a hf => st_y hf rfl rfl rfl (y_subw rfl rfl rfl) fun a hf => st_y hf rfl rfl rfl (y_addw rfl rfl rfl) fun a hf => st_y hf rfl rfl rfl (y_rem rfl rfl rfl (by decide)) fun a hf => st_y hf rfl rfl rfl (y_assign rfl rfl) fun a hf => ?_)))
    refine st_y hf rfl rfl rfl (y_assign rfl rfl) fun a hf => st_end (x_then_n (wp_ret (x_blk_ret (x_then_ret ?_))))
    obtain rfl := Option.some.inj hq
    refine ret_tmp2 hf Tryz.results93 rfl rfl ?_
    exact ⟨rfl, hm.below⟩
   ·
    replace hq := (ite_f h0_4).symm.trans hq
    have h0_6 := of_decide_eq_false h0_4
    refine cond_f hf rfl h0_4 (wp_seq (wp_region_lit (st_y hf rfl rfl rfl (y_eql rfl rfl rfl) fun a hf => st_y hf rfl rfl rfl (y_assign rfl rfl) fun a hf => st_end (x_then_n ?_))))
    rcases bcases (decide (op = 5)) with h0_7 | h0_7
    ·
     replace hq := (ite_t h0_7).symm.trans hq
     have h0_8 := of_decide_eq_true h0_7
     refine cond_t hf rfl h0_7 (wp_seq (wp_region_lit (st_y hf rfl rfl rfl (y_move rfl rfl) fun a hf => st_y hf rfl rfl rfl (y_move rfl rfl) fun a hf => st_y hf rfl rfl rfl (y_mulw rfl rfl rfl) fun a hf => st_y hf rfl rfl rfl (y_rem rfl rfl rfl (by decide)) fun a hf => st_y hf rfl rfl rfl (y_assign rfl rfl) fun a hf => st_y hf rfl rfl rfl (y_assign rfl rfl) fun a hf => ?_)))
     refine st_end (x_then_n (wp_ret (x_blk_ret (x_then_ret ?_))))
     obtain rfl := Option.some.inj hq
     refine ret_tmp2 hf Tryz.results93 rfl rfl ?_
     exact ⟨rfl, hm.below⟩
    ·
     replace hq := (ite_f h0_7).symm.trans hq
     have h0_9 := of_decide_eq_false h0_7
     refine cond_f hf rfl h0_7 (wp_seq (wp_seq (wp_region_lit (st_y hf rfl rfl rfl (y_eql rfl rfl rfl) fun a hf => st_y hf rfl rfl rfl (y_assign rfl rfl) fun a hf => st_end (x_then_n ?_)))))
     obtain ⟨s0_1, hq0_1, hq⟩ := bnd hq
     refine code_cut (K := fun a w => Fr 70 [(0, (.int .i64 (op))), (1, (.int .i64 (a_))), (2, (.int .i64 (b_))), (8, (.func (.func 112) #[] #[])), (9, (.int .i64 (op))), (29, (.bool (s0_1)))] a ∧ Mem w0 (hp w0) w []) ?_ ?_
     ·
      rcases bcases (decide (op = 6)) with h1_1 | h1_1
      ·
       replace hq0_1 := (ite_t h1_1).symm.trans hq0_1
       have h1_2 := of_decide_eq_true h1_1
       refine cond_t hf rfl h1_1 (wp_skip (x_then_n ?_))
       obtain rfl := Option.some.inj hq0_1
       exact ⟨hf.sub ⟨rfl, rfl, rfl, rfl, rfl, rfl, trivial⟩, hm.pick [] (by decide) rfl⟩
      ·
       replace hq0_1 := (ite_f h1_1).symm.trans hq0_1
       have h1_3 := of_decide_eq_false h1_1
       refine cond_f hf rfl h1_1 (wp_region_lit (st_y hf rfl rfl rfl (y_eql rfl rfl rfl) fun a hf => st_y hf rfl rfl rfl (y_assign rfl rfl) fun a hf => st_end (x_then_n ?_)))
       obtain rfl := Option.some.inj hq0_1
       exact ⟨hf.sub ⟨rfl, rfl, rfl, rfl, rfl, rfl, trivial⟩, hm.pick [] (by decide) rfl⟩
     ·
      clear hf hm
      rintro a w ⟨hf, hm⟩
      refine x_then_n ?_
      rcases bcases (s0_1) with h0_10 | h0_10
      ·
       replace hq := (ite_t h0_10).symm.trans hq
       refine cond_t hf rfl h0_10 (wp_seq (wp_seq (wp_region_lit (st_y hf rfl rfl rfl (y_move rfl rfl) fun a hf => st_y hf rfl rfl rfl (y_eql rfl rfl rfl) fun a hf => st_end (x_then_n ?_)))))
       rcases bcases (decide (b_ = 0)) with h0_11 | h0_11
       ·
        replace hq := (ite_t h0_11).symm.trans hq
        have h0_12 := of_decide_eq_true h0_11
        refine cond_t hf rfl h0_11 (wp_seq (wp_region_lit (st_y hf rfl rfl rfl (y_assign rfl rfl) fun a hf => st_y hf rfl rfl rfl (y_assign rfl rfl) fun a hf => st_end (x_then_n (wp_ret (x_then_ret ?_))))))
        refine x_blk_ret (x_then_ret ?_)
        obtain rfl := Option.some.inj hq
        refine ret_tmp2 hf Tryz.results93 rfl rfl ?_
        exact ⟨rfl, hm.below⟩
       ·
        replace hq := (ite_f h0_11).symm.trans hq
        have h0_13 := of_decide_eq_false h0_11
        refine cond_f hf rfl h0_11 (wp_skip (x_then_n (wp_seq (wp_seq (wp_region_lit (st_y hf rfl rfl rfl (y_move rfl rfl) fun a hf => st_y hf rfl rfl rfl (y_eql rfl rfl rfl) fun a hf => st_end ?_))))))
        refine x_then_n ?_
        rcases bcases (decide (op = 6)) with h0_14 | h0_14
        ·
         replace hq := (ite_t h0_14).symm.trans hq
         have h0_15 := of_decide_eq_true h0_14
         refine cond_t hf rfl h0_14 (wp_seq (wp_region_lit (st_y hf rfl rfl rfl (y_move rfl rfl) fun a hf => st_y hf rfl rfl rfl (y_move rfl rfl) fun a hf => ?_)))
         obtain ⟨q0_1, hx0_1, hq⟩ := bnd hq
         obtain ⟨h0_16, rfl⟩ := quoM_some.1 hx0_1
         refine st_y hf rfl rfl rfl (y_quo rfl rfl rfl h0_16) fun a hf => st_y hf rfl rfl rfl (y_assign rfl rfl) fun a hf => st_y hf rfl rfl rfl (y_assign rfl rfl) fun a hf => st_end (x_then_n (wp_ret (x_then_ret (x_blk_ret (x_then_ret ?_)))))
         obtain rfl := Option.some.inj hq
         refine ret_tmp2 hf Tryz.results93 rfl rfl ?_
         exact ⟨rfl, hm.below⟩
        ·
         replace hq := (ite_f h0_14).symm.trans hq
         have h0_17 := of_decide_eq_false h0_14
         refine cond_f hf rfl h0_14 (wp_skip (x_then_n (wp_seq (wp_region_lit (st_y hf rfl rfl rfl (y_move rfl rfl) fun a hf => st_y hf rfl rfl rfl (y_move rfl rfl) fun a hf => ?_)))))
         obtain ⟨q0_2, hx0_2, hq⟩ := bnd hq
         obtain ⟨h0_18, rfl⟩ := remM_some.1 hx0_2
         refine st_y hf rfl rfl rfl (y_rem rfl rfl rfl h0_18) fun a hf => st_y hf rfl rfl rfl (y_assign rfl rfl) fun a hf => st_y hf rfl rfl rfl (y_assign rfl rfl) fun a hf => st_end (x_then_n (wp_ret (x_blk_ret (x_then_ret ?_))))
         obtain rfl := Option.some.inj hq
         refine ret_tmp2 hf Tryz.results93 rfl rfl ?_
         exact ⟨rfl, hm.below⟩
      ·
       replace hq := (ite_f h0_10).symm.trans hq
       refine cond_f hf rfl h0_10 (wp_seq (wp_region_lit (st_y hf rfl rfl rfl (y_eql rfl rfl rfl) fun a hf => st_y hf rfl rfl rfl (y_assign rfl rfl) fun a hf => st_end (x_then_n ?_))))
       rcases bcases (decide (op = 8)) with h0_19 | h0_19
       ·
        replace hq := (ite_t h0_19).symm.trans hq
        have h0_20 := of_decide_eq_true h0_19
        refine cond_t hf rfl h0_19 (wp_seq (wp_region_lit (st_y hf rfl rfl rfl (y_move rfl rfl) fun a hf => st_y hf rfl rfl rfl (y_move rfl rfl) fun a hf => st_y hf rfl rfl rfl (y_move rfl rfl) fun a hf => st_y hf rfl rfl rfl (y_lss rfl rfl rfl) fun a hf => ?_)))
        obtain ⟨r0_1, hx0_3, hq⟩ := bnd hq
        refine st_ef hf rfl rfl rfl (e_callv hf rfl rfl rfl ⟨112, [], rfl, Tryz.call112, impl_arith_1_ok _ (decide (a_ < b_)) _ hx0_3⟩) ?_
        clear hf a; rintro v0_1 w0_1 a ho0_1 hf
        obtain ⟨rfl, hB⟩ := ho0_1
        replace hm := hm.below' hB; clear hB
        refine st_y hf rfl rfl rfl (y_assign rfl rfl) fun a hf => st_y hf rfl rfl rfl (y_assign rfl rfl) fun a hf => st_end (x_then_n (wp_ret (x_blk_ret (x_then_ret ?_))))
        obtain rfl := Option.some.inj hq
        refine ret_tmp2 hf Tryz.results93 rfl rfl ?_
        exact ⟨rfl, hm.below⟩
       ·
        replace hq := (ite_f h0_19).symm.trans hq
        have h0_21 := of_decide_eq_false h0_19
        refine cond_f hf rfl h0_19 (wp_seq (wp_region_lit (st_y hf rfl rfl rfl (y_eql rfl rfl rfl) fun a hf => st_y hf rfl rfl rfl (y_assign rfl rfl) fun a hf => st_end (x_then_n ?_))))
        rcases bcases (decide (op = 9)) with h0_22 | h0_22
        ·
         replace hq := (ite_t h0_22).symm.trans hq
         have h0_23 := of_decide_eq_true h0_22
         refine cond_t hf rfl h0_22 (wp_seq (wp_region_lit (st_y hf rfl rfl rfl (y_move rfl rfl) fun a hf => st_y hf rfl rfl rfl (y_move rfl rfl) fun a hf => st_y hf rfl rfl rfl (y_move rfl rfl) fun a hf => st_y hf rfl rfl rfl (y_eql rfl rfl rfl) fun a hf => ?_)))
         obtain ⟨r0_2, hx0_4, hq⟩ := bnd hq
         refine st_ef hf rfl rfl rfl (e_callv hf rfl rfl rfl ⟨112, [], rfl, Tryz.call112, impl_arith_1_ok _ (decide (a_ = b_)) _ hx0_4⟩) ?_
         clear hf a; rintro v0_2 w0_2 a ho0_2 hf
         obtain ⟨rfl, hB⟩ := ho0_2
         replace hm := hm.below' hB; clear hB
         refine st_y hf rfl rfl rfl (y_assign rfl rfl) fun a hf => st_y hf rfl rfl rfl (y_assign rfl rfl) fun a hf => st_end (x_then_n (wp_ret (x_blk_ret (x_then_ret ?_))))
         obtain rfl := Option.some.inj hq
         refine ret_tmp2 hf Tryz.results93 rfl rfl ?_
         exact ⟨rfl, hm.below⟩
        ·
         replace hq := (ite_f h0_22).symm.trans hq
         have h0_24 := of_decide_eq_false h0_22
         refine cond_f hf rfl h0_22 (wp_seq (wp_region_lit (st_y hf rfl rfl rfl (y_eql rfl rfl rfl) fun a hf => st_y hf rfl rfl rfl (y_assign rfl rfl) fun a hf => st_end (x_then_n ?_))))
         rcases bcases (decide (op = 10)) with h0_25 | h0_25
         ·
          replace hq := (ite_t h0_25).symm.trans hq
          have h0_26 := of_decide_eq_true h0_25
          refine cond_t hf rfl h0_25 (wp_seq ?_)
          obtain ⟨s0_2, hq0_2, hq⟩ := bnd hq
          refine code_cut (K := fun a w => Fr 70 [(6, (.int .i64 (s0_2))), (7, (.bool (true)))] a ∧ Mem w0 (hp w0) w []) ?_ ?_
          ·
           refine wp_region_lit (st_y hf rfl rfl rfl (y_move rfl rfl) fun a hf => st_y hf rfl rfl rfl (y_move rfl rfl) fun a hf => st_y hf rfl rfl rfl (y_neq rfl rfl rfl) fun a hf => st_y hf rfl rfl rfl (y_move rfl rfl) fun a hf => ?_)
           rcases bcases (decide (a_ ≠ 0)) with h1_4 | h1_4
           ·
            replace hq0_2 := (ite_t h1_4).symm.trans hq0_2
            have h1_5 := of_decide_eq_true h1_4
            refine st_yg hf rfl rfl (lk_b rfl h1_4) rfl rfl (y_move rfl rfl) fun a hf => st_yg hf rfl rfl (lk_b rfl h1_4) rfl rfl (y_neq rfl rfl rfl) fun a hf => st_y hf rfl rfl rfl (y_pick_t rfl (ev_b rfl h1_4) rfl) fun a hf => ?_
            obtain ⟨r1_1, hx1_1, hq0_2⟩ := bnd hq0_2
            refine st_ef hf rfl rfl rfl (e_callv hf rfl rfl rfl ⟨112, [], rfl, Tryz.call112, impl_arith_1_ok _ (decide (b_ ≠ 0)) _ hx1_1⟩) ?_
            clear hf a; rintro v1_1 w1_1 a ho1_1 hf
            obtain ⟨rfl, hB⟩ := ho1_1
            replace hm := hm.below' hB; clear hB
            refine st_y hf rfl rfl rfl (y_assign rfl rfl) fun a hf => st_y hf rfl rfl rfl (y_assign rfl rfl) fun a hf => st_end (x_then_n ?_)
            obtain rfl := Option.some.inj hq0_2
            exact ⟨hf.sub ⟨rfl, rfl, trivial⟩, hm.pick [] (by decide) rfl⟩
           ·
            replace hq0_2 := (ite_f h1_4).symm.trans hq0_2
            have h1_6 := of_decide_eq_false h1_4
            refine st_no hf rfl rfl (lk_b rfl h1_4) rfl rfl rfl fun a hf => st_no hf rfl rfl (lk_b rfl h1_4) rfl rfl rfl fun a hf => st_y hf rfl rfl rfl (y_pick_f rfl (ev_b rfl h1_4) rfl) fun a hf => ?_
            obtain ⟨r1_2, hx1_2, hq0_2⟩ := bnd hq0_2
            refine st_ef hf rfl rfl rfl (e_callv hf rfl rfl rfl ⟨112, [], rfl, Tryz.call112, impl_arith_1_ok _ false _ hx1_2⟩) ?_
            clear hf a; rintro v1_2 w1_2 a ho1_2 hf
            obtain ⟨rfl, hB⟩ := ho1_2
            replace hm := hm.below' hB; clear hB
            refine st_y hf rfl rfl rfl (y_assign rfl rfl) fun a hf => st_y hf rfl rfl rfl (y_assign rfl rfl) fun a hf => st_end (x_then_n ?_)
            obtain rfl := Option.some.inj hq0_2
            exact ⟨hf.sub ⟨rfl, rfl, trivial⟩, hm.pick [] (by decide) rfl⟩
          ·
           clear hf hm
           rintro a w ⟨hf, hm⟩
           refine x_then_n (wp_ret (x_blk_ret (x_then_ret ?_)))
           obtain rfl := Option.some.inj hq
           refine ret_tmp2 hf Tryz.results93 rfl rfl ?_
           exact ⟨rfl, hm.below⟩
         ·
          replace hq := (ite_f h0_25).symm.trans hq
          have h0_27 := of_decide_eq_false h0_25
          refine cond_f hf rfl h0_25 (wp_skip (x_blk_n (x_then_n (wp_seq (wp_region_lit (st_y hf rfl rfl rfl (y_move rfl rfl) fun a hf => st_y hf rfl rfl rfl (y_move rfl rfl) fun a hf => st_y hf rfl rfl rfl (y_eql rfl rfl rfl) fun a hf => ?_))))))
          obtain ⟨r0_3, hx0_5, hq⟩ := bnd hq
          refine st_ef hf rfl rfl rfl (e_callv hf rfl rfl rfl ⟨112, [], rfl, Tryz.call112, impl_arith_1_ok _ (decide (a_ = 0)) _ hx0_5⟩) ?_
          clear hf a; rintro v0_3 w0_3 a ho0_3 hf
          obtain ⟨rfl, hB⟩ := ho0_3
          replace hm := hm.below' hB; clear hB
          refine st_y hf rfl rfl rfl (y_assign rfl rfl) fun a hf => st_y hf rfl rfl rfl (y_assign rfl rfl) fun a hf => st_end (x_then_n (wp_ret ?_))
          obtain rfl := Option.some.inj hq
          refine ret_tmp2 hf Tryz.results93 rfl rfl ?_
          exact ⟨rfl, hm.below⟩

theorem pimpl_running__code_all : (∀ (m : running) (k_ : Int) (in_ : List Int) (main : Bool) (r : (Int × running) ⊕ (Int × running)), pimpl_running__code m k_ in_ main = some r → ∀ (w0 : World) (hz : Heap) (bp0 : Nat) (v1p : Value) (h1p : GT.rep hz [v1p] m.u.codes) (v2p : Value) (v3p : Value) (v1 : Value) (h1 : GT.rep hz [v1] in_) (hm0 : Mem w0 hz w0 [blk bp0 [v1p, (.int .i64 (m.steps)), (.int .i64 (m.used)), v2p, (.int .i64 ((m.cells.getD 0 0))), (.int .i64 ((m.cells.getD 1 0))), (.int .i64 ((m.cells.getD 2 0))), (.int .i64 ((m.cells.getD 3 0))), (.int .i64 ((m.cells.getD 4 0))), (.int .i64 ((m.cells.getD 5 0))), (.int .i64 ((m.cells.getD 6 0))), (.int .i64 ((m.cells.getD 7 0))), (.int .i64 ((m.cells.getD 8 0))), (.int .i64 ((m.cells.getD 9 0))), (.int .i64 ((m.cells.getD 10 0))), (.int .i64 ((m.cells.getD 11 0))), (.int .i64 ((m.cells.getD 12 0))), (.int .i64 ((m.cells.getD 13 0))), (.int .i64 ((m.cells.getD 14 0))), (.int .i64 ((m.cells.getD 15 0))), v3p] 61, ow [v2p] m.said, ow [v3p] m.trace]), ConX Tryz.prog 48 [(.pointer (some ⟨bp0, 0, none⟩)), (.int .i64 (k_)), v1, (.bool (main))] w0 (fun v w' => ∃ q, r = .inl q ∧ (∃ (x2 : Value) (x3 : Value), v = (.int .i64 (q.1)) ∧ Mem w0 hz w' [blk bp0 [v1p, (.int .i64 (q.2.steps)), (.int .i64 (q.2.used)), x2, (.int .i64 ((q.2.cells.getD 0 0))), (.int .i64 ((q.2.cells.getD 1 0))), (.int .i64 ((q.2.cells.getD 2 0))), (.int .i64 ((q.2.cells.getD 3 0))), (.int .i64 ((q.2.cells.getD 4 0))), (.int .i64 ((q.2.cells.getD 5 0))), (.int .i64 ((q.2.cells.getD 6 0))), (.int .i64 ((q.2.cells.getD 7 0))), (.int .i64 ((q.2.cells.getD 8 0))), (.int .i64 ((q.2.cells.getD 9 0))), (.int .i64 ((q.2.cells.getD 10 0))), (.int .i64 ((q.2.cells.getD 11 0))), (.int .i64 ((q.2.cells.getD 12 0))), (.int .i64 ((q.2.cells.getD 13 0))), (.int .i64 ((q.2.cells.getD 14 0))), (.int .i64 ((q.2.cells.getD 15 0))), x3] 61, ow [x2] q.2.said, ow [x3] q.2.trace])) (fun c w' => ∃ q, r = .inr q ∧ (∃ (x2 : Value) (x3 : Value), c = pch 97 q.1 ∧ Mem w0 hz w' [blk bp0 [v1p, (.int .i64 (q.2.steps)), (.int .i64 (q.2.used)), x2, (.int .i64 ((q.2.cells.getD 0 0))), (.int .i64 ((q.2.cells.getD 1 0))), (.int .i64 ((q.2.cells.getD 2 0))), (.int .i64 ((q.2.cells.getD 3 0))), (.int .i64 ((q.2.cells.getD 4 0))), (.int .i64 ((q.2.cells.getD 5 0))), (.int .i64 ((q.2.cells.getD 6 0))), (.int .i64 ((q.2.cells.getD 7 0))), (.int .i64 ((q.2.cells.getD 8 0))), (.int .i64 ((q.2.cells.getD 9 0))), (.int .i64 ((q.2.cells.getD 10 0))), (.int .i64 ((q.2.cells.getD 11 0))), (.int .i64 ((q.2.cells.getD 12 0))), (.int .i64 ((q.2.cells.getD 13 0))), (.int .i64 ((q.2.cells.getD 14 0))), (.int .i64 ((q.2.cells.getD 15 0))), x3] 61, ow [x2] q.2.said, ow [x3] q.2.trace]))) ∧
    (∀ (m : running) (x_ : Ins_) (regs : List Int) (r : (running × (List Int)) ⊕ (Int × running × (List Int))), pimpl_running__doIns m x_ regs = some r → ∀ (w0 : World) (hz : Heap) (bp0 : Nat) (v1p : Value) (h1p : GT.rep hz [v1p] m.u.codes) (v2p : Value) (v3p : Value) (v1 : Value) (h1 : GT.rep hz [v1] x_.args) (v2 : Value) (hm0 : Mem w0 hz w0 [blk bp0 [v1p, (.int .i64 (m.steps)), (.int .i64 (m.used)), v2p, (.int .i64 ((m.cells.getD 0 0))), (.int .i64 ((m.cells.getD 1 0))), (.int .i64 ((m.cells.getD 2 0))), (.int .i64 ((m.cells.getD 3 0))), (.int .i64 ((m.cells.getD 4 0))), (.int .i64 ((m.cells.getD 5 0))), (.int .i64 ((m.cells.getD 6 0))), (.int .i64 ((m.cells.getD 7 0))), (.int .i64 ((m.cells.getD 8 0))), (.int .i64 ((m.cells.getD 9 0))), (.int .i64 ((m.cells.getD 10 0))), (.int .i64 ((m.cells.getD 11 0))), (.int .i64 ((m.cells.getD 12 0))), (.int .i64 ((m.cells.getD 13 0))), (.int .i64 ((m.cells.getD 14 0))), (.int .i64 ((m.cells.getD 15 0))), v3p] 61, ow [v2p] m.said, ow [v3p] m.trace, ow [v2] regs]), ConX Tryz.prog 68 [(.pointer (some ⟨bp0, 0, none⟩)), (.agg #[(.int .i64 (x_.op)), (.int .i64 (x_.to)), v1, (.int .i64 (x_.n_))]), v2] w0 (fun v w' => ∃ q, r = .inl q ∧ (∃ (x2 : Value) (x3 : Value), v = (.tuple #[]) ∧ Mem w0 hz w' [blk bp0 [v1p, (.int .i64 (q.1.steps)), (.int .i64 (q.1.used)), x2, (.int .i64 ((q.1.cells.getD 0 0))), (.int .i64 ((q.1.cells.getD 1 0))), (.int .i64 ((q.1.cells.getD 2 0))), (.int .i64 ((q.1.cells.getD 3 0))), (.int .i64 ((q.1.cells.getD 4 0))), (.int .i64 ((q.1.cells.getD 5 0))), (.int .i64 ((q.1.cells.getD 6 0))), (.int .i64 ((q.1.cells.getD 7 0))), (.int .i64 ((q.1.cells.getD 8 0))), (.int .i64 ((q.1.cells.getD 9 0))), (.int .i64 ((q.1.cells.getD 10 0))), (.int .i64 ((q.1.cells.getD 11 0))), (.int .i64 ((q.1.cells.getD 12 0))), (.int .i64 ((q.1.cells.getD 13 0))), (.int .i64 ((q.1.cells.getD 14 0))), (.int .i64 ((q.1.cells.getD 15 0))), x3] 61, ow [x2] q.1.said, ow [x3] q.1.trace, ow [v2] q.2])) (fun c w' => ∃ q, r = .inr q ∧ (∃ (x2 : Value) (x3 : Value), c = pch 97 q.1 ∧ Mem w0 hz w' [blk bp0 [v1p, (.int .i64 (q.2.1.steps)), (.int .i64 (q.2.1.used)), x2, (.int .i64 ((q.2.1.cells.getD 0 0))), (.int .i64 ((q.2.1.cells.getD 1 0))), (.int .i64 ((q.2.1.cells.getD 2 0))), (.int .i64 ((q.2.1.cells.getD 3 0))), (.int .i64 ((q.2.1.cells.getD 4 0))), (.int .i64 ((q.2.1.cells.getD 5 0))), (.int .i64 ((q.2.1.cells.getD 6 0))), (.int .i64 ((q.2.1.cells.getD 7 0))), (.int .i64 ((q.2.1.cells.getD 8 0))), (.int .i64 ((q.2.1.cells.getD 9 0))), (.int .i64 ((q.2.1.cells.getD 10 0))), (.int .i64 ((q.2.1.cells.getD 11 0))), (.int .i64 ((q.2.1.cells.getD 12 0))), (.int .i64 ((q.2.1.cells.getD 13 0))), (.int .i64 ((q.2.1.cells.getD 14 0))), (.int .i64 ((q.2.1.cells.getD 15 0))), x3] 61, ow [x2] q.2.1.said, ow [x3] q.2.1.trace, ow [v2] q.2.2]))) := by
  refine pimpl_running__code.mutual_partial_correctness (motive_1 := fun m k_ in_ main r => ∀ (w0 : World) (hz : Heap) (bp0 : Nat) (v1p : Value) (h1p : GT.rep hz [v1p] m.u.codes) (v2p : Value) (v3p : Value) (v1 : Value) (h1 : GT.rep hz [v1] in_) (hm0 : Mem w0 hz w0 [blk bp0 [v1p, (.int .i64 (m.steps)), (.int .i64 (m.used)), v2p, (.int .i64 ((m.cells.getD 0 0))), (.int .i64 ((m.cells.getD 1 0))), (.int .i64 ((m.cells.getD 2 0))), (.int .i64 ((m.cells.getD 3 0))), (.int .i64 ((m.cells.getD 4 0))), (.int .i64 ((m.cells.getD 5 0))), (.int .i64 ((m.cells.getD 6 0))), (.int .i64 ((m.cells.getD 7 0))), (.int .i64 ((m.cells.getD 8 0))), (.int .i64 ((m.cells.getD 9 0))), (.int .i64 ((m.cells.getD 10 0))), (.int .i64 ((m.cells.getD 11 0))), (.int .i64 ((m.cells.getD 12 0))), (.int .i64 ((m.cells.getD 13 0))), (.int .i64 ((m.cells.getD 14 0))), (.int .i64 ((m.cells.getD 15 0))), v3p] 61, ow [v2p] m.said, ow [v3p] m.trace]), ConX Tryz.prog 48 [(.pointer (some ⟨bp0, 0, none⟩)), (.int .i64 (k_)), v1, (.bool (main))] w0 (fun v w' => ∃ q, r = .inl q ∧ (∃ (x2 : Value) (x3 : Value), v = (.int .i64 (q.1)) ∧ Mem w0 hz w' [blk bp0 [v1p, (.int .i64 (q.2.steps)), (.int .i64 (q.2.used)), x2, (.int .i64 ((q.2.cells.getD 0 0))), (.int .i64 ((q.2.cells.getD 1 0))), (.int .i64 ((q.2.cells.getD 2 0))), (.int .i64 ((q.2.cells.getD 3 0))), (.int .i64 ((q.2.cells.getD 4 0))), (.int .i64 ((q.2.cells.getD 5 0))), (.int .i64 ((q.2.cells.getD 6 0))), (.int .i64 ((q.2.cells.getD 7 0))), (.int .i64 ((q.2.cells.getD 8 0))), (.int .i64 ((q.2.cells.getD 9 0))), (.int .i64 ((q.2.cells.getD 10 0))), (.int .i64 ((q.2.cells.getD 11 0))), (.int .i64 ((q.2.cells.getD 12 0))), (.int .i64 ((q.2.cells.getD 13 0))), (.int .i64 ((q.2.cells.getD 14 0))), (.int .i64 ((q.2.cells.getD 15 0))), x3] 61, ow [x2] q.2.said, ow [x3] q.2.trace])) (fun c w' => ∃ q, r = .inr q ∧ (∃ (x2 : Value) (x3 : Value), c = pch 97 q.1 ∧ Mem w0 hz w' [blk bp0 [v1p, (.int .i64 (q.2.steps)), (.int .i64 (q.2.used)), x2, (.int .i64 ((q.2.cells.getD 0 0))), (.int .i64 ((q.2.cells.getD 1 0))), (.int .i64 ((q.2.cells.getD 2 0))), (.int .i64 ((q.2.cells.getD 3 0))), (.int .i64 ((q.2.cells.getD 4 0))), (.int .i64 ((q.2.cells.getD 5 0))), (.int .i64 ((q.2.cells.getD 6 0))), (.int .i64 ((q.2.cells.getD 7 0))), (.int .i64 ((q.2.cells.getD 8 0))), (.int .i64 ((q.2.cells.getD 9 0))), (.int .i64 ((q.2.cells.getD 10 0))), (.int .i64 ((q.2.cells.getD 11 0))), (.int .i64 ((q.2.cells.getD 12 0))), (.int .i64 ((q.2.cells.getD 13 0))), (.int .i64 ((q.2.cells.getD 14 0))), (.int .i64 ((q.2.cells.getD 15 0))), x3] 61, ow [x2] q.2.said, ow [x3] q.2.trace]))) (motive_2 := fun m x_ regs r => ∀ (w0 : World) (hz : Heap) (bp0 : Nat) (v1p : Value) (h1p : GT.rep hz [v1p] m.u.codes) (v2p : Value) (v3p : Value) (v1 : Value) (h1 : GT.rep hz [v1] x_.args) (v2 : Value) (hm0 : Mem w0 hz w0 [blk bp0 [v1p, (.int .i64 (m.steps)), (.int .i64 (m.used)), v2p, (.int .i64 ((m.cells.getD 0 0))), (.int .i64 ((m.cells.getD 1 0))), (.int .i64 ((m.cells.getD 2 0))), (.int .i64 ((m.cells.getD 3 0))), (.int .i64 ((m.cells.getD 4 0))), (.int .i64 ((m.cells.getD 5 0))), (.int .i64 ((m.cells.getD 6 0))), (.int .i64 ((m.cells.getD 7 0))), (.int .i64 ((m.cells.getD 8 0))), (.int .i64 ((m.cells.getD 9 0))), (.int .i64 ((m.cells.getD 10 0))), (.int .i64 ((m.cells.getD 11 0))), (.int .i64 ((m.cells.getD 12 0))), (.int .i64 ((m.cells.getD 13 0))), (.int .i64 ((m.cells.getD 14 0))), (.int .i64 ((m.cells.getD 15 0))), v3p] 61, ow [v2p] m.said, ow [v3p] m.trace, ow [v2] regs]), ConX Tryz.prog 68 [(.pointer (some ⟨bp0, 0, none⟩)), (.agg #[(.int .i64 (x_.op)), (.int .i64 (x_.to)), v1, (.int .i64 (x_.n_))]), v2] w0 (fun v w' => ∃ q, r = .inl q ∧ (∃ (x2 : Value) (x3 : Value), v = (.tuple #[]) ∧ Mem w0 hz w' [blk bp0 [v1p, (.int .i64 (q.1.steps)), (.int .i64 (q.1.used)), x2, (.int .i64 ((q.1.cells.getD 0 0))), (.int .i64 ((q.1.cells.getD 1 0))), (.int .i64 ((q.1.cells.getD 2 0))), (.int .i64 ((q.1.cells.getD 3 0))), (.int .i64 ((q.1.cells.getD 4 0))), (.int .i64 ((q.1.cells.getD 5 0))), (.int .i64 ((q.1.cells.getD 6 0))), (.int .i64 ((q.1.cells.getD 7 0))), (.int .i64 ((q.1.cells.getD 8 0))), (.int .i64 ((q.1.cells.getD 9 0))), (.int .i64 ((q.1.cells.getD 10 0))), (.int .i64 ((q.1.cells.getD 11 0))), (.int .i64 ((q.1.cells.getD 12 0))), (.int .i64 ((q.1.cells.getD 13 0))), (.int .i64 ((q.1.cells.getD 14 0))), (.int .i64 ((q.1.cells.getD 15 0))), x3] 61, ow [x2] q.1.said, ow [x3] q.1.trace, ow [v2] q.2])) (fun c w' => ∃ q, r = .inr q ∧ (∃ (x2 : Value) (x3 : Value), c = pch 97 q.1 ∧ Mem w0 hz w' [blk bp0 [v1p, (.int .i64 (q.2.1.steps)), (.int .i64 (q.2.1.used)), x2, (.int .i64 ((q.2.1.cells.getD 0 0))), (.int .i64 ((q.2.1.cells.getD 1 0))), (.int .i64 ((q.2.1.cells.getD 2 0))), (.int .i64 ((q.2.1.cells.getD 3 0))), (.int .i64 ((q.2.1.cells.getD 4 0))), (.int .i64 ((q.2.1.cells.getD 5 0))), (.int .i64 ((q.2.1.cells.getD 6 0))), (.int .i64 ((q.2.1.cells.getD 7 0))), (.int .i64 ((q.2.1.cells.getD 8 0))), (.int .i64 ((q.2.1.cells.getD 9 0))), (.int .i64 ((q.2.1.cells.getD 10 0))), (.int .i64 ((q.2.1.cells.getD 11 0))), (.int .i64 ((q.2.1.cells.getD 12 0))), (.int .i64 ((q.2.1.cells.getD 13 0))), (.int .i64 ((q.2.1.cells.getD 14 0))), (.int .i64 ((q.2.1.cells.getD 15 0))), x3] 61, ow [x2] q.2.1.said, ow [x3] q.2.1.trace, ow [v2] q.2.2]))) ?_ ?_
  · intro rec_ ih_ m k_ in_ main r hq w0 hz bp0 v1p h1p v2p v3p v1 h1 hm0
    have pimpl_running__doIns_rec : ∀ (w0 : World) (hz : Heap) (m : running) (bp0 : Nat) (v1p : Value) (h1p : GT.rep hz [v1p] m.u.codes) (v2p : Value) (v3p : Value) (x_ : Ins_) (v1 : Value) (h1 : GT.rep hz [v1] x_.args) (regs : List Int) (v2 : Value) (hm0 : Mem w0 hz w0 [blk bp0 [v1p, (.int .i64 (m.steps)), (.int .i64 (m.used)), v2p, (.int .i64 ((m.cells.getD 0 0))), (.int .i64 ((m.cells.getD 1 0))), (.int .i64 ((m.cells.getD 2 0))), (.int .i64 ((m.cells.getD 3 0))), (.int .i64 ((m.cells.getD 4 0))), (.int .i64 ((m.cells.getD 5 0))), (.int .i64 ((m.cells.getD 6 0))), (.int .i64 ((m.cells.getD 7 0))), (.int .i64 ((m.cells.getD 8 0))), (.int .i64 ((m.cells.getD 9 0))), (.int .i64 ((m.cells.getD 10 0))), (.int .i64 ((m.cells.getD 11 0))), (.int .i64 ((m.cells.getD 12 0))), (.int .i64 ((m.cells.getD 13 0))), (.int .i64 ((m.cells.getD 14 0))), (.int .i64 ((m.cells.getD 15 0))), v3p] 61, ow [v2p] m.said, ow [v3p] m.trace, ow [v2] regs]) (r : (running × (List Int)) ⊕ (Int × running × (List Int))) (hq : rec_ m x_ regs = some r), ConX Tryz.prog 68 [(.pointer (some ⟨bp0, 0, none⟩)), (.agg #[(.int .i64 (x_.op)), (.int .i64 (x_.to)), v1, (.int .i64 (x_.n_))]), v2] w0 (fun v w' => ∃ q, r = .inl q ∧ (∃ (x2 : Value) (x3 : Value), v = (.tuple #[]) ∧ Mem w0 hz w' [blk bp0 [v1p, (.int .i64 (q.1.steps)), (.int .i64 (q.1.used)), x2, (.int .i64 ((q.1.cells.getD 0 0))), (.int .i64 ((q.1.cells.getD 1 0))), (.int .i64 ((q.1.cells.getD 2 0))), (.int .i64 ((q.1.cells.getD 3 0))), (.int .i64 ((q.1.cells.getD 4 0))), (.int .i64 ((q.1.cells.getD 5 0))), (.int .i64 ((q.1.cells.getD 6 0))), (.int .i64 ((q.1.cells.getD 7 0))), (.int .i64 ((q.1.cells.getD 8 0))), (.int .i64 ((q.1.cells.getD 9 0))), (.int .i64 ((q.1.cells.getD 10 0))), (.int .i64 ((q.1.cells.getD 11 0))), (.int .i64 ((q.1.cells.getD 12 0))), (.int .i64 ((q.1.cells.getD 13 0))), (.int .i64 ((q.1.cells.getD 14 0))), (.int .i64 ((q.1.cells.getD 15 0))), x3] 61, ow [x2] q.1.said, ow [x3] q.1.trace, ow [v2] q.2])) (fun c w' => ∃ q, r = .inr q ∧ (∃ (x2 : Value) (x3 : Value), c = pch 97 q.1 ∧ Mem w0 hz w' [blk bp0 [v1p, (.int .i64 (q.2.1.steps)), (.int .i64 (q.2.1.used)), x2, (.int .i64 ((q.2.1.cells.getD 0 0))), (.int .i64 ((q.2.1.cells.getD 1 0))), (.int .i64 ((q.2.1.cells.getD 2 0))), (.int .i64 ((q.2.1.cells.getD 3 0))), (.int .i64 ((q.2.1.cells.getD 4 0))), (.int .i64 ((q.2.1.cells.getD 5 0))), (.int .i64 ((q.2.1.cells.getD 6 0))), (.int .i64 ((q.2.1.cells.getD 7 0))), (.int .i64 ((q.2.1.cells.getD 8 0))), (.int .i64 ((q.2.1.cells.getD 9 0))), (.int .i64 ((q.2.1.cells.getD 10 0))), (.int .i64 ((q.2.1.cells.getD 11 0))), (.int .i64 ((q.2.1.cells.getD 12 0))), (.int .i64 ((q.2.1.cells.getD 13 0))), (.int .i64 ((q.2.1.cells.getD 14 0))), (.int .i64 ((q.2.1.cells.getD 15 0))), x3] 61, ow [x2] q.2.1.said, ow [x3] q.2.1.trace, ow [v2] q.2.2])) := fun w0 hz m bp0 v1p h1p v2p v3p x_ v1 h1 regs v2 hm0 r hq => ih_ m x_ regs r hq w0 hz bp0 v1p h1p v2p v3p v1 h1 v2 hm0
    refine con_bodyx (l := [(0, (.pointer (some ⟨bp0, 0, none⟩))), (1, (.int .i64 (k_))), (2, v1), (3, (.bool (main)))]) Tryz.func48 rfl Tryz.ntmps48 (Args.get ⟨rfl, rfl, rfl, rfl, trivial⟩) rfl ?_
    intro a hf
    have hm := hm0
    refine wp_seq (wp_region_lit (st_y hf rfl rfl rfl (y_assign rfl rfl) fun a hf => st_end (x_then_n (wp_seq (wp_region_lit (st_y hf rfl rfl rfl (y_move rfl rfl) fun a hf => st_y hf rfl rfl rfl (y_nilptr rfl rfl) fun a hf => ?_))))))
    refine st_y hf rfl rfl rfl (y_fieldAddr fo_61_0 rfl rfl) fun a hf => st_y hf rfl rfl rfl (y_fieldAddr fo_30_0 rfl rfl) fun a hf => st_y hf rfl rfl rfl (y_load1 Tryz.isAgg28 rfl rfl (hm.blk_cell 0 rfl rfl)) fun a hf => st_y hf rfl rfl rfl (y_move rfl rfl) fun a hf => ?_
    obtain ⟨x0_1, hx0_1, hq⟩ := bnd hq
    obtain ⟨h0_1, hx0_2⟩ := getI_some.1 hx0_1
    obtain ⟨b0_1, o0_1, c0_1, he⟩ := idx_form' h1p hx0_2
    subst he
    obtain ⟨_, _, hc0_1, hr0_1⟩ := ro_get' h1p hx0_2
    obtain ⟨_, _, rfl, rfl, _, _, rfl, rfl, h0_2⟩ := hr0_1
    obtain ⟨v0_1, rfl, -⟩ := id h0_2
    replace h0_2 : GT.rep hz [v0_1] x0_1.blocks := h0_2
    replace hc0_1 : CellsAt hz b0_1 (o0_1 + (k_).toNat * 3) [(.int .i64 (x0_1.params)), (.int .i64 (x0_1.regs)), v0_1] := hc0_1
    refine st_y hf rfl rfl rfl (y_indexAddr st_28 rfl rfl rfl h0_1 (idx_lt hx0_2)) fun a hf => st_y hf rfl rfl rfl (y_loadN (cs := [(.int .i64 (x0_1.params)), (.int .i64 (x0_1.regs)), v0_1]) Tryz.isAgg69 Tryz.sizeOf69 rfl rfl (hc0_1.mono hm.lez)) fun a hf => st_ef hf rfl rfl rfl (e_alloc hm Tryz.zeroValue69 rfl rfl) ?_
    clear hf a; rintro _ w0_1 a ⟨b0_2, rfl, hm⟩ hf
    refine st_ef0 hf rfl rfl (e_storeN 0 hf hm rfl Tryz.sizeOf69 rfl rfl rfl (one_cons rfl (one_cons rfl (one_cons (rep_one h0_2) one_nil))) rfl rfl) ?_
    clear hf a; rintro _ w0_2 a hm hf
    refine st_end (x_then_n (wp_seq (wp_region_lit (st_y hf rfl rfl rfl (y_fieldAddr fo_69_1 rfl rfl) fun a hf => st_y hf rfl rfl rfl (y_load1 Tryz.isAgg3 rfl rfl (hm.blk_cell 0 rfl rfl)) fun a hf => ?_))))
    obtain ⟨ys0_1, hx0_3, hq⟩ := bnd hq
    obtain ⟨⟨h0_31, h0_32⟩, h0_3e⟩ := makeM_some.1 hx0_3
    refine st_ef hf rfl rfl rfl (e_make (x0 := (0 : Int)) et_25 (fun _ => (Flat.own_iff.2 rfl)) hf hm rfl rfl rfl h0_31 (Int.le_refl _) h0_32) ?_
    clear hf a; rintro v0_2 w0_3 a hm hf
    rw [h0_3e] at hm
    have h0_3l : (ys0_1.length : Int) = x0_1.regs := by rw [← h0_3e]; simp only [List.length_replicate]; omega
    refine st_ef hf rfl rfl rfl (e_alloc hm Tryz.zeroValue25 rfl rfl) ?_
    clear hf a; rintro _ w0_4 a ⟨b0_3, rfl, hm⟩ hf
    refine st_ef0 hf rfl rfl (e_store1 0 hf hm rfl Tryz.sizeOf25 rfl rfl rfl (rep_one (hm.ow_rep 1 rfl)) rfl) ?_
    clear hf a; rintro _ w0_5 a hm hf
    refine st_end (x_then_n (wp_seq (wp_region_lit (st_y hf rfl rfl rfl (y_load1 Tryz.isAgg25 rfl rfl (hm.blk_cell 0 rfl rfl)) fun a hf => st_y hf rfl rfl rfl (y_move rfl rfl) fun a hf => st_ef hf rfl rfl rfl (e_copy (α := Int) (xs := ys0_1) (ys := in_) (lo := 0) (hi := ys0_1.length) 1 st_25 (show 0 < 1 from by decide) hf hm rfl (hm.now h1) rfl (by rw [hm.subV_whole (α := Int) 1 rfl]; rfl) rfl (Nat.zero_le _) (Nat.le_refl _)) ?_))))
    clear hf a; rintro _ w0_6 a ⟨rfl, hm⟩ hf
    refine st_end (x_then_n (wp_seq (wp_region_lit (st_y hf rfl rfl rfl (y_assign rfl rfl) fun a hf => st_y hf rfl rfl rfl (y_assign rfl rfl) fun a hf => st_end (x_then_n ?_)))))
    obtain ⟨p0_1, c0_2, he, hl0_1⟩ := ro_slice (hm.ow_rep 4 rfl)
    subst he
    obtain ⟨p0_2, c0_3, he, hl0_2⟩ := ro_slice (hm.ow_rep 5 rfl)
    subst he
    obtain ⟨p0_3, c0_4, he, hl0_3⟩ := ro_slice (hm.ow_rep 1 rfl)
    subst he
    refine wp_block ?_
    obtain ⟨r0_1, hl0_4, hq⟩ := bnd hq
    refine wp_loopM _ (fun xs1_1 a w => ∃ (v1_1 : Value) (v1_2 : Value), Fr 128 [(0, (.pointer (some ⟨bp0, 0, none⟩))), (3, (.bool (main))), (9, (.pointer (some ⟨b0_2, 0, none⟩))), (10, (.pointer (some ⟨b0_3, 0, none⟩))), (11, (.int .i64 (xs1_1.2.2.2.2.2.2.1))), (12, (.int .i64 (xs1_1.2.2.2.2.2.2.2)))] a ∧ Mem w0 hz w [blk bp0 [(.slice (some ⟨b0_1, o0_1, none⟩) m.u.codes.length c0_1), (.int .i64 (xs1_1.1)), (.int .i64 (xs1_1.2.1)), v1_1, (.int .i64 ((xs1_1.2.2.2.1.getD 0 0))), (.int .i64 ((xs1_1.2.2.2.1.getD 1 0))), (.int .i64 ((xs1_1.2.2.2.1.getD 2 0))), (.int .i64 ((xs1_1.2.2.2.1.getD 3 0))), (.int .i64 ((xs1_1.2.2.2.1.getD 4 0))), (.int .i64 ((xs1_1.2.2.2.1.getD 5 0))), (.int .i64 ((xs1_1.2.2.2.1.getD 6 0))), (.int .i64 ((xs1_1.2.2.2.1.getD 7 0))), (.int .i64 ((xs1_1.2.2.2.1.getD 8 0))), (.int .i64 ((xs1_1.2.2.2.1.getD 9 0))), (.int .i64 ((xs1_1.2.2.2.1.getD 10 0))), (.int .i64 ((xs1_1.2.2.2.1.getD 11 0))), (.int .i64 ((xs1_1.2.2.2.1.getD 12 0))), (.int .i64 ((xs1_1.2.2.2.1.getD 13 0))), (.int .i64 ((xs1_1.2.2.2.1.getD 14 0))), (.int .i64 ((xs1_1.2.2.2.1.getD 15 0))), v1_2] 61, ow [v1_1] xs1_1.2.2.1, ow [v1_2] xs1_1.2.2.2.2.1, blk b0_2 [(.int .i64 (x0_1.params)), (.int .i64 (x0_1.regs)), v0_1] 69, blk b0_3 [(.slice p0_3 (copyL ys0_1 in_ 0 ys0_1.length).length c0_4)] 25, ow [(.slice p0_3 (copyL ys0_1 in_ 0 ys0_1.length).length c0_4)] xs1_1.2.2.2.2.2.1]) hl0_4 ?_ ?_
    ·
     exact ⟨(.slice p0_1 m.said.length c0_2), (.slice p0_2 m.trace.length c0_3), hf.sub ⟨rfl, rfl, rfl, rfl, rfl, rfl, trivial⟩, hm.pick [3, 4, 5, 2, 0, 1] (by decide) rfl⟩
    ·
     clear hf hm
     rintro xs1_1 a w q0_1 ⟨v1_1, v1_2, hf, hm⟩ hb0_1 ho0_1
     refine wp_block (wp_seq (wp_seq (wp_region_lit (st_y hf rfl rfl rfl (y_move rfl rfl) fun a hf => st_end (x_then_n ?_)))))
     obtain ⟨s1_1, hq1_1, hb0_1⟩ := bnd hb0_1
     refine code_cut (K := fun a w => ∃ (v1_3 : Value), Fr 128 [(0, (.pointer (some ⟨bp0, 0, none⟩))), (3, (.bool (main))), (9, (.pointer (some ⟨b0_2, 0, none⟩))), (10, (.pointer (some ⟨b0_3, 0, none⟩))), (11, (.int .i64 (xs1_1.2.2.2.2.2.2.1))), (12, (.int .i64 (xs1_1.2.2.2.2.2.2.2)))] a ∧ Mem w0 hz w [blk bp0 [(.slice (some ⟨b0_1, o0_1, none⟩) m.u.codes.length c0_1), (.int .i64 (xs1_1.1)), (.int .i64 (xs1_1.2.1)), v1_1, (.int .i64 ((xs1_1.2.2.2.1.getD 0 0))), (.int .i64 ((xs1_1.2.2.2.1.getD 1 0))), (.int .i64 ((xs1_1.2.2.2.1.getD 2 0))), (.int .i64 ((xs1_1.2.2.2.1.getD 3 0))), (.int .i64 ((xs1_1.2.2.2.1.getD 4 0))), (.int .i64 ((xs1_1.2.2.2.1.getD 5 0))), (.int .i64 ((xs1_1.2.2.2.1.getD 6 0))), (.int .i64 ((xs1_1.2.2.2.1.getD 7 0))), (.int .i64 ((xs1_1.2.2.2.1.getD 8 0))), (.int .i64 ((xs1_1.2.2.2.1.getD 9 0))), (.int .i64 ((xs1_1.2.2.2.1.getD 10 0))), (.int .i64 ((xs1_1.2.2.2.1.getD 11 0))), (.int .i64 ((xs1_1.2.2.2.1.getD 12 0))), (.int .i64 ((xs1_1.2.2.2.1.getD 13 0))), (.int .i64 ((xs1_1.2.2.2.1.getD 14 0))), (.int .i64 ((xs1_1.2.2.2.1.getD 15 0))), v1_3] 61, ow [v1_1] xs1_1.2.2.1, ow [v1_3] s1_1, blk b0_2 [(.int .i64 (x0_1.params)), (.int .i64 (x0_1.regs)), v0_1] 69, blk b0_3 [(.slice p0_3 (copyL ys0_1 in_ 0 ys0_1.length).length c0_4)] 25, ow [(.slice p0_3 (copyL ys0_1 in_ 0 ys0_1.length).length c0_4)] xs1_1.2.2.2.2.2.1]) ?_ ?_
     ·
      rcases bcases (main) with h2_1 | h2_1
      ·
       replace hq1_1 := (ite_t h2_1).symm.trans hq1_1
       refine cond_t hf rfl h2_1 (wp_region_lit (st_y hf rfl rfl rfl (y_move rfl rfl) fun a hf => st_y hf rfl rfl rfl (y_move rfl rfl) fun a hf => st_y hf rfl rfl rfl (y_nilptr rfl rfl) fun a hf => st_y hf rfl rfl rfl (y_fieldAddr fo_61_5 rfl rfl) fun a hf => st_y hf rfl rfl rfl (y_load1 Tryz.isAgg25 rfl rfl (hm.blk_cell 0 rfl rfl)) fun a hf => st_y hf rfl rfl rfl (y_move rfl rfl) fun a hf => st_ef hf rfl rfl rfl (e_build (vs := #[(0, (.int .i64 (xs1_1.2.2.2.2.2.2.1)))]) (cs := [(.int .i64 (xs1_1.2.2.2.2.2.2.1))]) et_25 hf hm rfl rfl (by kernel_rfl) rfl rfl) ?_))
       clear hf a; rintro _ w2_1 a ⟨b2_1, rfl, hm⟩ hf
       replace hm := hm.lit (xs := ([xs1_1.2.2.2.2.2.2.1] : List Int)) 0 rfl rfl rfl rfl
       obtain ⟨ys2_1, hx2_1, hq1_1⟩ := bnd hq1_1
       obtain ⟨h2_2, h2_2e⟩ := appM_some.1 hx2_1
       refine st_ef hf rfl rfl rfl (e_append 3 et_25 hf hm rfl (hm.ow_rep 0 rfl) rfl rfl rfl h2_2) ?_
       clear hf a; rintro v2_1 w2_2 a hm hf
       rw [h2_2e] at hm
       refine st_y hf rfl rfl rfl (y_nilptr rfl rfl) fun a hf => st_y hf rfl rfl rfl (y_fieldAddr fo_61_5 rfl rfl) fun a hf => st_ef0 hf rfl rfl (e_store1 1 hf hm rfl Tryz.sizeOf25 rfl rfl rfl (rep_one (hm.ow_rep 3 rfl)) rfl) ?_
       clear hf a; rintro _ w2_3 a hm hf
       refine st_end (x_then_n ?_)
       obtain rfl := Option.some.inj hq1_1
       exact ⟨v2_1, hf.sub ⟨rfl, rfl, rfl, rfl, rfl, rfl, trivial⟩, hm.pick [1, 2, 3, 4, 5, 6] (by decide) rfl⟩
      ·
       replace hq1_1 := (ite_f h2_1).symm.trans hq1_1
       refine cond_f hf rfl h2_1 (wp_skip (x_then_n ?_))
       obtain rfl := Option.some.inj hq1_1
       exact ⟨v1_2, hf.sub ⟨rfl, rfl, rfl, rfl, rfl, rfl, trivial⟩, hm.pick [0, 1, 2, 3, 4, 5] (by decide) rfl⟩
     ·
      clear hf hm
      rintro a w ⟨v1_3, hf, hm⟩
      refine x_then_n (wp_seq (wp_region_lit (st_y hf rfl rfl rfl (y_fieldAddr fo_69_2 rfl rfl) fun a hf => st_y hf rfl rfl rfl (y_load1 Tryz.isAgg67 rfl rfl (hm.blk_cell 3 rfl rfl)) fun a hf => st_y hf rfl rfl rfl (y_move rfl rfl) fun a hf => ?_)))
      obtain ⟨x1_1, hx1_1, hb0_1⟩ := bnd hb0_1
      obtain ⟨h1_1, hx1_2⟩ := getI_some.1 hx1_1
      obtain ⟨b1_1, o1_1, c1_1, he⟩ := idx_form' h0_2 hx1_2
      subst he
      obtain ⟨_, _, hc1_1, hr1_1⟩ := ro_get' h0_2 hx1_2
      obtain ⟨_, _, rfl, h1_2, _, _, rfl, h1_3, _, _, rfl, rfl, _, _, rfl, rfl, h1_4⟩ := hr1_1
      obtain ⟨v1_4, rfl, -⟩ := id h1_2
      replace h1_2 : GT.rep hz [v1_4] x1_1.phis := h1_2
      obtain ⟨v1_5, rfl, -⟩ := id h1_3
      replace h1_3 : GT.rep hz [v1_5] x1_1.ins := h1_3
      obtain ⟨v1_6, rfl, -⟩ := id h1_4
      replace h1_4 : GT.rep hz [v1_6] x1_1.next_ := h1_4
      replace hc1_1 : CellsAt hz b1_1 (o1_1 + (xs1_1.2.2.2.2.2.2.1).toNat * 5) [v1_4, v1_5, (.int .i64 (x1_1.jump)), (.int .i64 (x1_1.on)), v1_6] := hc1_1
      refine st_y hf rfl rfl rfl (y_indexAddr st_67 rfl rfl rfl h1_1 (idx_lt hx1_2)) fun a hf => st_y hf rfl rfl rfl (y_loadN (cs := [v1_4, v1_5, (.int .i64 (x1_1.jump)), (.int .i64 (x1_1.on)), v1_6]) Tryz.isAgg86 Tryz.sizeOf86 rfl rfl (hc1_1.mono hm.lez)) fun a hf => st_ef hf rfl rfl rfl (e_alloc hm Tryz.zeroValue86 rfl rfl) ?_
      clear hf a; rintro _ w1_1 a ⟨b1_2, rfl, hm⟩ hf
      refine st_ef0 hf rfl rfl (e_storeN 0 hf hm rfl Tryz.sizeOf86 rfl rfl rfl (one_cons (rep_one h1_2) (one_cons (rep_one h1_3) (one_cons rfl (one_cons rfl (one_cons (rep_one h1_4) one_nil))))) rfl rfl) ?_
      clear hf a; rintro _ w1_2 a hm hf
      refine st_end (x_then_n (wp_seq (wp_seq ?_)))
      obtain ⟨s1_2, hq1_2, hb0_1⟩ := bnd hb0_1
      refine code_cut (K := fun a w => Fr 128 [(0, (.pointer (some ⟨bp0, 0, none⟩))), (3, (.bool (main))), (9, (.pointer (some ⟨b0_2, 0, none⟩))), (10, (.pointer (some ⟨b0_3, 0, none⟩))), (11, (.int .i64 (xs1_1.2.2.2.2.2.2.1))), (12, (.int .i64 (xs1_1.2.2.2.2.2.2.2))), (13, (.pointer (some ⟨b1_2, 0, none⟩))), (57, (.bool (s1_2)))] a ∧ Mem w0 hz w [blk bp0 [(.slice (some ⟨b0_1, o0_1, none⟩) m.u.codes.length c0_1), (.int .i64 (xs1_1.1)), (.int .i64 (xs1_1.2.1)), v1_1, (.int .i64 ((xs1_1.2.2.2.1.getD 0 0))), (.int .i64 ((xs1_1.2.2.2.1.getD 1 0))), (.int .i64 ((xs1_1.2.2.2.1.getD 2 0))), (.int .i64 ((xs1_1.2.2.2.1.getD 3 0))), (.int .i64 ((xs1_1.2.2.2.1.getD 4 0))), (.int .i64 ((xs1_1.2.2.2.1.getD 5 0))), (.int .i64 ((xs1_1.2.2.2.1.getD 6 0))), (.int .i64 ((xs1_1.2.2.2.1.getD 7 0))), (.int .i64 ((xs1_1.2.2.2.1.getD 8 0))), (.int .i64 ((xs1_1.2.2.2.1.getD 9 0))), (.int .i64 ((xs1_1.2.2.2.1.getD 10 0))), (.int .i64 ((xs1_1.2.2.2.1.getD 11 0))), (.int .i64 ((xs1_1.2.2.2.1.getD 12 0))), (.int .i64 ((xs1_1.2.2.2.1.getD 13 0))), (.int .i64 ((xs1_1.2.2.2.1.getD 14 0))), (.int .i64 ((xs1_1.2.2.2.1.getD 15 0))), v1_3] 61, ow [v1_1] xs1_1.2.2.1, ow [v1_3] s1_1, blk b0_2 [(.int .i64 (x0_1.params)), (.int .i64 (x0_1.regs)), (.slice (some ⟨b1_1, o1_1, none⟩) x0_1.blocks.length c1_1)] 69, blk b0_3 [(.slice p0_3 (copyL ys0_1 in_ 0 ys0_1.length).length c0_4)] 25, ow [(.slice p0_3 (copyL ys0_1 in_ 0 ys0_1.length).length c0_4)] xs1_1.2.2.2.2.2.1, blk b1_2 [v1_4, v1_5, (.int .i64 (x1_1.jump)), (.int .i64 (x1_1.on)), v1_6] 86]) ?_ ?_
      ·
       refine wp_region_lit (st_y hf rfl rfl rfl (y_move rfl rfl) fun a hf => st_y hf rfl rfl rfl (y_geq rfl rfl rfl) fun a hf => st_y hf rfl rfl rfl (y_move rfl rfl) fun a hf => ?_)
       rcases bcases (decide (0 ≤ xs1_1.2.2.2.2.2.2.2)) with h2_3 | h2_3
       ·
        replace hq1_2 := (ite_t h2_3).symm.trans hq1_2
        have h2_4 := of_decide_eq_true h2_3
        refine st_yg hf rfl rfl (lk_b rfl h2_3) rfl rfl (y_fieldAddr fo_86_0 rfl rfl) fun a hf => st_yg hf rfl rfl (lk_b rfl h2_3) rfl rfl (y_load1 Tryz.isAgg83 rfl rfl (hm.blk_cell 0 rfl rfl)) fun a hf => ?_
        obtain ⟨p2_1, c2_1, he, hl2_1⟩ := ro_slice h1_2
        subst he
        refine st_yg hf rfl rfl (lk_b rfl h2_3) rfl rfl (y_len_slice st_83.und rfl rfl) fun a hf => st_yg hf rfl rfl (lk_b rfl h2_3) rfl rfl (y_gtr rfl rfl rfl) fun a hf => st_y hf rfl rfl rfl (y_pick_t rfl (ev_b rfl h2_3) rfl) fun a hf => st_end (x_then_n ?_)
        obtain rfl := Option.some.inj hq1_2
        exact ⟨hf.sub ⟨rfl, rfl, rfl, rfl, rfl, rfl, rfl, rfl, trivial⟩, hm.pick [1, 2, 3, 4, 5, 6, 0] (by decide) rfl⟩
       ·
        replace hq1_2 := (ite_f h2_3).symm.trans hq1_2
        have h2_5 := of_decide_eq_false h2_3
        refine st_no hf rfl rfl (lk_b rfl h2_3) rfl rfl rfl fun a hf => st_no hf rfl rfl (lk_b rfl h2_3) rfl rfl rfl fun a hf => st_no hf rfl rfl (lk_b rfl h2_3) rfl rfl rfl fun a hf => st_no hf rfl rfl (lk_b rfl h2_3) rfl rfl rfl fun a hf => st_y hf rfl rfl rfl (y_pick_f rfl (ev_b rfl h2_3) rfl) fun a hf => st_end (x_then_n ?_)
        obtain rfl := Option.some.inj hq1_2
        exact ⟨hf.sub ⟨rfl, rfl, rfl, rfl, rfl, rfl, rfl, rfl, trivial⟩, hm.pick [1, 2, 3, 4, 5, 6, 0] (by decide) rfl⟩
      ·
       clear hf hm
       rintro a w ⟨hf, hm⟩
       refine x_then_n ?_
       obtain ⟨s1_3, hq1_3, hb0_1⟩ := bnd hb0_1
       refine code_cut (K := fun a w => Fr 128 [(0, (.pointer (some ⟨bp0, 0, none⟩))), (3, (.bool (main))), (9, (.pointer (some ⟨b0_2, 0, none⟩))), (10, (.pointer (some ⟨b0_3, 0, none⟩))), (11, (.int .i64 (xs1_1.2.2.2.2.2.2.1))), (13, (.pointer (some ⟨b1_2, 0, none⟩)))] a ∧ Mem w0 hz w [blk bp0 [(.slice (some ⟨b0_1, o0_1, none⟩) m.u.codes.length c0_1), (.int .i64 (xs1_1.1)), (.int .i64 (xs1_1.2.1)), v1_1, (.int .i64 ((xs1_1.2.2.2.1.getD 0 0))), (.int .i64 ((xs1_1.2.2.2.1.getD 1 0))), (.int .i64 ((xs1_1.2.2.2.1.getD 2 0))), (.int .i64 ((xs1_1.2.2.2.1.getD 3 0))), (.int .i64 ((xs1_1.2.2.2.1.getD 4 0))), (.int .i64 ((xs1_1.2.2.2.1.getD 5 0))), (.int .i64 ((xs1_1.2.2.2.1.getD 6 0))), (.int .i64 ((xs1_1.2.2.2.1.getD 7 0))), (.int .i64 ((xs1_1.2.2.2.1.getD 8 0))), (.int .i64 ((xs1_1.2.2.2.1.getD 9 0))), (.int .i64 ((xs1_1.2.2.2.1.getD 10 0))), (.int .i64 ((xs1_1.2.2.2.1.getD 11 0))), (.int .i64 ((xs1_1.2.2.2.1.getD 12 0))), (.int .i64 ((xs1_1.2.2.2.1.getD 13 0))), (.int .i64 ((xs1_1.2.2.2.1.getD 14 0))), (.int .i64 ((xs1_1.2.2.2.1.getD 15 0))), v1_3] 61, ow [v1_1] xs1_1.2.2.1, ow [v1_3] s1_1, blk b0_2 [(.int .i64 (x0_1.params)), (.int .i64 (x0_1.regs)), (.slice (some ⟨b1_1, o1_1, none⟩) x0_1.blocks.length c1_1)] 69, blk b0_3 [(.slice p0_3 (copyL ys0_1 in_ 0 ys0_1.length).length c0_4)] 25, ow [(.slice p0_3 (copyL ys0_1 in_ 0 ys0_1.length).length c0_4)] s1_3, blk b1_2 [v1_4, v1_5, (.int .i64 (x1_1.jump)), (.int .i64 (x1_1.on)), v1_6] 86]) ?_ ?_
       ·
        rcases bcases (s1_2) with h2_6 | h2_6
        ·
         replace hq1_3 := (ite_t h2_6).symm.trans hq1_3
         refine cond_t hf rfl h2_6 (wp_seq (wp_region_lit (st_y hf rfl rfl rfl (y_loadN (cs := [(.int .i64 (x0_1.params)), (.int .i64 (x0_1.regs)), (.slice (some ⟨b1_1, o1_1, none⟩) x0_1.blocks.length c1_1)]) Tryz.isAgg69 Tryz.sizeOf69 rfl rfl (hm.blk_at 3 rfl)) fun a hf => st_y hf rfl rfl rfl (y_move rfl rfl) fun a hf => ?_)))
         obtain ⟨r2_1, hx2_2, hq1_3⟩ := bnd hq1_3
         refine st_ef hf rfl rfl rfl (e_call hf rfl Tryz.call65 rfl (impl_PredsOf_ok _ x0_1 (.slice (some ⟨b1_1, o1_1, none⟩) x0_1.blocks.length c1_1) (hm.now h0_2) xs1_1.2.2.2.2.2.2.1 _ hx2_2)) ?_
         clear hf a; rintro v2_2 w2_4 a ho2_1 hf
         obtain ⟨_, rfl, hB⟩ := ho2_1
         replace hm := hm.give hB; clear hB
         refine st_y hf rfl rfl rfl (y_move rfl rfl) fun a hf => ?_
         obtain ⟨r2_2, hx2_3, hq1_3⟩ := bnd hq1_3
         refine st_ef hf rfl rfl rfl (e_call hf rfl Tryz.call64 rfl (slices_Index_S_int_int_ok _ r2_1 v2_2 (hm.ow_rep 0 rfl) xs1_1.2.2.2.2.2.2.2 _ hx2_3)) ?_
         clear hf a; rintro v2_4 w2_5 a ho2_2 hf
         obtain ⟨rfl, hB⟩ := ho2_2
         replace hm := hm.below' hB; clear hB
         refine st_ef hf rfl rfl rfl (e_alloc hm Tryz.zeroValue3 rfl rfl) ?_
         clear hf a; rintro _ w2_6 a ⟨b2_2, rfl, hm⟩ hf
         refine st_ef0 hf rfl rfl (e_store1 0 hf hm rfl Tryz.sizeOf3 rfl rfl rfl rfl rfl) ?_
         clear hf a; rintro _ w2_7 a hm hf
         refine st_end (x_then_n (wp_seq (wp_region_lit (st_y hf rfl rfl rfl (y_fieldAddr fo_86_0 rfl rfl) fun a hf => st_y hf rfl rfl rfl (y_load1 Tryz.isAgg83 rfl rfl (hm.blk_cell 8 rfl rfl)) fun a hf => st_y hf rfl rfl rfl (y_makeFunc rfl rfl) fun a hf => ?_))))
         obtain ⟨r2_3, hx2_4, hq1_3⟩ := bnd hq1_3
         refine st_ef hf rfl rfl rfl (e_call hf rfl Tryz.call66 rfl (impl_mapped_impl_Phi_int_ok _ x1_1.phis v1_4 (hm.now h1_2) (fun y0 => pimpl_running__code_1 y0 xs1_1.2.2.2.2.2.1 r2_2) (.func (.func 67) #[] #[(.pointer (some ⟨b0_3, 0, none⟩)), (.pointer (some ⟨b2_2, 0, none⟩))]) (fun w y0 z0_0 z0_1 r hB hq => ⟨67, [(.pointer (some ⟨b0_3, 0, none⟩)), (.pointer (some ⟨b2_2, 0, none⟩))], rfl, Tryz.call67, pimpl_running__code_1_ok w y0 z0_0 z0_1 xs1_1.2.2.2.2.2.1 (.slice p0_3 (copyL ys0_1 in_ 0 ys0_1.length).length c0_4) (rep_later (hm.ow_rep 7 rfl) hB) b0_3 (hm.blk_later 6 rfl hB) r2_2 b2_2 (hm.blk_later 0 rfl hB) r hq⟩) _ hx2_4)) ?_
         clear hf a; rintro v2_5 w2_8 a ho2_3 hf
         obtain ⟨_, rfl, hB⟩ := ho2_3
         replace hm := hm.give hB; clear hB
         refine st_y hf rfl rfl rfl (y_assign rfl rfl) fun a hf => st_end (x_then_n (wp_seq (wp_region_lit (st_y hf rfl rfl rfl (y_fieldAddr fo_86_0 rfl rfl) fun a hf => st_y hf rfl rfl rfl (y_load1 Tryz.isAgg83 rfl rfl (hm.blk_cell 9 rfl rfl)) fun a hf => ?_))))
         obtain ⟨p2_2, c2_2, he, hl2_2⟩ := ro_slice h1_2
         subst he
         refine st_y hf rfl rfl rfl (y_len_slice st_83.und rfl rfl) fun a hf => st_y hf rfl rfl rfl (y_move rfl rfl) fun a hf => st_end (x_then_n ?_)
         obtain ⟨p2_3, c2_3, he, hl2_3⟩ := ro_slice (hm.ow_rep 4 rfl)
         subst he
         obtain ⟨p2_4, c2_4, he, hl2_4⟩ := ro_slice (hm.ow_rep 5 rfl)
         subst he
         obtain ⟨p2_5, c2_5, he, hl2_5⟩ := ro_slice (hm.ow_rep 0 rfl)
         subst he
         refine wp_block ?_
         obtain ⟨r2_4, hl2_6, hq1_3⟩ := bnd hq1_3
         refine wp_forN _ (fun i3_1 xs3_1 a w => Fr 128 [(0, (.pointer (some ⟨bp0, 0, none⟩))), (3, (.bool (main))), (9, (.pointer (some ⟨b0_2, 0, none⟩))), (10, (.pointer (some ⟨b0_3, 0, none⟩))), (11, (.int .i64 (xs1_1.2.2.2.2.2.2.1))), (13, (.pointer (some ⟨b1_2, 0, none⟩))), (15, (.slice p2_5 r2_3.length c2_5)), (68, (.slice p2_2 x1_1.phis.length c2_2)), (69, (.int .i64 ((x1_1.phis.length : Int)))), (70, (.int .i64 (i3_1)))] a ∧ Mem w0 hz w [blk bp0 [(.slice (some ⟨b0_1, o0_1, none⟩) m.u.codes.length c0_1), (.int .i64 (xs1_1.1)), (.int .i64 (xs1_1.2.1)), (.slice p2_3 xs1_1.2.2.1.length c2_3), (.int .i64 ((xs1_1.2.2.2.1.getD 0 0))), (.int .i64 ((xs1_1.2.2.2.1.getD 1 0))), (.int .i64 ((xs1_1.2.2.2.1.getD 2 0))), (.int .i64 ((xs1_1.2.2.2.1.getD 3 0))), (.int .i64 ((xs1_1.2.2.2.1.getD 4 0))), (.int .i64 ((xs1_1.2.2.2.1.getD 5 0))), (.int .i64 ((xs1_1.2.2.2.1.getD 6 0))), (.int .i64 ((xs1_1.2.2.2.1.getD 7 0))), (.int .i64 ((xs1_1.2.2.2.1.getD 8 0))), (.int .i64 ((xs1_1.2.2.2.1.getD 9 0))), (.int .i64 ((xs1_1.2.2.2.1.getD 10 0))), (.int .i64 ((xs1_1.2.2.2.1.getD 11 0))), (.int .i64 ((xs1_1.2.2.2.1.getD 12 0))), (.int .i64 ((xs1_1.2.2.2.1.getD 13 0))), (.int .i64 ((xs1_1.2.2.2.1.getD 14 0))), (.int .i64 ((xs1_1.2.2.2.1.getD 15 0))), (.slice p2_4 s1_1.length c2_4)] 61, ow [(.slice p2_3 xs1_1.2.2.1.length c2_3)] xs1_1.2.2.1, ow [(.slice p2_4 s1_1.length c2_4)] s1_1, blk b0_2 [(.int .i64 (x0_1.params)), (.int .i64 (x0_1.regs)), (.slice (some ⟨b1_1, o1_1, none⟩) x0_1.blocks.length c1_1)] 69, blk b0_3 [(.slice p0_3 (copyL ys0_1 in_ 0 ys0_1.length).length c0_4)] 25, ow [(.slice p0_3 (copyL ys0_1 in_ 0 ys0_1.length).length c0_4)] xs3_1, blk b1_2 [(.slice p2_2 x1_1.phis.length c2_2), v1_5, (.int .i64 (x1_1.jump)), (.int .i64 (x1_1.on)), v1_6] 86, ow [(.slice p2_5 r2_3.length c2_5)] r2_3]) (0) ((x1_1.phis.length : Int)) hl2_6 ?_ ?_ ?_
         ·
          exact ⟨hf.sub ⟨rfl, rfl, rfl, rfl, rfl, rfl, rfl, rfl, rfl, rfl, trivial⟩, hm.pick [3, 4, 5, 6, 7, 8, 9, 0] (by decide) rfl⟩
         ·
          clear hf hm
          rintro i3_1 xs3_1 a w ⟨hf, hm⟩ hi3_1 hi3_2 q2_1 hb2_1 ho2_4
          refine wp_seq (wp_region_lit (st_y hf rfl rfl rfl (y_lss rfl rfl rfl) fun a hf => st_end (x_then_n (wp_seq (cond_t hf rfl (decide_eq_true (by omega)) (wp_skip (x_then_n ?_)))))))
          refine wp_seq (wp_block (wp_seq (wp_region_lit (st_y hf rfl rfl rfl (y_move rfl rfl) fun a hf => ?_))))
          obtain ⟨x3_1, hx3_1, hb2_1⟩ := bnd hb2_1
          obtain ⟨h3_1, hx3_2⟩ := getI_some.1 hx3_1
          obtain ⟨b3_1, o3_1, c3_1, he⟩ := idx_form' h1_2 hx3_2
          simp only [Value.slice.injEq, Option.some.injEq] at he; obtain ⟨rfl, _, rfl⟩ := he
          obtain ⟨_, _, hc3_1, hr3_1⟩ := ro_get' h1_2 hx3_2
          obtain ⟨_, _, rfl, rfl, h3_2⟩ := hr3_1
          obtain ⟨v3_1, rfl, -⟩ := id h3_2
          replace h3_2 : GT.rep hz [v3_1] x3_1.args := h3_2
          replace hc3_1 : CellsAt hz b3_1 (o3_1 + (i3_1).toNat * 2) [(.int .i64 (x3_1.to)), v3_1] := hc3_1
          refine st_y hf rfl rfl rfl (y_indexAddr st_83 rfl rfl rfl h3_1 (idx_lt hx3_2)) fun a hf => st_y hf rfl rfl rfl (y_loadN (cs := [(.int .i64 (x3_1.to)), v3_1]) Tryz.isAgg102 Tryz.sizeOf102 rfl rfl (hc3_1.mono hm.lez)) fun a hf => st_ef hf rfl rfl rfl (e_alloc hm Tryz.zeroValue102 rfl rfl) ?_
          clear hf a; rintro _ w3_1 a ⟨b3_2, rfl, hm⟩ hf
          refine st_y hf rfl rfl rfl (y_assign rfl rfl) fun a hf => st_ef0 hf rfl rfl (e_storeN 0 hf hm rfl Tryz.sizeOf102 rfl rfl rfl (one_cons rfl (one_cons (rep_one h3_2) one_nil)) rfl rfl) ?_
          clear hf a; rintro _ w3_2 a hm hf
          refine st_end (x_then_n ?_)
          refine wp_treeX (.p 1 (.p 3 (.p 4 (.p 5 (.q 0 (.q 2 (.e 6 (.p 7 (.e 8 .fin .nil)) .nil))))))) [0, 2, 6] [1, 3, 4, 5, 7] (fun w => Mem w0 hz w [blk b3_2 [(.int .i64 (x3_1.to)), v3_1] 102, blk bp0 [(.slice (some ⟨b0_1, o0_1, none⟩) m.u.codes.length c0_1), (.int .i64 (xs1_1.1)), (.int .i64 (xs1_1.2.1)), (.slice p2_3 xs1_1.2.2.1.length c2_3), (.int .i64 ((xs1_1.2.2.2.1.getD 0 0))), (.int .i64 ((xs1_1.2.2.2.1.getD 1 0))), (.int .i64 ((xs1_1.2.2.2.1.getD 2 0))), (.int .i64 ((xs1_1.2.2.2.1.getD 3 0))), (.int .i64 ((xs1_1.2.2.2.1.getD 4 0))), (.int .i64 ((xs1_1.2.2.2.1.getD 5 0))), (.int .i64 ((xs1_1.2.2.2.1.getD 6 0))), (.int .i64 ((xs1_1.2.2.2.1.getD 7 0))), (.int .i64 ((xs1_1.2.2.2.1.getD 8 0))), (.int .i64 ((xs1_1.2.2.2.1.getD 9 0))), (.int .i64 ((xs1_1.2.2.2.1.getD 10 0))), (.int .i64 ((xs1_1.2.2.2.1.getD 11 0))), (.int .i64 ((xs1_1.2.2.2.1.getD 12 0))), (.int .i64 ((xs1_1.2.2.2.1.getD 13 0))), (.int .i64 ((xs1_1.2.2.2.1.getD 14 0))), (.int .i64 ((xs1_1.2.2.2.1.getD 15 0))), (.slice p2_4 s1_1.length c2_4)] 61, ow [(.slice p2_3 xs1_1.2.2.1.length c2_3)] xs1_1.2.2.1, ow [(.slice p2_4 s1_1.length c2_4)] s1_1, blk b0_2 [(.int .i64 (x0_1.params)), (.int .i64 (x0_1.regs)), (.slice (some ⟨b1_1, o1_1, none⟩) x0_1.blocks.length c1_1)] 69, blk b0_3 [(.slice p0_3 (copyL ys0_1 in_ 0 ys0_1.length).length c0_4)] 25, ow [(.slice p0_3 (copyL ys0_1 in_ 0 ys0_1.length).length c0_4)] xs3_1, blk b1_2 [(.slice (some ⟨b3_1, o3_1, none⟩) x1_1.phis.length c2_2), v1_5, (.int .i64 (x1_1.jump)), (.int .i64 (x1_1.on)), v1_6] 86, ow [(.slice p2_5 r2_3.length c2_5)] r2_3]) (by kernel_rfl) (by kernel_rfl) (fun _ _ _ _ e h => And.intro (e.symm.trans h.1) h.2) ?_
          replace hm := hm.drew
          have hS : Mem w0 hz _ [blk b3_2 [(.int .i64 (x3_1.to)), v3_1] 102, blk bp0 [(.slice (some ⟨b0_1, o0_1, none⟩) m.u.codes.length c0_1), (.int .i64 (xs1_1.1)), (.int .i64 (xs1_1.2.1)), (.slice p2_3 xs1_1.2.2.1.length c2_3), (.int .i64 ((xs1_1.2.2.2.1.getD 0 0))), (.int .i64 ((xs1_1.2.2.2.1.getD 1 0))), (.int .i64 ((xs1_1.2.2.2.1.getD 2 0))), (.int .i64 ((xs1_1.2.2.2.1.getD 3 0))), (.int .i64 ((xs1_1.2.2.2.1.getD 4 0))), (.int .i64 ((xs1_1.2.2.2.1.getD 5 0))), (.int .i64 ((xs1_1.2.2.2.1.getD 6 0))), (.int .i64 ((xs1_1.2.2.2.1.getD 7 0))), (.int .i64 ((xs1_1.2.2.2.1.getD 8 0))), (.int .i64 ((xs1_1.2.2.2.1.getD 9 0))), (.int .i64 ((xs1_1.2.2.2.1.getD 10 0))), (.int .i64 ((xs1_1.2.2.2.1.getD 11 0))), (.int .i64 ((xs1_1.2.2.2.1.getD 12 0))), (.int .i64 ((xs1_1.2.2.2.1.getD 13 0))), (.int .i64 ((xs1_1.2.2.2.1.getD 14 0))), (.int .i64 ((xs1_1.2.2.2.1.getD 15 0))), (.slice p2_4 s1_1.length c2_4)] 61, ow [(.slice p2_3 xs1_1.2.2.1.length c2_3)] xs1_1.2.2.1, ow [(.slice p2_4 s1_1.length c2_4)] s1_1, blk b0_2 [(.int .i64 (x0_1.params)), (.int .i64 (x0_1.regs)), (.slice (some ⟨b1_1, o1_1, none⟩) x0_1.blocks.length c1_1)] 69, blk b0_3 [(.slice p0_3 (copyL ys0_1 in_ 0 ys0_1.length).length c0_4)] 25, ow [(.slice p0_3 (copyL ys0_1 in_ 0 ys0_1.length).length c0_4)] xs3_1, blk b1_2 [(.slice (some ⟨b3_1, o3_1, none⟩) x1_1.phis.length c2_2), v1_5, (.int .i64 (x1_1.jump)), (.int .i64 (x1_1.on)), v1_6] 86, ow [(.slice p2_5 r2_3.length c2_5)] r2_3] := hm.pick [0, 1, 2, 3, 4, 5, 6, 7, 8] (by decide) rfl
          refine td_p hf rfl rfl rfl rfl (fun w => y_fieldAddr fo_102_0 rfl rfl) fun a hf => td_p hf rfl rfl rfl rfl (fun w => y_move rfl rfl) fun a hf => td_p hf rfl rfl rfl rfl (fun w => y_move rfl rfl) fun a hf => ?_
          obtain ⟨x3_2, hx3_3, hb2_1⟩ := bnd hb2_1
          obtain ⟨h3_3, hx3_4⟩ := getI_some.1 hx3_3
          obtain ⟨b3_3, o3_2, c3_2, he⟩ := idx_form (hm.ow_rep 8 rfl) hx3_4
          simp only [Value.slice.injEq, Option.some.injEq] at he; obtain ⟨rfl, _, rfl⟩ := he
          refine td_p hf rfl rfl rfl rfl (fun w => y_indexAddr st_25 rfl rfl rfl h3_3 (idx_lt hx3_4)) fun a hf => td_y hf rfl rfl rfl rfl hS (fun w hm => y_load1 Tryz.isAgg25 rfl rfl (hm.blk_cell 5 rfl rfl)) fun a hf => td_y hf rfl rfl rfl rfl hS (fun w hm => y_load1 Tryz.isAgg3 rfl rfl (hm.blk_cell 0 rfl rfl)) fun a hf => te_one (td_ef hf rfl rfl rfl rfl (ef_y hf (y_load1 Tryz.isAgg3 rfl rfl ((flat_cells (cs := [(.int .i64 (x3_2))]) (hm.ow_rep 8 rfl) hx3_4 rfl).cell (j := 0) rfl))) ?_)
          clear hf a; rintro _ _ a ⟨rfl, rfl⟩ hf
          refine ⟨fun _ => hS, ?_⟩
          obtain ⟨x3_3, hx3_5, hb2_1⟩ := bnd hb2_1
          obtain ⟨h3_4, hx3_6⟩ := getI_some.1 hx3_5
          obtain ⟨b3_4, o3_3, c3_3, he⟩ := idx_form (hm.ow_rep 6 rfl) hx3_6
          simp only [Value.slice.injEq, Option.some.injEq] at he; obtain ⟨rfl, _, rfl⟩ := he
          have hL3_1 := rep_slice_len (hm.ow_rep 6 rfl)
          refine td_p hf rfl rfl rfl rfl (fun w => y_indexAddr st_25 rfl rfl rfl h3_4 (idx_lt2 hx3_6 hL3_1)) fun a hf => te_one (td_ef0 hf rfl rfl rfl (e_setElem (x1 := x3_2) (j := 0) (vs := [(.int .i64 (x3_2))]) 6 hf hm rfl hx3_6 rfl Tryz.sizeOf3 rfl rfl rfl (one_cons rfl one_nil) rfl rfl) ?_)
          clear hf a; rintro _ w3_3 a hm hf
          have hx3_7 := List.getElem?_set_self (a := x3_2) (idx_lt hx3_6)
          refine ⟨fun h => absurd h (by decide), ?_⟩
          clear hS; refine td_end ?_
          refine x_blk_n (x_then_n (wp_region_lit (st_y hf rfl rfl rfl (y_add64 rfl rfl rfl (by omega) (by omega)) fun a hf => st_y hf rfl rfl rfl (y_move rfl rfl) fun a hf => st_end (x_then_n ?_))))
          obtain rfl := Option.some.inj hb2_1
          exact ⟨_, rfl, hf.sub ⟨rfl, rfl, rfl, rfl, rfl, rfl, rfl, rfl, rfl, rfl, trivial⟩, hm.pick [1, 2, 3, 4, 5, 6, 7, 8] (by decide) rfl⟩
         ·
          clear hf hm
          rintro i2_1 xs2_1 a w ⟨hf, hm⟩ hi2_1 hi2_2 rfl
          replace hq1_3 := sum_l hq1_3
          refine wp_seq (wp_region_lit (st_y hf rfl rfl rfl (y_lss rfl rfl rfl) fun a hf => st_end (x_then_n (wp_seq (cond_f hf rfl (decide_eq_false (by omega)) (wp_exit (x_then_exit ?_)))))))
          refine x_then_exit (x_blk_hit (x_then_n ?_))
          obtain rfl := Option.some.inj hq1_3
          exact ⟨hf.sub ⟨rfl, rfl, rfl, rfl, rfl, rfl, trivial⟩, hm.pick [0, 1, 2, 3, 4, 5, 6] (by decide) rfl⟩
        ·
         replace hq1_3 := (ite_f h2_6).symm.trans hq1_3
         refine cond_f hf rfl h2_6 (wp_skip (x_then_n ?_))
         obtain rfl := Option.some.inj hq1_3
         exact ⟨hf.sub ⟨rfl, rfl, rfl, rfl, rfl, rfl, trivial⟩, hm.pick [0, 1, 2, 3, 4, 5, 6] (by decide) rfl⟩
       ·
        clear hf hm
        rintro a w ⟨hf, hm⟩
        refine x_then_n (wp_seq (wp_seq (wp_region_lit (st_y hf rfl rfl rfl (y_fieldAddr fo_86_1 rfl rfl) fun a hf => st_y hf rfl rfl rfl (y_load1 Tryz.isAgg84 rfl rfl (hm.blk_cell 6 rfl rfl)) fun a hf => ?_))))
        obtain ⟨p1_1, c1_2, he, hl1_1⟩ := ro_slice h1_3
        subst he
        refine st_y hf rfl rfl rfl (y_len_slice st_84.und rfl rfl) fun a hf => st_y hf rfl rfl rfl (y_move rfl rfl) fun a hf => st_end (x_then_n ?_)
        obtain ⟨p1_2, c1_3, he, hl1_2⟩ := ro_slice (hm.ow_rep 1 rfl)
        subst he
        obtain ⟨p1_3, c1_4, he, hl1_3⟩ := ro_slice (hm.ow_rep 2 rfl)
        subst he
        refine wp_block ?_
        obtain ⟨r1_1, hl1_4, hb0_1⟩ := bnd hb0_1
        refine wp_forN _ (fun i2_2 xs2_2 a w => ∃ (v2_7 : Value) (v2_8 : Value), Fr 128 [(0, (.pointer (some ⟨bp0, 0, none⟩))), (3, (.bool (main))), (9, (.pointer (some ⟨b0_2, 0, none⟩))), (10, (.pointer (some ⟨b0_3, 0, none⟩))), (11, (.int .i64 (xs1_1.2.2.2.2.2.2.1))), (13, (.pointer (some ⟨b1_2, 0, none⟩))), (85, (.slice p1_1 x1_1.ins.length c1_2)), (86, (.int .i64 ((x1_1.ins.length : Int)))), (87, (.int .i64 (i2_2)))] a ∧ Mem w0 hz w [blk bp0 [(.slice (some ⟨b0_1, o0_1, none⟩) m.u.codes.length c0_1), (.int .i64 (xs2_2.1)), (.int .i64 (xs2_2.2.1)), v2_7, (.int .i64 ((xs2_2.2.2.2.1.getD 0 0))), (.int .i64 ((xs2_2.2.2.2.1.getD 1 0))), (.int .i64 ((xs2_2.2.2.2.1.getD 2 0))), (.int .i64 ((xs2_2.2.2.2.1.getD 3 0))), (.int .i64 ((xs2_2.2.2.2.1.getD 4 0))), (.int .i64 ((xs2_2.2.2.2.1.getD 5 0))), (.int .i64 ((xs2_2.2.2.2.1.getD 6 0))), (.int .i64 ((xs2_2.2.2.2.1.getD 7 0))), (.int .i64 ((xs2_2.2.2.2.1.getD 8 0))), (.int .i64 ((xs2_2.2.2.2.1.getD 9 0))), (.int .i64 ((xs2_2.2.2.2.1.getD 10 0))), (.int .i64 ((xs2_2.2.2.2.1.getD 11 0))), (.int .i64 ((xs2_2.2.2.2.1.getD 12 0))), (.int .i64 ((xs2_2.2.2.2.1.getD 13 0))), (.int .i64 ((xs2_2.2.2.2.1.getD 14 0))), (.int .i64 ((xs2_2.2.2.2.1.getD 15 0))), v2_8] 61, ow [v2_7] xs2_2.2.2.1, ow [v2_8] xs2_2.2.2.2.2.1, blk b0_2 [(.int .i64 (x0_1.params)), (.int .i64 (x0_1.regs)), (.slice (some ⟨b1_1, o1_1, none⟩) x0_1.blocks.length c1_1)] 69, blk b0_3 [(.slice p0_3 (copyL ys0_1 in_ 0 ys0_1.length).length c0_4)] 25, ow [(.slice p0_3 (copyL ys0_1 in_ 0 ys0_1.length).length c0_4)] xs2_2.2.2.2.2.2, blk b1_2 [v1_4, (.slice p1_1 x1_1.ins.length c1_2), (.int .i64 (x1_1.jump)), (.int .i64 (x1_1.on)), v1_6] 86]) (0) ((x1_1.ins.length : Int)) hl1_4 ?_ ?_ ?_
        ·
         exact ⟨(.slice p1_2 xs1_1.2.2.1.length c1_3), (.slice p1_3 s1_1.length c1_4), hf.sub ⟨rfl, rfl, rfl, rfl, rfl, rfl, rfl, rfl, rfl, trivial⟩, hm.pick [0, 1, 2, 3, 4, 5, 6] (by decide) rfl⟩
        ·
         clear hf hm
         rintro i2_2 xs2_2 a w ⟨v2_7, v2_8, hf, hm⟩ hi2_3 hi2_4 q1_1 hb1_1 ho1_1
         refine wp_seq (wp_region_lit (st_y hf rfl rfl rfl (y_lss rfl rfl rfl) fun a hf => st_end (x_then_n (wp_seq (cond_t hf rfl (decide_eq_true (by omega)) (wp_skip (x_then_n ?_)))))))
         refine wp_seq (wp_block (wp_seq (wp_region_lit ?_)))
         obtain ⟨x2_1, hx2_5, hb1_1⟩ := bnd hb1_1
         obtain ⟨h2_7, hx2_6⟩ := getI_some.1 hx2_5
         obtain ⟨b2_3, o2_1, c2_6, he⟩ := idx_form' h1_3 hx2_6
         simp only [Value.slice.injEq, Option.some.injEq] at he; obtain ⟨rfl, _, rfl⟩ := he
         obtain ⟨_, _, hc2_1, hr2_1⟩ := ro_get' h1_3 hx2_6
         obtain ⟨_, _, rfl, rfl, _, _, rfl, rfl, _, _, rfl, h2_8, rfl⟩ := hr2_1
         obtain ⟨v2_9, rfl, -⟩ := id h2_8
         replace h2_8 : GT.rep hz [v2_9] x2_1.args := h2_8
         replace hc2_1 : CellsAt hz b2_3 (o2_1 + (i2_2).toNat * 4) [(.int .i64 (x2_1.op)), (.int .i64 (x2_1.to)), v2_9, (.int .i64 (x2_1.n_))] := hc2_1
         refine st_y hf rfl rfl rfl (y_indexAddr st_84 rfl rfl rfl h2_7 (idx_lt hx2_6)) fun a hf => st_y hf rfl rfl rfl (y_loadN (cs := [(.int .i64 (x2_1.op)), (.int .i64 (x2_1.to)), v2_9, (.int .i64 (x2_1.n_))]) Tryz.isAgg91 Tryz.sizeOf91 rfl rfl (hc2_1.mono hm.lez)) fun a hf => st_ef hf rfl rfl rfl (e_alloc hm Tryz.zeroValue91 rfl rfl) ?_
         clear hf a; rintro _ w2_9 a ⟨b2_4, rfl, hm⟩ hf
         refine st_ef0 hf rfl rfl (e_storeN 0 hf hm rfl Tryz.sizeOf91 rfl rfl rfl (one_cons rfl (one_cons rfl (one_cons (rep_one h2_8) (one_cons rfl one_nil)))) rfl rfl) ?_
         clear hf a; rintro _ w2_10 a hm hf
         refine st_end (x_then_n (wp_region_lit (st_y hf rfl rfl rfl (y_move rfl rfl) fun a hf => st_y hf rfl rfl rfl (y_loadN (cs := [(.int .i64 (x2_1.op)), (.int .i64 (x2_1.to)), v2_9, (.int .i64 (x2_1.n_))]) Tryz.isAgg91 Tryz.sizeOf91 rfl rfl (hm.blk_at 0 rfl)) fun a hf => st_y hf rfl rfl rfl (y_load1 Tryz.isAgg25 rfl rfl (hm.blk_cell 5 rfl rfl)) fun a hf => ?_)))
         obtain ⟨r2_5, hx2_7, hb1_1⟩ := bnd hb1_1
         obtain ⟨hz2_3, hle, hm1, hsub, hk2_1⟩ := hm.take2 (L1 := [blk bp0 [(.slice (some ⟨b0_1, o0_1, none⟩) m.u.codes.length c0_1), (.int .i64 (xs2_2.1)), (.int .i64 (xs2_2.2.1)), v2_7, (.int .i64 ((xs2_2.2.2.2.1.getD 0 0))), (.int .i64 ((xs2_2.2.2.2.1.getD 1 0))), (.int .i64 ((xs2_2.2.2.2.1.getD 2 0))), (.int .i64 ((xs2_2.2.2.2.1.getD 3 0))), (.int .i64 ((xs2_2.2.2.2.1.getD 4 0))), (.int .i64 ((xs2_2.2.2.2.1.getD 5 0))), (.int .i64 ((xs2_2.2.2.2.1.getD 6 0))), (.int .i64 ((xs2_2.2.2.2.1.getD 7 0))), (.int .i64 ((xs2_2.2.2.2.1.getD 8 0))), (.int .i64 ((xs2_2.2.2.2.1.getD 9 0))), (.int .i64 ((xs2_2.2.2.2.1.getD 10 0))), (.int .i64 ((xs2_2.2.2.2.1.getD 11 0))), (.int .i64 ((xs2_2.2.2.2.1.getD 12 0))), (.int .i64 ((xs2_2.2.2.2.1.getD 13 0))), (.int .i64 ((xs2_2.2.2.2.1.getD 14 0))), (.int .i64 ((xs2_2.2.2.2.1.getD 15 0))), v2_8] 61, ow [v2_7] xs2_2.2.2.1, ow [v2_8] xs2_2.2.2.2.2.1, ow [(.slice p0_3 (copyL ys0_1 in_ 0 ys0_1.length).length c0_4)] xs2_2.2.2.2.2.2]) (L2 := [blk b2_4 [(.int .i64 (x2_1.op)), (.int .i64 (x2_1.to)), v2_9, (.int .i64 (x2_1.n_))] 91, blk b0_2 [(.int .i64 (x0_1.params)), (.int .i64 (x0_1.regs)), (.slice (some ⟨b1_1, o1_1, none⟩) x0_1.blocks.length c1_1)] 69, blk b0_3 [(.slice p0_3 (copyL ys0_1 in_ 0 ys0_1.length).length c0_4)] 25, blk b1_2 [v1_4, (.slice (some ⟨b2_3, o2_1, none⟩) x1_1.ins.length c1_2), (.int .i64 (x1_1.jump)), (.int .i64 (x1_1.on)), v1_6] 86]) [1, 2, 3, 6] [0, 4, 5, 7] (by decide) rfl rfl
         refine st_efx hf rfl rfl rfl (e_callx hf rfl Tryz.call68 rfl (pimpl_running__doIns_rec _ hz2_3 (⟨m.u, xs2_2.1, xs2_2.2.1, xs2_2.2.2.1, xs2_2.2.2.2.1, xs2_2.2.2.2.2.1⟩ : running) bp0 (.slice (some ⟨b0_1, o0_1, none⟩) m.u.codes.length c0_1) (GT.mono hle h1p) v2_7 v2_8 x2_1 v2_9 (GT.mono hle h2_8) xs2_2.2.2.2.2.2 (.slice p0_3 (copyL ys0_1 in_ 0 ys0_1.length).length c0_4) hm1  _ hx2_7)) ?_ ?_
         ·
          rintro c w2_11 ⟨q2_3, rfl, ho2_5⟩
          replace hb1_1 := sum_r hb1_1
          obtain ⟨v2_10, v2_11, rfl, hB⟩ := ho2_5
          replace hm := hk2_1 _ _ hB; clear hB
          obtain rfl := Option.some.inj hb1_1
          obtain rfl := ho1_1 _ rfl
          replace hb0_1 := sum_r hb0_1
          obtain rfl := Option.some.inj hb0_1
          obtain rfl := ho0_1 _ rfl
          obtain rfl := Option.some.inj hq
          refine And.intro hf.defers (rx_intro ?_)
          exact ⟨_, rfl, v2_10, v2_11, rfl, hm.pick [0, 1, 2] (by decide) rfl⟩
         clear hf a; rintro v2_12 w2_12 a ⟨q2_2, rfl, ho2_5⟩ hf
         replace hb1_1 := sum_l hb1_1
         obtain ⟨v2_13, v2_14, rfl, hB⟩ := ho2_5
         replace hm := hk2_1 _ _ hB; clear hB
         refine st_end (x_blk_n (x_then_n (wp_region_lit (st_y hf rfl rfl rfl (y_add64 rfl rfl rfl (by omega) (by omega)) fun a hf => st_y hf rfl rfl rfl (y_move rfl rfl) fun a hf => st_end (x_then_n ?_)))))
         obtain rfl := Option.some.inj hb1_1
         exact ⟨_, rfl, v2_13, v2_14, hf.sub ⟨rfl, rfl, rfl, rfl, rfl, rfl, rfl, rfl, rfl, trivial⟩, hm.pick [0, 1, 2, 5, 6, 3, 7] (by decide) rfl⟩
        ·
         clear hf hm
         rintro i1_2 xs1_2 a w ⟨v1_7, v1_8, hf, hm⟩ hi1_1 hi1_2 rfl
         replace hb0_1 := sum_l hb0_1
         refine wp_seq (wp_region_lit (st_y hf rfl rfl rfl (y_lss rfl rfl rfl) fun a hf => st_end (x_then_n (wp_seq (cond_f hf rfl (decide_eq_false (by omega)) (wp_exit (x_then_exit ?_)))))))
         refine x_then_exit (x_blk_hit (x_then_n (wp_seq (wp_region_lit (st_y hf rfl rfl rfl (y_move rfl rfl) fun a hf => ?_)))))
         obtain ⟨r1_2, hx1_3, hb0_1⟩ := bnd hb0_1
         obtain ⟨hz1_1, hle, hm1, hsub, hk1_1⟩ := hm.take2 (L1 := [blk bp0 [(.slice (some ⟨b0_1, o0_1, none⟩) m.u.codes.length c0_1), (.int .i64 (xs1_2.1)), (.int .i64 (xs1_2.2.1)), v1_7, (.int .i64 ((xs1_2.2.2.2.1.getD 0 0))), (.int .i64 ((xs1_2.2.2.2.1.getD 1 0))), (.int .i64 ((xs1_2.2.2.2.1.getD 2 0))), (.int .i64 ((xs1_2.2.2.2.1.getD 3 0))), (.int .i64 ((xs1_2.2.2.2.1.getD 4 0))), (.int .i64 ((xs1_2.2.2.2.1.getD 5 0))), (.int .i64 ((xs1_2.2.2.2.1.getD 6 0))), (.int .i64 ((xs1_2.2.2.2.1.getD 7 0))), (.int .i64 ((xs1_2.2.2.2.1.getD 8 0))), (.int .i64 ((xs1_2.2.2.2.1.getD 9 0))), (.int .i64 ((xs1_2.2.2.2.1.getD 10 0))), (.int .i64 ((xs1_2.2.2.2.1.getD 11 0))), (.int .i64 ((xs1_2.2.2.2.1.getD 12 0))), (.int .i64 ((xs1_2.2.2.2.1.getD 13 0))), (.int .i64 ((xs1_2.2.2.2.1.getD 14 0))), (.int .i64 ((xs1_2.2.2.2.1.getD 15 0))), v1_8] 61, ow [v1_7] xs1_2.2.2.1, ow [v1_8] xs1_2.2.2.2.2.1]) (L2 := [blk b0_2 [(.int .i64 (x0_1.params)), (.int .i64 (x0_1.regs)), (.slice (some ⟨b1_1, o1_1, none⟩) x0_1.blocks.length c1_1)] 69, blk b0_3 [(.slice p0_3 (copyL ys0_1 in_ 0 ys0_1.length).length c0_4)] 25, ow [(.slice p0_3 (copyL ys0_1 in_ 0 ys0_1.length).length c0_4)] xs1_2.2.2.2.2.2, blk b1_2 [v1_4, (.slice p1_1 x1_1.ins.length c1_2), (.int .i64 (x1_1.jump)), (.int .i64 (x1_1.on)), v1_6] 86]) [0, 1, 2] [3, 4, 5, 6] (by decide) rfl rfl
         refine st_efx hf rfl rfl rfl (e_callx hf rfl Tryz.call69 rfl (pimpl_running__tick_ok _ hz1_1 (⟨m.u, xs1_2.1, xs1_2.2.1, xs1_2.2.2.1, xs1_2.2.2.2.1, xs1_2.2.2.2.2.1⟩ : running) bp0 (.slice (some ⟨b0_1, o0_1, none⟩) m.u.codes.length c0_1) (GT.mono hle h1p) v1_7 v1_8 hm1  _ hx1_3)) ?_ ?_
         ·
          rintro c w1_3 ⟨q1_3, rfl, ho1_2⟩
          replace hb0_1 := sum_r hb0_1
          obtain ⟨v1_9, v1_10, rfl, hB⟩ := ho1_2
          replace hm := hk1_1 _ _ hB; clear hB
          obtain rfl := Option.some.inj hb0_1
          obtain rfl := ho0_1 _ rfl
          obtain rfl := Option.some.inj hq
          refine And.intro hf.defers (rx_intro ?_)
          exact ⟨_, rfl, v1_9, v1_10, rfl, hm.pick [0, 1, 2] (by decide) rfl⟩
         clear hf a; rintro v1_11 w1_4 a ⟨q1_2, rfl, ho1_2⟩ hf
         replace hb0_1 := sum_l hb0_1
         obtain ⟨v1_12, v1_13, rfl, hB⟩ := ho1_2
         replace hm := hk1_1 _ _ hB; clear hB
         refine st_end (x_then_n (wp_seq (wp_region_lit (st_y hf rfl rfl rfl (y_move rfl rfl) fun a hf => st_y hf rfl rfl rfl (y_assign rfl rfl) fun a hf => st_end (x_then_n ?_)))))
         obtain ⟨c1_5, hq1_4, hb0_1⟩ := bnd hb0_1
         refine code_cut (K := fun a w => ∃ s1_4, c1_5 = .inl s1_4 ∧ Fr 128 [(0, (.pointer (some ⟨bp0, 0, none⟩))), (3, (.bool (main))), (9, (.pointer (some ⟨b0_2, 0, none⟩))), (10, (.pointer (some ⟨b0_3, 0, none⟩))), (11, (.int .i64 (s1_4))), (12, (.int .i64 (xs1_1.2.2.2.2.2.2.1)))] a ∧ Mem w0 hz w [blk bp0 [(.slice (some ⟨b0_1, o0_1, none⟩) m.u.codes.length c0_1), (.int .i64 (q1_2.steps)), (.int .i64 (q1_2.used)), v1_12, (.int .i64 ((q1_2.cells.getD 0 0))), (.int .i64 ((q1_2.cells.getD 1 0))), (.int .i64 ((q1_2.cells.getD 2 0))), (.int .i64 ((q1_2.cells.getD 3 0))), (.int .i64 ((q1_2.cells.getD 4 0))), (.int .i64 ((q1_2.cells.getD 5 0))), (.int .i64 ((q1_2.cells.getD 6 0))), (.int .i64 ((q1_2.cells.getD 7 0))), (.int .i64 ((q1_2.cells.getD 8 0))), (.int .i64 ((q1_2.cells.getD 9 0))), (.int .i64 ((q1_2.cells.getD 10 0))), (.int .i64 ((q1_2.cells.getD 11 0))), (.int .i64 ((q1_2.cells.getD 12 0))), (.int .i64 ((q1_2.cells.getD 13 0))), (.int .i64 ((q1_2.cells.getD 14 0))), (.int .i64 ((q1_2.cells.getD 15 0))), v1_13] 61, ow [v1_12] q1_2.said, ow [v1_13] q1_2.trace, blk b0_2 [(.int .i64 (x0_1.params)), (.int .i64 (x0_1.regs)), (.slice (some ⟨b1_1, o1_1, none⟩) x0_1.blocks.length c1_1)] 69, blk b0_3 [(.slice p0_3 (copyL ys0_1 in_ 0 ys0_1.length).length c0_4)] 25, ow [(.slice p0_3 (copyL ys0_1 in_ 0 ys0_1.length).length c0_4)] xs1_2.2.2.2.2.2]) ?_ ?_
         ·
          refine wp_block (wp_seq (wp_region_lit (st_y hf rfl rfl rfl (y_fieldAddr fo_86_2 rfl rfl) fun a hf => st_y hf rfl rfl rfl (y_load1 Tryz.isAgg3 rfl rfl (hm.blk_cell 6 rfl rfl)) fun a hf => st_y hf rfl rfl rfl (y_eql rfl rfl rfl) fun a hf => st_y hf rfl rfl rfl (y_assign rfl rfl) fun a hf => st_end (x_then_n ?_))))
          rcases bcases (decide (x1_1.jump = 3)) with h2_9 | h2_9
          ·
           replace hq1_4 := (ite_t h2_9).symm.trans hq1_4
           have h2_10 := of_decide_eq_true h2_9
           refine cond_t hf rfl h2_9 (wp_seq (wp_region_lit (st_y hf rfl rfl rfl (y_load1 Tryz.isAgg25 rfl rfl (hm.blk_cell 4 rfl rfl)) fun a hf => st_y hf rfl rfl rfl (y_fieldAddr fo_86_3 rfl rfl) fun a hf => st_y hf rfl rfl rfl (y_load1 Tryz.isAgg3 rfl rfl (hm.blk_cell 6 rfl rfl)) fun a hf => ?_)))
           obtain ⟨x2_2, hx2_8, hq1_4⟩ := bnd hq1_4
           obtain ⟨h2_11, hx2_9⟩ := getI_some.1 hx2_8
           obtain ⟨b2_5, o2_2, c2_7, he⟩ := idx_form (hm.ow_rep 5 rfl) hx2_9
           simp only [Value.slice.injEq, Option.some.injEq] at he; obtain ⟨rfl, _, rfl⟩ := he
           have hL2_1 := rep_slice_len (hm.ow_rep 5 rfl)
           refine st_y hf rfl rfl rfl (y_indexAddr st_25 rfl rfl rfl h2_11 (idx_lt2 hx2_9 hL2_1)) fun a hf => st_y hf rfl rfl rfl (y_load1 Tryz.isAgg3 rfl rfl ((flat_cells (cs := [(.int .i64 (x2_2))]) (hm.ow_rep 5 rfl) hx2_9 rfl).cell (j := 0) rfl)) fun a hf => st_y hf rfl rfl rfl (y_assign rfl rfl) fun a hf => st_end (x_then_n (wp_ret (x_blk_ret (x_then_ret (x_blk_ret ?_)))))
           refine x_then_ret (x_blk_ret ?_)
           obtain rfl := Option.some.inj hq1_4
           replace hb0_1 := sum_r hb0_1
           obtain rfl := Option.some.inj hb0_1
           obtain rfl := ho0_1 _ rfl
           obtain rfl := Option.some.inj hq
           refine ret_x (ret_tmp hf Tryz.results48 rfl ?_)
           exact ⟨_, rfl, ⟨v1_12, v1_13, rfl, hm.pick [0, 1, 2] (by decide) rfl⟩⟩
          ·
           replace hq1_4 := (ite_f h2_9).symm.trans hq1_4
           have h2_12 := of_decide_eq_false h2_9
           refine cond_f hf rfl h2_9 (wp_seq ?_)
           obtain ⟨s2_1, hq2_1, hq1_4⟩ := bnd hq1_4
           refine code_cut (K := fun a w => Fr 128 [(0, (.pointer (some ⟨bp0, 0, none⟩))), (3, (.bool (main))), (9, (.pointer (some ⟨b0_2, 0, none⟩))), (10, (.pointer (some ⟨b0_3, 0, none⟩))), (12, (.int .i64 (xs1_1.2.2.2.2.2.2.1))), (13, (.pointer (some ⟨b1_2, 0, none⟩))), (112, (.bool (s2_1)))] a ∧ Mem w0 hz w [blk bp0 [(.slice (some ⟨b0_1, o0_1, none⟩) m.u.codes.length c0_1), (.int .i64 (q1_2.steps)), (.int .i64 (q1_2.used)), v1_12, (.int .i64 ((q1_2.cells.getD 0 0))), (.int .i64 ((q1_2.cells.getD 1 0))), (.int .i64 ((q1_2.cells.getD 2 0))), (.int .i64 ((q1_2.cells.getD 3 0))), (.int .i64 ((q1_2.cells.getD 4 0))), (.int .i64 ((q1_2.cells.getD 5 0))), (.int .i64 ((q1_2.cells.getD 6 0))), (.int .i64 ((q1_2.cells.getD 7 0))), (.int .i64 ((q1_2.cells.getD 8 0))), (.int .i64 ((q1_2.cells.getD 9 0))), (.int .i64 ((q1_2.cells.getD 10 0))), (.int .i64 ((q1_2.cells.getD 11 0))), (.int .i64 ((q1_2.cells.getD 12 0))), (.int .i64 ((q1_2.cells.getD 13 0))), (.int .i64 ((q1_2.cells.getD 14 0))), (.int .i64 ((q1_2.cells.getD 15 0))), v1_13] 61, ow [v1_12] q1_2.said, ow [v1_13] q1_2.trace, blk b0_2 [(.int .i64 (x0_1.params)), (.int .i64 (x0_1.regs)), (.slice (some ⟨b1_1, o1_1, none⟩) x0_1.blocks.length c1_1)] 69, blk b0_3 [(.slice p0_3 (copyL ys0_1 in_ 0 ys0_1.length).length c0_4)] 25, ow [(.slice p0_3 (copyL ys0_1 in_ 0 ys0_1.length).length c0_4)] xs1_2.2.2.2.2.2, blk b1_2 [v1_4, (.slice p1_1 x1_1.ins.length c1_2), (.int .i64 (x1_1.jump)), (.int .i64 (x1_1.on)), v1_6] 86]) ?_ ?_
           ·
            refine wp_region_lit (st_y hf rfl rfl rfl (y_fieldAddr fo_86_2 rfl rfl) fun a hf => st_y hf rfl rfl rfl (y_load1 Tryz.isAgg3 rfl rfl (hm.blk_cell 6 rfl rfl)) fun a hf => st_y hf rfl rfl rfl (y_eql rfl rfl rfl) fun a hf => st_y hf rfl rfl rfl (y_move rfl rfl) fun a hf => ?_)
            rcases bcases (decide (x1_1.jump = 2)) with h3_5 | h3_5
            ·
             replace hq2_1 := (ite_t h3_5).symm.trans hq2_1
             have h3_6 := of_decide_eq_true h3_5
             refine st_yg hf rfl rfl (lk_b rfl h3_5) rfl rfl (y_load1 Tryz.isAgg25 rfl rfl (hm.blk_cell 4 rfl rfl)) fun a hf => st_yg hf rfl rfl (lk_b rfl h3_5) rfl rfl (y_fieldAddr fo_86_3 rfl rfl) fun a hf => st_yg hf rfl rfl (lk_b rfl h3_5) rfl rfl (y_load1 Tryz.isAgg3 rfl rfl (hm.blk_cell 6 rfl rfl)) fun a hf => ?_
             obtain ⟨x3_4, hx3_8, hq2_1⟩ := bnd hq2_1
             obtain ⟨h3_7, hx3_9⟩ := getI_some.1 hx3_8
             obtain ⟨b3_5, o3_4, c3_4, he⟩ := idx_form (hm.ow_rep 5 rfl) hx3_9
             simp only [Value.slice.injEq, Option.some.injEq] at he; obtain ⟨rfl, _, rfl⟩ := he
             have hL3_2 := rep_slice_len (hm.ow_rep 5 rfl)
             refine st_yg hf rfl rfl (lk_b rfl h3_5) rfl rfl (y_indexAddr st_25 rfl rfl rfl h3_7 (idx_lt2 hx3_9 hL3_2)) fun a hf => st_yg hf rfl rfl (lk_b rfl h3_5) rfl rfl (y_load1 Tryz.isAgg3 rfl rfl ((flat_cells (cs := [(.int .i64 (x3_4))]) (hm.ow_rep 5 rfl) hx3_9 rfl).cell (j := 0) rfl)) fun a hf => st_yg hf rfl rfl (lk_b rfl h3_5) rfl rfl (y_eql rfl rfl rfl) fun a hf => st_y hf rfl rfl rfl (y_pick_t rfl (ev_b rfl h3_5) rfl) fun a hf => st_y hf rfl rfl rfl (y_assign rfl rfl) fun a hf => st_end (x_then_n ?_)
             obtain rfl := Option.some.inj hq2_1
             exact ⟨hf.sub ⟨rfl, rfl, rfl, rfl, rfl, rfl, rfl, trivial⟩, hm.pick [0, 1, 2, 3, 4, 5, 6] (by decide) rfl⟩
            ·
             replace hq2_1 := (ite_f h3_5).symm.trans hq2_1
             have h3_8 := of_decide_eq_false h3_5
             refine st_no hf rfl rfl (lk_b rfl h3_5) rfl rfl rfl fun a hf => st_no hf rfl rfl (lk_b rfl h3_5) rfl rfl rfl fun a hf => st_no hf rfl rfl (lk_b rfl h3_5) rfl rfl rfl fun a hf => st_no hf rfl rfl (lk_b rfl h3_5) rfl rfl rfl fun a hf => st_no hf rfl rfl (lk_b rfl h3_5) rfl rfl rfl fun a hf => st_no hf rfl rfl (lk_b rfl h3_5) rfl rfl rfl fun a hf => st_y hf rfl rfl rfl (y_pick_f rfl (ev_b rfl h3_5) rfl) fun a hf => st_y hf rfl rfl rfl (y_assign rfl rfl) fun a hf => st_end ?_
             refine x_then_n ?_
             obtain rfl := Option.some.inj hq2_1
             exact ⟨hf.sub ⟨rfl, rfl, rfl, rfl, rfl, rfl, rfl, trivial⟩, hm.pick [0, 1, 2, 3, 4, 5, 6] (by decide) rfl⟩
           ·
            clear hf hm
            rintro a w ⟨hf, hm⟩
            refine x_then_n ?_
            obtain ⟨s2_2, hq2_2, hq1_4⟩ := bnd hq1_4
            refine code_cut (K := fun a w => Fr 128 [(0, (.pointer (some ⟨bp0, 0, none⟩))), (3, (.bool (main))), (9, (.pointer (some ⟨b0_2, 0, none⟩))), (10, (.pointer (some ⟨b0_3, 0, none⟩))), (11, (.int .i64 (s2_2))), (12, (.int .i64 (xs1_1.2.2.2.2.2.2.1)))] a ∧ Mem w0 hz w [blk bp0 [(.slice (some ⟨b0_1, o0_1, none⟩) m.u.codes.length c0_1), (.int .i64 (q1_2.steps)), (.int .i64 (q1_2.used)), v1_12, (.int .i64 ((q1_2.cells.getD 0 0))), (.int .i64 ((q1_2.cells.getD 1 0))), (.int .i64 ((q1_2.cells.getD 2 0))), (.int .i64 ((q1_2.cells.getD 3 0))), (.int .i64 ((q1_2.cells.getD 4 0))), (.int .i64 ((q1_2.cells.getD 5 0))), (.int .i64 ((q1_2.cells.getD 6 0))), (.int .i64 ((q1_2.cells.getD 7 0))), (.int .i64 ((q1_2.cells.getD 8 0))), (.int .i64 ((q1_2.cells.getD 9 0))), (.int .i64 ((q1_2.cells.getD 10 0))), (.int .i64 ((q1_2.cells.getD 11 0))), (.int .i64 ((q1_2.cells.getD 12 0))), (.int .i64 ((q1_2.cells.getD 13 0))), (.int .i64 ((q1_2.cells.getD 14 0))), (.int .i64 ((q1_2.cells.getD 15 0))), v1_13] 61, ow [v1_12] q1_2.said, ow [v1_13] q1_2.trace, blk b0_2 [(.int .i64 (x0_1.params)), (.int .i64 (x0_1.regs)), (.slice (some ⟨b1_1, o1_1, none⟩) x0_1.blocks.length c1_1)] 69, blk b0_3 [(.slice p0_3 (copyL ys0_1 in_ 0 ys0_1.length).length c0_4)] 25, ow [(.slice p0_3 (copyL ys0_1 in_ 0 ys0_1.length).length c0_4)] xs1_2.2.2.2.2.2]) ?_ ?_
            ·
             rcases bcases (s2_1) with h3_9 | h3_9
             ·
              replace hq2_2 := (ite_t h3_9).symm.trans hq2_2
              refine cond_t hf rfl h3_9 (wp_region_lit (st_y hf rfl rfl rfl (y_fieldAddr fo_86_4 rfl rfl) fun a hf => st_y hf rfl rfl rfl (y_load1 Tryz.isAgg25 rfl rfl (hm.blk_cell 6 rfl rfl)) fun a hf => ?_))
              obtain ⟨x3_5, hx3_10, hq2_2⟩ := bnd hq2_2
              obtain ⟨h3_10, hx3_11⟩ := getI_some.1 hx3_10
              obtain ⟨b3_6, o3_5, c3_5, he⟩ := idx_form h1_4 hx3_11
              subst he
              refine st_y hf rfl rfl rfl (y_indexAddr st_25 rfl rfl rfl h3_10 (idx_lt hx3_11)) fun a hf => st_y hf rfl rfl rfl (y_load1 Tryz.isAgg3 rfl rfl ((flat_cells (cs := [(.int .i64 (x3_5))]) (hm.now h1_4) hx3_11 rfl).cell (j := 0) rfl)) fun a hf => st_y hf rfl rfl rfl (y_assign rfl rfl) fun a hf => st_end (x_then_n ?_)
              obtain rfl := Option.some.inj hq2_2
              exact ⟨hf.sub ⟨rfl, rfl, rfl, rfl, rfl, rfl, trivial⟩, hm.pick [0, 1, 2, 3, 4, 5] (by decide) rfl⟩
             ·
              replace hq2_2 := (ite_f h3_9).symm.trans hq2_2
              refine cond_f hf rfl h3_9 (wp_region_lit (st_y hf rfl rfl rfl (y_fieldAddr fo_86_4 rfl rfl) fun a hf => st_y hf rfl rfl rfl (y_load1 Tryz.isAgg25 rfl rfl (hm.blk_cell 6 rfl rfl)) fun a hf => ?_))
              obtain ⟨x3_6, hx3_12, hq2_2⟩ := bnd hq2_2
              obtain ⟨h3_11, hx3_13⟩ := getI_some.1 hx3_12
              obtain ⟨b3_7, o3_6, c3_6, he⟩ := idx_form h1_4 hx3_13
              subst he
              refine st_y hf rfl rfl rfl (y_indexAddr st_25 rfl rfl rfl h3_11 (idx_lt hx3_13)) fun a hf => st_y hf rfl rfl rfl (y_load1 Tryz.isAgg3 rfl rfl ((flat_cells (cs := [(.int .i64 (x3_6))]) (hm.now h1_4) hx3_13 rfl).cell (j := 0) rfl)) fun a hf => st_y hf rfl rfl rfl (y_assign rfl rfl) fun a hf => st_end (x_then_n ?_)
              obtain rfl := Option.some.inj hq2_2
              exact ⟨hf.sub ⟨rfl, rfl, rfl, rfl, rfl, rfl, trivial⟩, hm.pick [0, 1, 2, 3, 4, 5] (by decide) rfl⟩
            ·
             clear hf hm
             rintro a w ⟨hf, hm⟩
             refine x_blk_n (x_then_n ?_)
             obtain rfl := Option.some.inj hq1_4
             exact ⟨_, rfl, hf.sub ⟨rfl, rfl, rfl, rfl, rfl, rfl, trivial⟩, hm.pick [0, 1, 2, 3, 4, 5] (by decide) rfl⟩
         ·
          clear hf hm
          rintro a w ⟨s1_4, rfl, hf, hm⟩
          replace hb0_1 := sum_l hb0_1
          refine x_blk_n (x_then_n ?_)
          obtain rfl := Option.some.inj hb0_1
          exact ⟨_, rfl, v1_12, v1_13, hf.sub ⟨rfl, rfl, rfl, rfl, rfl, rfl, trivial⟩, hm.pick [0, 1, 2, 3, 4, 5] (by decide) rfl⟩
  · intro rec_ ih_ m x_ regs r hq w0 hz bp0 v1p h1p v2p v3p v1 h1 v2 hm0
    have pimpl_running__code_rec : ∀ (w0 : World) (hz : Heap) (m : running) (bp0 : Nat) (v1p : Value) (h1p : GT.rep hz [v1p] m.u.codes) (v2p : Value) (v3p : Value) (k_ : Int) (in_ : List Int) (v1 : Value) (h1 : GT.rep hz [v1] in_) (main : Bool) (hm0 : Mem w0 hz w0 [blk bp0 [v1p, (.int .i64 (m.steps)), (.int .i64 (m.used)), v2p, (.int .i64 ((m.cells.getD 0 0))), (.int .i64 ((m.cells.getD 1 0))), (.int .i64 ((m.cells.getD 2 0))), (.int .i64 ((m.cells.getD 3 0))), (.int .i64 ((m.cells.getD 4 0))), (.int .i64 ((m.cells.getD 5 0))), (.int .i64 ((m.cells.getD 6 0))), (.int .i64 ((m.cells.getD 7 0))), (.int .i64 ((m.cells.getD 8 0))), (.int .i64 ((m.cells.getD 9 0))), (.int .i64 ((m.cells.getD 10 0))), (.int .i64 ((m.cells.getD 11 0))), (.int .i64 ((m.cells.getD 12 0))), (.int .i64 ((m.cells.getD 13 0))), (.int .i64 ((m.cells.getD 14 0))), (.int .i64 ((m.cells.getD 15 0))), v3p] 61, ow [v2p] m.said, ow [v3p] m.trace]) (r : (Int × running) ⊕ (Int × running)) (hq : rec_ m k_ in_ main = some r), ConX Tryz.prog 48 [(.pointer (some ⟨bp0, 0, none⟩)), (.int .i64 (k_)), v1, (.bool (main))] w0 (fun v w' => ∃ q, r = .inl q ∧ (∃ (x2 : Value) (x3 : Value), v = (.int .i64 (q.1)) ∧ Mem w0 hz w' [blk bp0 [v1p, (.int .i64 (q.2.steps)), (.int .i64 (q.2.used)), x2, (.int .i64 ((q.2.cells.getD 0 0))), (.int .i64 ((q.2.cells.getD 1 0))), (.int .i64 ((q.2.cells.getD 2 0))), (.int .i64 ((q.2.cells.getD 3 0))), (.int .i64 ((q.2.cells.getD 4 0))), (.int .i64 ((q.2.cells.getD 5 0))), (.int .i64 ((q.2.cells.getD 6 0))), (.int .i64 ((q.2.cells.getD 7 0))), (.int .i64 ((q.2.cells.getD 8 0))), (.int .i64 ((q.2.cells.getD 9 0))), (.int .i64 ((q.2.cells.getD 10 0))), (.int .i64 ((q.2.cells.getD 11 0))), (.int .i64 ((q.2.cells.getD 12 0))), (.int .i64 ((q.2.cells.getD 13 0))), (.int .i64 ((q.2.cells.getD 14 0))), (.int .i64 ((q.2.cells.getD 15 0))), x3] 61, ow [x2] q.2.said, ow [x3] q.2.trace])) (fun c w' => ∃ q, r = .inr q ∧ (∃ (x2 : Value) (x3 : Value), c = pch 97 q.1 ∧ Mem w0 hz w' [blk bp0 [v1p, (.int .i64 (q.2.steps)), (.int .i64 (q.2.used)), x2, (.int .i64 ((q.2.cells.getD 0 0))), (.int .i64 ((q.2.cells.getD 1 0))), (.int .i64 ((q.2.cells.getD 2 0))), (.int .i64 ((q.2.cells.getD 3 0))), (.int .i64 ((q.2.cells.getD 4 0))), (.int .i64 ((q.2.cells.getD 5 0))), (.int .i64 ((q.2.cells.getD 6 0))), (.int .i64 ((q.2.cells.getD 7 0))), (.int .i64 ((q.2.cells.getD 8 0))), (.int .i64 ((q.2.cells.getD 9 0))), (.int .i64 ((q.2.cells.getD 10 0))), (.int .i64 ((q.2.cells.getD 11 0))), (.int .i64 ((q.2.cells.getD 12 0))), (.int .i64 ((q.2.cells.getD 13 0))), (.int .i64 ((q.2.cells.getD 14 0))), (.int .i64 ((q.2.cells.getD 15 0))), x3] 61, ow [x2] q.2.said, ow [x3] q.2.trace])) := fun w0 hz m bp0 v1p h1p v2p v3p k_ in_ v1 h1 main hm0 r hq => ih_ m k_ in_ main r hq w0 hz bp0 v1p h1p v2p v3p v1 h1 hm0
    refine con_bodyx (l := [(0, (.pointer (some ⟨bp0, 0, none⟩))), (1, (.agg #[(.int .i64 (x_.op)), (.int .i64 (x_.to)), v1, (.int .i64 (x_.n_))])), (2, v2)]) Tryz.func68 rfl Tryz.ntmps68 (Args.get ⟨rfl, rfl, rfl, trivial⟩) rfl ?_
    intro a hf
    have hm := hm0
    refine wp_seq (wp_region_lit (st_ef hf rfl rfl rfl (e_box hf hm rfl rfl rfl) ?_))
    clear hf a; rintro _ w0_1 a ⟨b0_1, rfl, hm⟩ hf
    obtain ⟨p0_1, c0_1, he, hl0_1⟩ := ro_slice (hm.ow_rep 4 rfl)
    subst he
    refine st_ef hf rfl rfl rfl (e_box hf hm rfl rfl rfl) ?_
    clear hf a; rintro _ w0_2 a ⟨b0_2, rfl, hm⟩ hf
    refine st_end (x_then_n (wp_seq (wp_region_lit (st_y hf rfl rfl rfl (y_move rfl rfl) fun a hf => ?_))))
    obtain ⟨r0_1, hx0_1, hq⟩ := bnd hq
    obtain ⟨hz0_1, hle, hm1, hsub, hk0_1⟩ := hm.take2 (L1 := [blk bp0 [v1p, (.int .i64 (m.steps)), (.int .i64 (m.used)), v2p, (.int .i64 ((m.cells.getD 0 0))), (.int .i64 ((m.cells.getD 1 0))), (.int .i64 ((m.cells.getD 2 0))), (.int .i64 ((m.cells.getD 3 0))), (.int .i64 ((m.cells.getD 4 0))), (.int .i64 ((m.cells.getD 5 0))), (.int .i64 ((m.cells.getD 6 0))), (.int .i64 ((m.cells.getD 7 0))), (.int .i64 ((m.cells.getD 8 0))), (.int .i64 ((m.cells.getD 9 0))), (.int .i64 ((m.cells.getD 10 0))), (.int .i64 ((m.cells.getD 11 0))), (.int .i64 ((m.cells.getD 12 0))), (.int .i64 ((m.cells.getD 13 0))), (.int .i64 ((m.cells.getD 14 0))), (.int .i64 ((m.cells.getD 15 0))), v3p] 61, ow [v2p] m.said, ow [v3p] m.trace]) (L2 := [blk b0_2 [(.slice p0_1 regs.length c0_1)] 25, blk b0_1 [(.int .i64 (x_.op)), (.int .i64 (x_.to)), v1, (.int .i64 (x_.n_))] 91, ow [(.slice p0_1 regs.length c0_1)] regs]) [2, 3, 4] [0, 1, 5] (by decide) rfl rfl
    refine st_efx hf rfl rfl rfl (e_callx hf rfl Tryz.call69 rfl (pimpl_running__tick_ok _ hz0_1 m bp0 v1p (GT.mono hle h1p) v2p v3p hm1  _ hx0_1)) ?_ ?_
    ·
     rintro c w0_3 ⟨q0_2, rfl, ho0_1⟩
     replace hq := sum_r hq
     obtain ⟨v0_1, v0_2, rfl, hB⟩ := ho0_1
     replace hm := hk0_1 _ _ hB; clear hB
     obtain rfl := Option.some.inj hq
     refine And.intro hf.defers (rx_intro ?_)
     exact ⟨_, rfl, v0_1, v0_2, rfl, hm.pick [0, 1, 2, 5] (by decide) rfl⟩
    clear hf a; rintro v0_3 w0_4 a ⟨q0_1, rfl, ho0_1⟩ hf
    replace hq := sum_l hq
    obtain ⟨v0_4, v0_5, rfl, hB⟩ := ho0_1
    replace hm := hk0_1 _ _ hB; clear hB
    refine st_end (x_then_n (wp_seq (wp_region_lit (st_y hf rfl rfl rfl (y_makeFunc rfl rfl) fun a hf => st_y hf rfl rfl rfl (y_assign rfl rfl) fun a hf => st_end (x_then_n (wp_seq ?_))))))
    refine wp_region_lit (st_y hf rfl rfl rfl (y_fieldAddr fo_91_0 rfl rfl) fun a hf => st_y hf rfl rfl rfl (y_load1 Tryz.isAgg3 rfl rfl (hm.blk_cell 4 rfl rfl)) fun a hf => st_end (x_then_n ?_))
    obtain ⟨c0_2, hq0_1, hq⟩ := bnd hq
    refine code_cut (K := fun a w => ∃ s0_1, c0_2 = .inl s0_1 ∧ ∃ (v0_6 : Value) (v0_7 : Value), Fr 120 [] a ∧ Mem w0 hz w [blk bp0 [v1p, (.int .i64 (s0_1.1)), (.int .i64 (s0_1.2.1)), v0_6, (.int .i64 ((s0_1.2.2.2.1.getD 0 0))), (.int .i64 ((s0_1.2.2.2.1.getD 1 0))), (.int .i64 ((s0_1.2.2.2.1.getD 2 0))), (.int .i64 ((s0_1.2.2.2.1.getD 3 0))), (.int .i64 ((s0_1.2.2.2.1.getD 4 0))), (.int .i64 ((s0_1.2.2.2.1.getD 5 0))), (.int .i64 ((s0_1.2.2.2.1.getD 6 0))), (.int .i64 ((s0_1.2.2.2.1.getD 7 0))), (.int .i64 ((s0_1.2.2.2.1.getD 8 0))), (.int .i64 ((s0_1.2.2.2.1.getD 9 0))), (.int .i64 ((s0_1.2.2.2.1.getD 10 0))), (.int .i64 ((s0_1.2.2.2.1.getD 11 0))), (.int .i64 ((s0_1.2.2.2.1.getD 12 0))), (.int .i64 ((s0_1.2.2.2.1.getD 13 0))), (.int .i64 ((s0_1.2.2.2.1.getD 14 0))), (.int .i64 ((s0_1.2.2.2.1.getD 15 0))), v0_7] 61, ow [v0_6] s0_1.2.2.1, ow [v0_7] s0_1.2.2.2.2.1, ow [(.slice p0_1 regs.length c0_1)] s0_1.2.2.2.2.2]) ?_ ?_
    ·
     refine wp_block (wp_seq (wp_region_lit (st_y hf rfl rfl rfl (y_eql rfl rfl rfl) fun a hf => st_y hf rfl rfl rfl (y_assign rfl rfl) fun a hf => st_end (x_then_n ?_))))
     obtain ⟨c1_1, hq1_1, hq0_1⟩ := bnd hq0_1
     refine code_cut (K := fun a w => ∃ s1_1, c1_1 = .inl s1_1 ∧ ∃ (v1_1 : Value) (v1_2 : Value), Fr 120 [] a ∧ Mem w0 hz w [blk bp0 [v1p, (.int .i64 (s1_1.1)), (.int .i64 (s1_1.2.1)), v1_1, (.int .i64 ((s1_1.2.2.2.1.getD 0 0))), (.int .i64 ((s1_1.2.2.2.1.getD 1 0))), (.int .i64 ((s1_1.2.2.2.1.getD 2 0))), (.int .i64 ((s1_1.2.2.2.1.getD 3 0))), (.int .i64 ((s1_1.2.2.2.1.getD 4 0))), (.int .i64 ((s1_1.2.2.2.1.getD 5 0))), (.int .i64 ((s1_1.2.2.2.1.getD 6 0))), (.int .i64 ((s1_1.2.2.2.1.getD 7 0))), (.int .i64 ((s1_1.2.2.2.1.getD 8 0))), (.int .i64 ((s1_1.2.2.2.1.getD 9 0))), (.int .i64 ((s1_1.2.2.2.1.getD 10 0))), (.int .i64 ((s1_1.2.2.2.1.getD 11 0))), (.int .i64 ((s1_1.2.2.2.1.getD 12 0))), (.int .i64 ((s1_1.2.2.2.1.getD 13 0))), (.int .i64 ((s1_1.2.2.2.1.getD 14 0))), (.int .i64 ((s1_1.2.2.2.1.getD 15 0))), v1_2] 61, ow [v1_1] s1_1.2.2.1, ow [v1_2] s1_1.2.2.2.2.1, ow [(.slice p0_1 regs.length c0_1)] s1_1.2.2.2.2.2]) ?_ ?_
     ·
      rcases bcases (decide (x_.op = 1)) with h2_1 | h2_1
      ·
       replace hq1_1 := (ite_t h2_1).symm.trans hq1_1
       have h2_2 := of_decide_eq_true h2_1
       refine cond_t hf rfl h2_1 (wp_region_lit (st_y hf rfl rfl rfl (y_load1 Tryz.isAgg25 rfl rfl (hm.blk_cell 3 rfl rfl)) fun a hf => st_y hf rfl rfl rfl (y_fieldAddr fo_91_1 rfl rfl) fun a hf => st_y hf rfl rfl rfl (y_load1 Tryz.isAgg3 rfl rfl (hm.blk_cell 4 rfl rfl)) fun a hf => st_y hf rfl rfl rfl (y_fieldAddr fo_91_3 rfl rfl) fun a hf => st_y hf rfl rfl rfl (y_load1 Tryz.isAgg3 rfl rfl (hm.blk_cell 4 rfl rfl)) fun a hf => ?_))
       obtain ⟨x2_1, hx2_1, hq1_1⟩ := bnd hq1_1
       obtain ⟨h2_3, hx2_2⟩ := getI_some.1 hx2_1
       obtain ⟨b2_1, o2_1, c2_1, he⟩ := idx_form (hm.ow_rep 5 rfl) hx2_2
       simp only [Value.slice.injEq, Option.some.injEq] at he; obtain ⟨rfl, _, rfl⟩ := he
       refine st_y hf rfl rfl rfl (y_indexAddr st_25 rfl rfl rfl h2_3 (idx_lt hx2_2)) fun a hf => st_ef0 hf rfl rfl (e_setElem (x1 := x_.n_) (j := 0) (vs := [(.int .i64 (x_.n_))]) 5 hf hm rfl hx2_2 rfl Tryz.sizeOf3 rfl rfl rfl (one_cons rfl one_nil) rfl rfl) ?_
       clear hf a; rintro _ w2_1 a hm hf
       have hx2_3 := List.getElem?_set_self (a := x_.n_) (idx_lt hx2_2)
       refine st_end (x_then_n ?_)
       obtain rfl := Option.some.inj hq1_1
       exact ⟨_, rfl, v0_4, v0_5, hf.sub trivial, hm.pick [0, 1, 2, 5] (by decide) rfl⟩
      ·
       replace hq1_1 := (ite_f h2_1).symm.trans hq1_1
       have h2_4 := of_decide_eq_false h2_1
       refine cond_f hf rfl h2_1 (wp_seq (wp_region_lit (st_y hf rfl rfl rfl (y_eql rfl rfl rfl) fun a hf => st_y hf rfl rfl rfl (y_assign rfl rfl) fun a hf => st_end (x_then_n ?_))))
       obtain ⟨c2_2, hq2_1, hq1_1⟩ := bnd hq1_1
       refine code_cut (K := fun a w => ∃ s2_1, c2_2 = .inl s2_1 ∧ ∃ (v2_1 : Value) (v2_2 : Value), Fr 120 [] a ∧ Mem w0 hz w [blk bp0 [v1p, (.int .i64 (s2_1.1)), (.int .i64 (s2_1.2.1)), v2_1, (.int .i64 ((s2_1.2.2.2.1.getD 0 0))), (.int .i64 ((s2_1.2.2.2.1.getD 1 0))), (.int .i64 ((s2_1.2.2.2.1.getD 2 0))), (.int .i64 ((s2_1.2.2.2.1.getD 3 0))), (.int .i64 ((s2_1.2.2.2.1.getD 4 0))), (.int .i64 ((s2_1.2.2.2.1.getD 5 0))), (.int .i64 ((s2_1.2.2.2.1.getD 6 0))), (.int .i64 ((s2_1.2.2.2.1.getD 7 0))), (.int .i64 ((s2_1.2.2.2.1.getD 8 0))), (.int .i64 ((s2_1.2.2.2.1.getD 9 0))), (.int .i64 ((s2_1.2.2.2.1.getD 10 0))), (.int .i64 ((s2_1.2.2.2.1.getD 11 0))), (.int .i64 ((s2_1.2.2.2.1.getD 12 0))), (.int .i64 ((s2_1.2.2.2.1.getD 13 0))), (.int .i64 ((s2_1.2.2.2.1.getD 14 0))), (.int .i64 ((s2_1.2.2.2.1.getD 15 0))), v2_2] 61, ow [v2_1] s2_1.2.2.1, ow [v2_2] s2_1.2.2.2.2.1, ow [(.slice p0_1 regs.length c0_1)] s2_1.2.2.2.2.2]) ?_ ?_
       ·
        rcases bcases (decide (x_.op = 11)) with h3_1 | h3_1
        ·
         replace hq2_1 := (ite_t h3_1).symm.trans hq2_1
         have h3_2 := of_decide_eq_true h3_1
         refine cond_t hf rfl h3_1 (wp_treeX (.p 1 (.p 3 (.p 4 (.q 0 (.q 2 (.e 5 (.e 6 (.p 7 (.e 8 (.p 9 (.e 10 .fin .nil)) .nil)) .nil) .nil)))))) [0, 2, 5, 6, 8] [1, 3, 4, 7, 9] (fun w => Mem w0 hz w [blk bp0 [v1p, (.int .i64 (q0_1.steps)), (.int .i64 (q0_1.used)), v0_4, (.int .i64 ((q0_1.cells.getD 0 0))), (.int .i64 ((q0_1.cells.getD 1 0))), (.int .i64 ((q0_1.cells.getD 2 0))), (.int .i64 ((q0_1.cells.getD 3 0))), (.int .i64 ((q0_1.cells.getD 4 0))), (.int .i64 ((q0_1.cells.getD 5 0))), (.int .i64 ((q0_1.cells.getD 6 0))), (.int .i64 ((q0_1.cells.getD 7 0))), (.int .i64 ((q0_1.cells.getD 8 0))), (.int .i64 ((q0_1.cells.getD 9 0))), (.int .i64 ((q0_1.cells.getD 10 0))), (.int .i64 ((q0_1.cells.getD 11 0))), (.int .i64 ((q0_1.cells.getD 12 0))), (.int .i64 ((q0_1.cells.getD 13 0))), (.int .i64 ((q0_1.cells.getD 14 0))), (.int .i64 ((q0_1.cells.getD 15 0))), v0_5] 61, ow [v0_4] q0_1.said, ow [v0_5] q0_1.trace, blk b0_2 [(.slice p0_1 regs.length c0_1)] 25, blk b0_1 [(.int .i64 (x_.op)), (.int .i64 (x_.to)), v1, (.int .i64 (x_.n_))] 91, ow [(.slice p0_1 regs.length c0_1)] regs]) (by kernel_rfl) (by kernel_rfl) (fun _ _ _ _ e h => And.intro (e.symm.trans h.1) h.2) ?_)
         replace hm := hm.drew
         have hS : Mem w0 hz _ [blk bp0 [v1p, (.int .i64 (q0_1.steps)), (.int .i64 (q0_1.used)), v0_4, (.int .i64 ((q0_1.cells.getD 0 0))), (.int .i64 ((q0_1.cells.getD 1 0))), (.int .i64 ((q0_1.cells.getD 2 0))), (.int .i64 ((q0_1.cells.getD 3 0))), (.int .i64 ((q0_1.cells.getD 4 0))), (.int .i64 ((q0_1.cells.getD 5 0))), (.int .i64 ((q0_1.cells.getD 6 0))), (.int .i64 ((q0_1.cells.getD 7 0))), (.int .i64 ((q0_1.cells.getD 8 0))), (.int .i64 ((q0_1.cells.getD 9 0))), (.int .i64 ((q0_1.cells.getD 10 0))), (.int .i64 ((q0_1.cells.getD 11 0))), (.int .i64 ((q0_1.cells.getD 12 0))), (.int .i64 ((q0_1.cells.getD 13 0))), (.int .i64 ((q0_1.cells.getD 14 0))), (.int .i64 ((q0_1.cells.getD 15 0))), v0_5] 61, ow [v0_4] q0_1.said, ow [v0_5] q0_1.trace, blk b0_2 [(.slice p0_1 regs.length c0_1)] 25, blk b0_1 [(.int .i64 (x_.op)), (.int .i64 (x_.to)), v1, (.int .i64 (x_.n_))] 91, ow [(.slice p0_1 regs.length c0_1)] regs] := hm.pick [0, 1, 2, 3, 4, 5] (by decide) rfl
         refine td_p hf rfl rfl rfl rfl (fun w => y_fieldAddr fo_91_1 rfl rfl) fun a hf => td_p hf rfl rfl rfl rfl (fun w => y_move rfl rfl) fun a hf => td_p hf rfl rfl rfl rfl (fun w => y_move rfl rfl) fun a hf => td_y hf rfl rfl rfl rfl hS (fun w hm => y_load1 Tryz.isAgg25 rfl rfl (hm.blk_cell 3 rfl rfl)) fun a hf => td_y hf rfl rfl rfl rfl hS (fun w hm => y_load1 Tryz.isAgg3 rfl rfl (hm.blk_cell 4 rfl rfl)) fun a hf => te_one ?_
         obtain ⟨r3_1, hx3_1, hq2_1⟩ := bnd hq2_1
         refine td_ef hf rfl rfl rfl rfl (e_callv hf rfl rfl rfl ⟨91, [(.pointer (some ⟨b0_2, 0, none⟩)), (.pointer (some ⟨b0_1, 0, none⟩))], rfl, Tryz.call91, pimpl_running__doIns_1_ok _ 0 regs (.slice p0_1 regs.length c0_1) (rep_later (hm.ow_rep 5 rfl) (Below.refl _ _)) b0_2 (hm.blk_later 3 rfl (Below.refl _ _)) x_ v1 (rep_later (hm.now h1) (Below.refl _ _)) b0_1 (hm.blk_later 4 rfl (Below.refl _ _)) _ hx3_1⟩) ?_
         clear hf a; rintro v3_1 w3_1 a ho3_1 hf
         obtain ⟨rfl, hB⟩ := ho3_1
         replace hm := hm.below' hB; clear hB
         clear hS
         have hS : Mem w0 hz _ [blk bp0 [v1p, (.int .i64 (q0_1.steps)), (.int .i64 (q0_1.used)), v0_4, (.int .i64 ((q0_1.cells.getD 0 0))), (.int .i64 ((q0_1.cells.getD 1 0))), (.int .i64 ((q0_1.cells.getD 2 0))), (.int .i64 ((q0_1.cells.getD 3 0))), (.int .i64 ((q0_1.cells.getD 4 0))), (.int .i64 ((q0_1.cells.getD 5 0))), (.int .i64 ((q0_1.cells.getD 6 0))), (.int .i64 ((q0_1.cells.getD 7 0))), (.int .i64 ((q0_1.cells.getD 8 0))), (.int .i64 ((q0_1.cells.getD 9 0))), (.int .i64 ((q0_1.cells.getD 10 0))), (.int .i64 ((q0_1.cells.getD 11 0))), (.int .i64 ((q0_1.cells.getD 12 0))), (.int .i64 ((q0_1.cells.getD 13 0))), (.int .i64 ((q0_1.cells.getD 14 0))), (.int .i64 ((q0_1.cells.getD 15 0))), v0_5] 61, ow [v0_4] q0_1.said, ow [v0_5] q0_1.trace, blk b0_2 [(.slice p0_1 regs.length c0_1)] 25, blk b0_1 [(.int .i64 (x_.op)), (.int .i64 (x_.to)), v1, (.int .i64 (x_.n_))] 91, ow [(.slice p0_1 regs.length c0_1)] regs] := hm.pick [0, 1, 2, 3, 4, 5] (by decide) rfl
         refine ⟨fun _ => hS, ?_⟩
         refine te_one ?_
         obtain ⟨r3_2, hx3_2, hq2_1⟩ := bnd hq2_1
         refine td_efx hf rfl rfl rfl rfl (e_callx hf rfl Tryz.call92 rfl (pimpl_running__cell_ok _ (⟨m.u, q0_1.steps, q0_1.used, q0_1.said, q0_1.cells, q0_1.trace⟩ : running) bp0 v1p (hm.now h1p) v0_4 (hm.ow_rep 1 rfl) v0_5 (hm.ow_rep 2 rfl) (hm.blk_cells 0 rfl).1 r3_1 _ hx3_2)) ?_ ?_
         ·
          rintro c w3_2 ⟨q3_2, rfl, ho3_2⟩
          replace hq2_1 := sum_r hq2_1
          obtain ⟨rfl, hB⟩ := ho3_2
          replace hm := hm.below' hB; clear hB
          obtain rfl := Option.some.inj hq2_1
          replace hq1_1 := sum_r hq1_1
          obtain rfl := Option.some.inj hq1_1
          replace hq0_1 := sum_r hq0_1
          obtain rfl := Option.some.inj hq0_1
          replace hq := sum_r hq
          obtain rfl := Option.some.inj hq
          refine And.intro hf.defers (rx_intro ?_)
          exact ⟨_, rfl, v0_4, v0_5, rfl, hm.pick [0, 1, 2, 5] (by decide) rfl⟩
         clear hf a; rintro v3_2 w3_3 a ⟨q3_1, rfl, ho3_2⟩ hf
         replace hq2_1 := sum_l hq2_1
         obtain ⟨rfl, ⟨h3_3, h3_4⟩, hB⟩ := ho3_2
         replace hm := hm.below' hB; clear hB
         clear hS
         have hS : Mem w0 hz _ [blk bp0 [v1p, (.int .i64 (q0_1.steps)), (.int .i64 (q0_1.used)), v0_4, (.int .i64 ((q0_1.cells.getD 0 0))), (.int .i64 ((q0_1.cells.getD 1 0))), (.int .i64 ((q0_1.cells.getD 2 0))), (.int .i64 ((q0_1.cells.getD 3 0))), (.int .i64 ((q0_1.cells.getD 4 0))), (.int .i64 ((q0_1.cells.getD 5 0))), (.int .i64 ((q0_1.cells.getD 6 0))), (.int .i64 ((q0_1.cells.getD 7 0))), (.int .i64 ((q0_1.cells.getD 8 0))), (.int .i64 ((q0_1.cells.getD 9 0))), (.int .i64 ((q0_1.cells.getD 10 0))), (.int .i64 ((q0_1.cells.getD 11 0))), (.int .i64 ((q0_1.cells.getD 12 0))), (.int .i64 ((q0_1.cells.getD 13 0))), (.int .i64 ((q0_1.cells.getD 14 0))), (.int .i64 ((q0_1.cells.getD 15 0))), v0_5] 61, ow [v0_4] q0_1.said, ow [v0_5] q0_1.trace, blk b0_2 [(.slice p0_1 regs.length c0_1)] 25, blk b0_1 [(.int .i64 (x_.op)), (.int .i64 (x_.to)), v1, (.int .i64 (x_.n_))] 91, ow [(.slice p0_1 regs.length c0_1)] regs] := hm.pick [0, 1, 2, 3, 4, 5] (by decide) rfl
         refine ⟨fun _ => hS, ?_⟩
         refine td_p hf rfl rfl rfl rfl (fun w => y_nilptr rfl rfl) fun a hf => te_one (td_ef hf rfl rfl rfl rfl (ef_y hf (y_load1 Tryz.isAgg3 rfl rfl (hm.arr_cell (pre := [v1p, (.int .i64 (q0_1.steps)), (.int .i64 (q0_1.used)), v0_4]) (post := [v0_5]) (arr := q0_1.cells) (n := 16) 0 rfl h3_4))) ?_)
         clear hf a; rintro _ _ a ⟨rfl, rfl⟩ hf
         refine ⟨fun _ => hS, ?_⟩
         obtain ⟨x3_1, hx3_3, hq2_1⟩ := bnd hq2_1
         obtain ⟨h3_5, hx3_4⟩ := getI_some.1 hx3_3
         obtain ⟨b3_1, o3_1, c3_1, he⟩ := idx_form (hm.ow_rep 5 rfl) hx3_4
         simp only [Value.slice.injEq, Option.some.injEq] at he; obtain ⟨rfl, _, rfl⟩ := he
         refine td_p hf rfl rfl rfl rfl (fun w => y_indexAddr st_25 rfl rfl rfl h3_5 (idx_lt hx3_4)) fun a hf => te_one (td_ef0 hf rfl rfl rfl (e_setElem (x1 := (q0_1.cells.getD (q3_1).toNat 0)) (j := 0) (vs := [(.int .i64 ((q0_1.cells.getD (q3_1).toNat 0)))]) 5 hf hm rfl hx3_4 rfl Tryz.sizeOf3 rfl rfl rfl (one_cons rfl one_nil) rfl rfl) ?_)
         clear hf a; rintro _ w3_4 a hm hf
         have hx3_5 := List.getElem?_set_self (a := (q0_1.cells.getD (q3_1).toNat 0)) (idx_lt hx3_4)
         refine ⟨fun h => absurd h (by decide), ?_⟩
         clear hS; refine td_end ?_
         refine x_then_n ?_
         obtain rfl := Option.some.inj hq2_1
         exact ⟨_, rfl, v0_4, v0_5, hf.sub trivial, hm.pick [0, 1, 2, 5] (by decide) rfl⟩
        ·
         replace hq2_1 := (ite_f h3_1).symm.trans hq2_1
         have h3_6 := of_decide_eq_false h3_1
         refine cond_f hf rfl h3_1 (wp_seq (wp_region_lit (st_y hf rfl rfl rfl (y_eql rfl rfl rfl) fun a hf => st_y hf rfl rfl rfl (y_assign rfl rfl) fun a hf => st_end (x_then_n ?_))))
         obtain ⟨c3_2, hq3_1, hq2_1⟩ := bnd hq2_1
         refine code_cut (K := fun a w => ∃ s3_1, c3_2 = .inl s3_1 ∧ ∃ (v3_3 : Value) (v3_4 : Value), Fr 120 [] a ∧ Mem w0 hz w [blk bp0 [v1p, (.int .i64 (s3_1.1)), (.int .i64 (s3_1.2.1)), v3_3, (.int .i64 ((s3_1.2.2.2.1.getD 0 0))), (.int .i64 ((s3_1.2.2.2.1.getD 1 0))), (.int .i64 ((s3_1.2.2.2.1.getD 2 0))), (.int .i64 ((s3_1.2.2.2.1.getD 3 0))), (.int .i64 ((s3_1.2.2.2.1.getD 4 0))), (.int .i64 ((s3_1.2.2.2.1.getD 5 0))), (.int .i64 ((s3_1.2.2.2.1.getD 6 0))), (.int .i64 ((s3_1.2.2.2.1.getD 7 0))), (.int .i64 ((s3_1.2.2.2.1.getD 8 0))), (.int .i64 ((s3_1.2.2.2.1.getD 9 0))), (.int .i64 ((s3_1.2.2.2.1.getD 10 0))), (.int .i64 ((s3_1.2.2.2.1.getD 11 0))), (.int .i64 ((s3_1.2.2.2.1.getD 12 0))), (.int .i64 ((s3_1.2.2.2.1.getD 13 0))), (.int .i64 ((s3_1.2.2.2.1.getD 14 0))), (.int .i64 ((s3_1.2.2.2.1.getD 15 0))), v3_4] 61, ow [v3_3] s3_1.2.2.1, ow [v3_4] s3_1.2.2.2.2.1, ow [(.slice p0_1 regs.length c0_1)] s3_1.2.2.2.2.2]) ?_ ?_
         ·
          rcases bcases (decide (x_.op = 12)) with h4_1 | h4_1
          ·
           replace hq3_1 := (ite_t h4_1).symm.trans hq3_1
           have h4_2 := of_decide_eq_true h4_1
           refine cond_t hf rfl h4_1 (wp_region_lit (st_y hf rfl rfl rfl (y_move rfl rfl) fun a hf => st_y hf rfl rfl rfl (y_move rfl rfl) fun a hf => ?_))
           obtain ⟨r4_1, hx4_1, hq3_1⟩ := bnd hq3_1
           refine st_ef hf rfl rfl rfl (e_callv hf rfl rfl rfl ⟨91, [(.pointer (some ⟨b0_2, 0, none⟩)), (.pointer (some ⟨b0_1, 0, none⟩))], rfl, Tryz.call91, pimpl_running__doIns_1_ok _ 0 regs (.slice p0_1 regs.length c0_1) (rep_later (hm.ow_rep 5 rfl) (Below.refl _ _)) b0_2 (hm.blk_later 3 rfl (Below.refl _ _)) x_ v1 (rep_later (hm.now h1) (Below.refl _ _)) b0_1 (hm.blk_later 4 rfl (Below.refl _ _)) _ hx4_1⟩) ?_
           clear hf a; rintro v4_1 w4_1 a ho4_1 hf
           obtain ⟨rfl, hB⟩ := ho4_1
           replace hm := hm.below' hB; clear hB
           obtain ⟨r4_2, hx4_2, hq3_1⟩ := bnd hq3_1
           refine st_efx hf rfl rfl rfl (e_callx hf rfl Tryz.call92 rfl (pimpl_running__cell_ok _ (⟨m.u, q0_1.steps, q0_1.used, q0_1.said, q0_1.cells, q0_1.trace⟩ : running) bp0 v1p (hm.now h1p) v0_4 (hm.ow_rep 1 rfl) v0_5 (hm.ow_rep 2 rfl) (hm.blk_cells 0 rfl).1 r4_1 _ hx4_2)) ?_ ?_
           ·
            rintro c w4_2 ⟨q4_2, rfl, ho4_2⟩
            replace hq3_1 := sum_r hq3_1
            obtain ⟨rfl, hB⟩ := ho4_2
            replace hm := hm.below' hB; clear hB
            obtain rfl := Option.some.inj hq3_1
            replace hq2_1 := sum_r hq2_1
            obtain rfl := Option.some.inj hq2_1
            replace hq1_1 := sum_r hq1_1
            obtain rfl := Option.some.inj hq1_1
            replace hq0_1 := sum_r hq0_1
            obtain rfl := Option.some.inj hq0_1
            replace hq := sum_r hq
            obtain rfl := Option.some.inj hq
            refine And.intro hf.defers (rx_intro ?_)
            exact ⟨_, rfl, v0_4, v0_5, rfl, hm.pick [0, 1, 2, 5] (by decide) rfl⟩
           clear hf a; rintro v4_2 w4_3 a ⟨q4_1, rfl, ho4_2⟩ hf
           replace hq3_1 := sum_l hq3_1
           obtain ⟨rfl, ⟨h4_3, h4_4⟩, hB⟩ := ho4_2
           replace hm := hm.below' hB; clear hB
           refine st_y hf rfl rfl rfl (y_move rfl rfl) fun a hf => ?_
           obtain ⟨r4_3, hx4_3, hq3_1⟩ := bnd hq3_1
           refine st_ef hf rfl rfl rfl (e_callv hf rfl rfl rfl ⟨91, [(.pointer (some ⟨b0_2, 0, none⟩)), (.pointer (some ⟨b0_1, 0, none⟩))], rfl, Tryz.call91, pimpl_running__doIns_1_ok _ 1 regs (.slice p0_1 regs.length c0_1) (rep_later (hm.ow_rep 5 rfl) (Below.refl _ _)) b0_2 (hm.blk_later 3 rfl (Below.refl _ _)) x_ v1 (rep_later (hm.now h1) (Below.refl _ _)) b0_1 (hm.blk_later 4 rfl (Below.refl _ _)) _ hx4_3⟩) ?_
           clear hf a; rintro v4_3 w4_4 a ho4_3 hf
           obtain ⟨rfl, hB⟩ := ho4_3
           replace hm := hm.below' hB; clear hB
           refine st_y hf rfl rfl rfl (y_nilptr rfl rfl) fun a hf => st_ef0 hf rfl rfl (e_storeA (pre := [v1p, (.int .i64 (q0_1.steps)), (.int .i64 (q0_1.used)), v0_4]) (post := [v0_5]) (arr := q0_1.cells) (n := 16) 0 hf hm rfl Tryz.sizeOf3 rfl rfl rfl h4_4) ?_
           clear hf a; rintro _ w4_5 a hm hf
           replace hm : Mem w0 hz _ [blk bp0 [v1p, (.int .i64 (q0_1.steps)), (.int .i64 (q0_1.used)), v0_4, (.int .i64 (((setA 16 q0_1.cells (q4_1).toNat r4_3).getD 0 0))), (.int .i64 (((setA 16 q0_1.cells (q4_1).toNat r4_3).getD 1 0))), (.int .i64 (((setA 16 q0_1.cells (q4_1).toNat r4_3).getD 2 0))), (.int .i64 (((setA 16 q0_1.cells (q4_1).toNat r4_3).getD 3 0))), (.int .i64 (((setA 16 q0_1.cells (q4_1).toNat r4_3).getD 4 0))), (.int .i64 (((setA 16 q0_1.cells (q4_1).toNat r4_3).getD 5 0))), (.int .i64 (((setA 16 q0_1.cells (q4_1).toNat r4_3).getD 6 0))), (.int .i64 (((setA 16 q0_1.cells (q4_1).toNat r4_3).getD 7 0))), (.int .i64 (((setA 16 q0_1.cells (q4_1).toNat r4_3).getD 8 0))), (.int .i64 (((setA 16 q0_1.cells (q4_1).toNat r4_3).getD 9 0))), (.int .i64 (((setA 16 q0_1.cells (q4_1).toNat r4_3).getD 10 0))), (.int .i64 (((setA 16 q0_1.cells (q4_1).toNat r4_3).getD 11 0))), (.int .i64 (((setA 16 q0_1.cells (q4_1).toNat r4_3).getD 12 0))), (.int .i64 (((setA 16 q0_1.cells (q4_1).toNat r4_3).getD 13 0))), (.int .i64 (((setA 16 q0_1.cells (q4_1).toNat r4_3).getD 14 0))), (.int .i64 (((setA 16 q0_1.cells (q4_1).toNat r4_3).getD 15 0))), v0_5] 61, ow [v0_4] q0_1.said, ow [v0_5] q0_1.trace, blk b0_2 [(.slice p0_1 regs.length c0_1)] 25, blk b0_1 [(.int .i64 (x_.op)), (.int .i64 (x_.to)), v1, (.int .i64 (x_.n_))] 91, ow [(.slice p0_1 regs.length c0_1)] regs] := hm
           refine st_end (x_then_n ?_)
           obtain rfl := Option.some.inj hq3_1
           exact ⟨_, rfl, v0_4, v0_5, hf.sub trivial, hm.pick [0, 1, 2, 5] (by decide) rfl⟩
          ·
           replace hq3_1 := (ite_f h4_1).symm.trans hq3_1
           have h4_5 := of_decide_eq_false h4_1
           refine cond_f hf rfl h4_1 (wp_seq (wp_region_lit (st_y hf rfl rfl rfl (y_eql rfl rfl rfl) fun a hf => st_y hf rfl rfl rfl (y_assign rfl rfl) fun a hf => st_end (x_then_n ?_))))
           obtain ⟨c4_1, hq4_1, hq3_1⟩ := bnd hq3_1
           refine code_cut (K := fun a w => ∃ s4_1, c4_1 = .inl s4_1 ∧ ∃ (v4_4 : Value) (v4_5 : Value), Fr 120 [] a ∧ Mem w0 hz w [blk bp0 [v1p, (.int .i64 (s4_1.1)), (.int .i64 (s4_1.2.1)), v4_4, (.int .i64 ((s4_1.2.2.2.1.getD 0 0))), (.int .i64 ((s4_1.2.2.2.1.getD 1 0))), (.int .i64 ((s4_1.2.2.2.1.getD 2 0))), (.int .i64 ((s4_1.2.2.2.1.getD 3 0))), (.int .i64 ((s4_1.2.2.2.1.getD 4 0))), (.int .i64 ((s4_1.2.2.2.1.getD 5 0))), (.int .i64 ((s4_1.2.2.2.1.getD 6 0))), (.int .i64 ((s4_1.2.2.2.1.getD 7 0))), (.int .i64 ((s4_1.2.2.2.1.getD 8 0))), (.int .i64 ((s4_1.2.2.2.1.getD 9 0))), (.int .i64 ((s4_1.2.2.2.1.getD 10 0))), (.int .i64 ((s4_1.2.2.2.1.getD 11 0))), (.int .i64 ((s4_1.2.2.2.1.getD 12 0))), (.int .i64 ((s4_1.2.2.2.1.getD 13 0))), (.int .i64 ((s4_1.2.2.2.1.getD 14 0))), (.int .i64 ((s4_1.2.2.2.1.getD 15 0))), v4_5] 61, ow [v4_4] s4_1.2.2.1, ow [v4_5] s4_1.2.2.2.2.1, ow [(.slice p0_1 regs.length c0_1)] s4_1.2.2.2.2.2]) ?_ ?_
           ·
            rcases bcases (decide (x_.op = 13)) with h5_1 | h5_1
            ·
             replace hq4_1 := (ite_t h5_1).symm.trans hq4_1
             have h5_2 := of_decide_eq_true h5_1
             refine cond_t hf rfl h5_1 (wp_treeX (.p 0 (.p 1 (.p 2 (.p 3 (.p 5 (.q 4 (.e 6 (.e 7 (.e 8 (.p 9 (.p 10 (.e 11 .fin .nil))) .nil) .nil) .nil))))))) [6, 7] [0, 1, 2, 3, 5, 9, 10] (fun w => Mem w0 hz w [blk bp0 [v1p, (.int .i64 (q0_1.steps)), (.int .i64 (q0_1.used)), v0_4, (.int .i64 ((q0_1.cells.getD 0 0))), (.int .i64 ((q0_1.cells.getD 1 0))), (.int .i64 ((q0_1.cells.getD 2 0))), (.int .i64 ((q0_1.cells.getD 3 0))), (.int .i64 ((q0_1.cells.getD 4 0))), (.int .i64 ((q0_1.cells.getD 5 0))), (.int .i64 ((q0_1.cells.getD 6 0))), (.int .i64 ((q0_1.cells.getD 7 0))), (.int .i64 ((q0_1.cells.getD 8 0))), (.int .i64 ((q0_1.cells.getD 9 0))), (.int .i64 ((q0_1.cells.getD 10 0))), (.int .i64 ((q0_1.cells.getD 11 0))), (.int .i64 ((q0_1.cells.getD 12 0))), (.int .i64 ((q0_1.cells.getD 13 0))), (.int .i64 ((q0_1.cells.getD 14 0))), (.int .i64 ((q0_1.cells.getD 15 0))), v0_5] 61, ow [v0_4] q0_1.said, ow [v0_5] q0_1.trace, blk b0_2 [(.slice p0_1 regs.length c0_1)] 25, blk b0_1 [(.int .i64 (x_.op)), (.int .i64 (x_.to)), v1, (.int .i64 (x_.n_))] 91, ow [(.slice p0_1 regs.length c0_1)] regs]) (by kernel_rfl) (by kernel_rfl) (fun _ _ _ _ e h => And.intro (e.symm.trans h.1) h.2) ?_)
             replace hm := hm.drew
             have hS : Mem w0 hz _ [blk bp0 [v1p, (.int .i64 (q0_1.steps)), (.int .i64 (q0_1.used)), v0_4, (.int .i64 ((q0_1.cells.getD 0 0))), (.int .i64 ((q0_1.cells.getD 1 0))), (.int .i64 ((q0_1.cells.getD 2 0))), (.int .i64 ((q0_1.cells.getD 3 0))), (.int .i64 ((q0_1.cells.getD 4 0))), (.int .i64 ((q0_1.cells.getD 5 0))), (.int .i64 ((q0_1.cells.getD 6 0))), (.int .i64 ((q0_1.cells.getD 7 0))), (.int .i64 ((q0_1.cells.getD 8 0))), (.int .i64 ((q0_1.cells.getD 9 0))), (.int .i64 ((q0_1.cells.getD 10 0))), (.int .i64 ((q0_1.cells.getD 11 0))), (.int .i64 ((q0_1.cells.getD 12 0))), (.int .i64 ((q0_1.cells.getD 13 0))), (.int .i64 ((q0_1.cells.getD 14 0))), (.int .i64 ((q0_1.cells.getD 15 0))), v0_5] 61, ow [v0_4] q0_1.said, ow [v0_5] q0_1.trace, blk b0_2 [(.slice p0_1 regs.length c0_1)] 25, blk b0_1 [(.int .i64 (x_.op)), (.int .i64 (x_.to)), v1, (.int .i64 (x_.n_))] 91, ow [(.slice p0_1 regs.length c0_1)] regs] := hm.pick [0, 1, 2, 3, 4, 5] (by decide) rfl
             refine td_p hf rfl rfl rfl rfl (fun w => y_move rfl rfl) fun a hf => td_p hf rfl rfl rfl rfl (fun w => y_move rfl rfl) fun a hf => td_p hf rfl rfl rfl rfl (fun w => y_nilptr rfl rfl) fun a hf => td_p hf rfl rfl rfl rfl (fun w => y_fieldAddr fo_61_3 rfl rfl) fun a hf => td_p hf rfl rfl rfl rfl (fun w => y_move rfl rfl) fun a hf => td_y hf rfl rfl rfl rfl hS (fun w hm => y_load1 Tryz.isAgg25 rfl rfl (hm.blk_cell 0 rfl rfl)) fun a hf => te_one ?_
             obtain ⟨r5_1, hx5_1, hq4_1⟩ := bnd hq4_1
             refine td_ef hf rfl rfl rfl rfl (e_callv hf rfl rfl rfl ⟨91, [(.pointer (some ⟨b0_2, 0, none⟩)), (.pointer (some ⟨b0_1, 0, none⟩))], rfl, Tryz.call91, pimpl_running__doIns_1_ok _ 0 regs (.slice p0_1 regs.length c0_1) (rep_later (hm.ow_rep 5 rfl) (Below.refl _ _)) b0_2 (hm.blk_later 3 rfl (Below.refl _ _)) x_ v1 (rep_later (hm.now h1) (Below.refl _ _)) b0_1 (hm.blk_later 4 rfl (Below.refl _ _)) _ hx5_1⟩) ?_
             clear hf a; rintro v5_1 w5_1 a ho5_1 hf
             obtain ⟨rfl, hB⟩ := ho5_1
             replace hm := hm.below' hB; clear hB
             clear hS
             have hS : Mem w0 hz _ [blk bp0 [v1p, (.int .i64 (q0_1.steps)), (.int .i64 (q0_1.used)), v0_4, (.int .i64 ((q0_1.cells.getD 0 0))), (.int .i64 ((q0_1.cells.getD 1 0))), (.int .i64 ((q0_1.cells.getD 2 0))), (.int .i64 ((q0_1.cells.getD 3 0))), (.int .i64 ((q0_1.cells.getD 4 0))), (.int .i64 ((q0_1.cells.getD 5 0))), (.int .i64 ((q0_1.cells.getD 6 0))), (.int .i64 ((q0_1.cells.getD 7 0))), (.int .i64 ((q0_1.cells.getD 8 0))), (.int .i64 ((q0_1.cells.getD 9 0))), (.int .i64 ((q0_1.cells.getD 10 0))), (.int .i64 ((q0_1.cells.getD 11 0))), (.int .i64 ((q0_1.cells.getD 12 0))), (.int .i64 ((q0_1.cells.getD 13 0))), (.int .i64 ((q0_1.cells.getD 14 0))), (.int .i64 ((q0_1.cells.getD 15 0))), v0_5] 61, ow [v0_4] q0_1.said, ow [v0_5] q0_1.trace, blk b0_2 [(.slice p0_1 regs.length c0_1)] 25, blk b0_1 [(.int .i64 (x_.op)), (.int .i64 (x_.to)), v1, (.int .i64 (x_.n_))] 91, ow [(.slice p0_1 regs.length c0_1)] regs] := hm.pick [0, 1, 2, 3, 4, 5] (by decide) rfl
             refine ⟨fun _ => hS, ?_⟩
             refine te_one (td_ef hf rfl rfl rfl rfl (e_build (vs := #[(0, (.int .i64 (r5_1)))]) (cs := [(.int .i64 (r5_1))]) et_25 hf hm rfl rfl (by kernel_rfl) rfl rfl) ?_)
             clear hf a; rintro _ w5_2 a ⟨b5_1, rfl, hm⟩ hf
             replace hm := hm.lit (xs := ([r5_1] : List Int)) 0 rfl rfl rfl rfl
             clear hS
             have hS : Mem w0 hz _ [blk bp0 [v1p, (.int .i64 (q0_1.steps)), (.int .i64 (q0_1.used)), v0_4, (.int .i64 ((q0_1.cells.getD 0 0))), (.int .i64 ((q0_1.cells.getD 1 0))), (.int .i64 ((q0_1.cells.getD 2 0))), (.int .i64 ((q0_1.cells.getD 3 0))), (.int .i64 ((q0_1.cells.getD 4 0))), (.int .i64 ((q0_1.cells.getD 5 0))), (.int .i64 ((q0_1.cells.getD 6 0))), (.int .i64 ((q0_1.cells.getD 7 0))), (.int .i64 ((q0_1.cells.getD 8 0))), (.int .i64 ((q0_1.cells.getD 9 0))), (.int .i64 ((q0_1.cells.getD 10 0))), (.int .i64 ((q0_1.cells.getD 11 0))), (.int .i64 ((q0_1.cells.getD 12 0))), (.int .i64 ((q0_1.cells.getD 13 0))), (.int .i64 ((q0_1.cells.getD 14 0))), (.int .i64 ((q0_1.cells.getD 15 0))), v0_5] 61, ow [v0_4] q0_1.said, ow [v0_5] q0_1.trace, blk b0_2 [(.slice p0_1 regs.length c0_1)] 25, blk b0_1 [(.int .i64 (x_.op)), (.int .i64 (x_.to)), v1, (.int .i64 (x_.n_))] 91, ow [(.slice p0_1 regs.length c0_1)] regs] := hm.pick [1, 2, 3, 4, 5, 6] (by decide) rfl
             refine ⟨fun _ => hS, ?_⟩
             refine te_one ?_
             obtain ⟨ys5_1, hx5_2, hq4_1⟩ := bnd hq4_1
             obtain ⟨h5_3, h5_3e⟩ := appM_some.1 hx5_2
             refine td_ef hf rfl rfl rfl rfl (e_append 2 et_25 hf hm rfl (hm.ow_rep 0 rfl) rfl rfl rfl h5_3) ?_
             clear hf a; rintro v5_2 w5_3 a hm hf
             rw [h5_3e] at hm
             refine ⟨fun h => absurd h (by decide), ?_⟩
             refine td_p hf rfl rfl rfl rfl (fun w => y_nilptr rfl rfl) fun a hf => td_p hf rfl rfl rfl rfl (fun w => y_fieldAddr fo_61_3 rfl rfl) fun a hf => te_one (td_ef0 hf rfl rfl rfl (e_store1 1 hf hm rfl Tryz.sizeOf25 rfl rfl rfl (rep_one (hm.ow_rep 2 rfl)) rfl) ?_)
             clear hf a; rintro _ w5_4 a hm hf
             refine ⟨fun h => absurd h (by decide), ?_⟩
             clear hS; refine td_end ?_
             refine x_then_n ?_
             obtain rfl := Option.some.inj hq4_1
             exact ⟨_, rfl, v5_2, v0_5, hf.sub trivial, hm.pick [1, 2, 3, 6] (by decide) rfl⟩
            ·
             replace hq4_1 := (ite_f h5_1).symm.trans hq4_1
             have h5_4 := of_decide_eq_false h5_1
             refine cond_f hf rfl h5_1 (wp_seq (wp_region_lit (st_y hf rfl rfl rfl (y_eql rfl rfl rfl) fun a hf => st_y hf rfl rfl rfl (y_assign rfl rfl) fun a hf => st_end (x_then_n ?_))))
             obtain ⟨c5_1, hq5_1, hq4_1⟩ := bnd hq4_1
             refine code_cut (K := fun a w => ∃ s5_1, c5_1 = .inl s5_1 ∧ ∃ (v5_3 : Value) (v5_4 : Value), Fr 120 [] a ∧ Mem w0 hz w [blk bp0 [v1p, (.int .i64 (s5_1.1)), (.int .i64 (s5_1.2.1)), v5_3, (.int .i64 ((s5_1.2.2.2.1.getD 0 0))), (.int .i64 ((s5_1.2.2.2.1.getD 1 0))), (.int .i64 ((s5_1.2.2.2.1.getD 2 0))), (.int .i64 ((s5_1.2.2.2.1.getD 3 0))), (.int .i64 ((s5_1.2.2.2.1.getD 4 0))), (.int .i64 ((s5_1.2.2.2.1.getD 5 0))), (.int .i64 ((s5_1.2.2.2.1.getD 6 0))), (.int .i64 ((s5_1.2.2.2.1.getD 7 0))), (.int .i64 ((s5_1.2.2.2.1.getD 8 0))), (.int .i64 ((s5_1.2.2.2.1.getD 9 0))), (.int .i64 ((s5_1.2.2.2.1.getD 10 0))), (.int .i64 ((s5_1.2.2.2.1.getD 11 0))), (.int .i64 ((s5_1.2.2.2.1.getD 12 0))), (.int .i64 ((s5_1.2.2.2.1.getD 13 0))), (.int .i64 ((s5_1.2.2.2.1.getD 14 0))), (.int .i64 ((s5_1.2.2.2.1.getD 15 0))), v5_4] 61, ow [v5_3] s5_1.2.2.1, ow [v5_4] s5_1.2.2.2.2.1, ow [(.slice p0_1 regs.length c0_1)] s5_1.2.2.2.2.2]) ?_ ?_
             ·
              rcases bcases (decide (x_.op = 14)) with h6_1 | h6_1
              ·
               replace hq5_1 := (ite_t h6_1).symm.trans hq5_1
               have h6_2 := of_decide_eq_true h6_1
               refine cond_t hf rfl h6_1 (wp_seq (wp_region_lit (st_y hf rfl rfl rfl (y_assign rfl rfl) fun a hf => st_end (x_then_n (wp_seq (wp_seq (wp_region_lit ?_)))))))
               refine st_y hf rfl rfl rfl (y_fieldAddr fo_91_2 rfl rfl) fun a hf => st_y hf rfl rfl rfl (y_load1 Tryz.isAgg25 rfl rfl (hm.blk_cell 4 rfl rfl)) fun a hf => ?_
               obtain ⟨p6_1, c6_1, he, hl6_1⟩ := ro_slice h1
               subst he
               refine st_y hf rfl rfl rfl (y_len_slice st_25.und rfl rfl) fun a hf => st_y hf rfl rfl rfl (y_move rfl rfl) fun a hf => st_end (x_then_n ?_)
               obtain ⟨p6_2, c6_2, he, hl6_2⟩ := ro_slice (hm.ow_rep 1 rfl)
               subst he
               obtain ⟨p6_3, c6_3, he, hl6_3⟩ := ro_slice (hm.ow_rep 2 rfl)
               subst he
               refine wp_block ?_
               obtain ⟨r6_1, hl6_4, hq5_1⟩ := bnd hq5_1
               refine wp_forN _ (fun i7_1 xs7_1 a w => ∃ (v7_1 : Value), Fr 120 [(0, (.pointer (some ⟨bp0, 0, none⟩))), (4, (.pointer (some ⟨b0_1, 0, none⟩))), (5, (.pointer (some ⟨b0_2, 0, none⟩))), (6, (.func (.func 91) #[] #[(.pointer (some ⟨b0_2, 0, none⟩)), (.pointer (some ⟨b0_1, 0, none⟩))])), (7, v7_1), (80, (.int .i64 ((x_.args.length : Int)))), (81, (.int .i64 (i7_1)))] a ∧ Mem w0 hz w [blk bp0 [v1p, (.int .i64 (q0_1.steps)), (.int .i64 (q0_1.used)), (.slice p6_2 q0_1.said.length c6_2), (.int .i64 ((q0_1.cells.getD 0 0))), (.int .i64 ((q0_1.cells.getD 1 0))), (.int .i64 ((q0_1.cells.getD 2 0))), (.int .i64 ((q0_1.cells.getD 3 0))), (.int .i64 ((q0_1.cells.getD 4 0))), (.int .i64 ((q0_1.cells.getD 5 0))), (.int .i64 ((q0_1.cells.getD 6 0))), (.int .i64 ((q0_1.cells.getD 7 0))), (.int .i64 ((q0_1.cells.getD 8 0))), (.int .i64 ((q0_1.cells.getD 9 0))), (.int .i64 ((q0_1.cells.getD 10 0))), (.int .i64 ((q0_1.cells.getD 11 0))), (.int .i64 ((q0_1.cells.getD 12 0))), (.int .i64 ((q0_1.cells.getD 13 0))), (.int .i64 ((q0_1.cells.getD 14 0))), (.int .i64 ((q0_1.cells.getD 15 0))), (.slice p6_3 q0_1.trace.length c6_3)] 61, ow [(.slice p6_2 q0_1.said.length c6_2)] q0_1.said, ow [(.slice p6_3 q0_1.trace.length c6_3)] q0_1.trace, blk b0_1 [(.int .i64 (x_.op)), (.int .i64 (x_.to)), (.slice p6_1 x_.args.length c6_1), (.int .i64 (x_.n_))] 91, blk b0_2 [(.slice p0_1 regs.length c0_1)] 25, ow [(.slice p0_1 regs.length c0_1)] regs, ow [v7_1] xs7_1]) (0) ((x_.args.length : Int)) hl6_4 ?_ ?_ ?_
               ·
                have hm := hm.nilow (α := Int)
                exact ⟨(.slice none 0 0), hf.sub ⟨rfl, rfl, rfl, rfl, rfl, rfl, rfl, trivial⟩, hm.pick [1, 2, 3, 5, 4, 6, 0] (by decide) rfl⟩
               ·
                clear hf hm
                rintro i7_1 xs7_1 a w ⟨v7_1, hf, hm⟩ hi7_1 hi7_2 q6_1 hb6_1 ho6_1
                refine wp_seq (wp_region_lit (st_y hf rfl rfl rfl (y_lss rfl rfl rfl) fun a hf => st_end (x_then_n (wp_seq (cond_t hf rfl (decide_eq_true (by omega)) (wp_skip (x_then_n ?_)))))))
                refine wp_seq (wp_block (wp_seq (wp_region_lit (st_y hf rfl rfl rfl (y_move rfl rfl) fun a hf => st_y hf rfl rfl rfl (y_assign rfl rfl) fun a hf => st_end (x_then_n (wp_region_lit ?_))))))
                refine st_y hf rfl rfl rfl (y_move rfl rfl) fun a hf => st_y hf rfl rfl rfl (y_move rfl rfl) fun a hf => st_y hf rfl rfl rfl (y_move rfl rfl) fun a hf => ?_
                obtain ⟨r7_1, hx7_1, hb6_1⟩ := bnd hb6_1
                refine st_ef hf rfl rfl rfl (e_callv hf rfl rfl rfl ⟨91, [(.pointer (some ⟨b0_2, 0, none⟩)), (.pointer (some ⟨b0_1, 0, none⟩))], rfl, Tryz.call91, pimpl_running__doIns_1_ok _ i7_1 regs (.slice p0_1 regs.length c0_1) (rep_later (hm.ow_rep 5 rfl) (Below.refl _ _)) b0_2 (hm.blk_later 4 rfl (Below.refl _ _)) x_ (.slice p6_1 x_.args.length c6_1) (rep_later (hm.now h1) (Below.refl _ _)) b0_1 (hm.blk_later 3 rfl (Below.refl _ _)) _ hx7_1⟩) ?_
                clear hf a; rintro v7_2 w7_1 a ho7_1 hf
                obtain ⟨rfl, hB⟩ := ho7_1
                replace hm := hm.below' hB; clear hB
                refine st_ef hf rfl rfl rfl (e_build (vs := #[(0, (.int .i64 (r7_1)))]) (cs := [(.int .i64 (r7_1))]) et_25 hf hm rfl rfl (by kernel_rfl) rfl rfl) ?_
                clear hf a; rintro _ w7_2 a ⟨b7_1, rfl, hm⟩ hf
                replace hm := hm.lit (xs := ([r7_1] : List Int)) 0 rfl rfl rfl rfl
                obtain ⟨ys7_1, hx7_2, hb6_1⟩ := bnd hb6_1
                obtain ⟨h7_1, h7_1e⟩ := appM_some.1 hx7_2
                refine st_ef hf rfl rfl rfl (e_append 7 et_25 hf hm rfl (hm.ow_rep 0 rfl) rfl rfl rfl h7_1) ?_
                clear hf a; rintro v7_3 w7_3 a hm hf
                rw [h7_1e] at hm
                refine st_y hf rfl rfl rfl (y_assign rfl rfl) fun a hf => st_end (x_blk_n (x_then_n (wp_region_lit (st_y hf rfl rfl rfl (y_add64 rfl rfl rfl (by omega) (by omega)) fun a hf => st_y hf rfl rfl rfl (y_move rfl rfl) fun a hf => st_end (x_then_n ?_)))))
                obtain rfl := Option.some.inj hb6_1
                exact ⟨_, rfl, v7_3, hf.sub ⟨rfl, rfl, rfl, rfl, rfl, rfl, rfl, trivial⟩, hm.pick [1, 2, 3, 4, 5, 6, 7] (by decide) rfl⟩
               ·
                clear hf hm
                rintro i6_1 xs6_1 a w ⟨v6_1, hf, hm⟩ hi6_1 hi6_2 rfl
                replace hq5_1 := sum_l hq5_1
                refine wp_seq (wp_region_lit (st_y hf rfl rfl rfl (y_lss rfl rfl rfl) fun a hf => st_end (x_then_n (wp_seq (cond_f hf rfl (decide_eq_false (by omega)) (wp_exit (x_then_exit ?_)))))))
                refine x_then_exit (x_blk_hit (x_then_n (wp_treeX (.p 1 (.p 3 (.p 4 (.p 6 (.q 0 (.q 2 (.e 5 (.e 7 (.p 8 (.e 9 .fin .nil)) .nil) .nil))))))) [0, 2, 5, 7] [1, 3, 4, 6, 8] (fun w => Mem w0 hz w [blk b0_1 [(.int .i64 (x_.op)), (.int .i64 (x_.to)), (.slice p6_1 x_.args.length c6_1), (.int .i64 (x_.n_))] 91, blk b0_2 [(.slice p0_1 regs.length c0_1)] 25, ow [(.slice p0_1 regs.length c0_1)] regs, ow [v6_1] xs6_1]) (by kernel_rfl) (by kernel_rfl) (fun _ _ _ _ e h => And.intro (e.symm.trans h.1) h.2) ?_)))
                replace hm := hm.drew
                have hS : Mem w0 hz _ [blk b0_1 [(.int .i64 (x_.op)), (.int .i64 (x_.to)), (.slice p6_1 x_.args.length c6_1), (.int .i64 (x_.n_))] 91, blk b0_2 [(.slice p0_1 regs.length c0_1)] 25, ow [(.slice p0_1 regs.length c0_1)] regs, ow [v6_1] xs6_1] := hm.pick [3, 4, 5, 6] (by decide) rfl
                refine td_p hf rfl rfl rfl rfl (fun w => y_fieldAddr fo_91_1 rfl rfl) fun a hf => td_p hf rfl rfl rfl rfl (fun w => y_move rfl rfl) fun a hf => td_p hf rfl rfl rfl rfl (fun w => y_fieldAddr fo_91_3 rfl rfl) fun a hf => td_p hf rfl rfl rfl rfl (fun w => y_move rfl rfl) fun a hf => td_y hf rfl rfl rfl rfl hS (fun w hm => y_load1 Tryz.isAgg25 rfl rfl (hm.blk_cell 1 rfl rfl)) fun a hf => td_y hf rfl rfl rfl rfl hS (fun w hm => y_load1 Tryz.isAgg3 rfl rfl (hm.blk_cell 0 rfl rfl)) fun a hf => te_one (td_ef hf rfl rfl rfl rfl (ef_y hf (y_load1 Tryz.isAgg3 rfl rfl (hm.blk_cell 3 rfl rfl))) ?_)
                clear hf a; rintro _ _ a ⟨rfl, rfl⟩ hf
                refine ⟨fun _ => hS, ?_⟩
                refine te_one ?_
                obtain ⟨r6_2, hx6_1, hq5_1⟩ := bnd hq5_1
                obtain ⟨hz6_1, hle, hm1, hsub, hk6_1⟩ := hm.take2 (L1 := [blk bp0 [v1p, (.int .i64 (q0_1.steps)), (.int .i64 (q0_1.used)), (.slice p6_2 q0_1.said.length c6_2), (.int .i64 ((q0_1.cells.getD 0 0))), (.int .i64 ((q0_1.cells.getD 1 0))), (.int .i64 ((q0_1.cells.getD 2 0))), (.int .i64 ((q0_1.cells.getD 3 0))), (.int .i64 ((q0_1.cells.getD 4 0))), (.int .i64 ((q0_1.cells.getD 5 0))), (.int .i64 ((q0_1.cells.getD 6 0))), (.int .i64 ((q0_1.cells.getD 7 0))), (.int .i64 ((q0_1.cells.getD 8 0))), (.int .i64 ((q0_1.cells.getD 9 0))), (.int .i64 ((q0_1.cells.getD 10 0))), (.int .i64 ((q0_1.cells.getD 11 0))), (.int .i64 ((q0_1.cells.getD 12 0))), (.int .i64 ((q0_1.cells.getD 13 0))), (.int .i64 ((q0_1.cells.getD 14 0))), (.int .i64 ((q0_1.cells.getD 15 0))), (.slice p6_3 q0_1.trace.length c6_3)] 61, ow [(.slice p6_2 q0_1.said.length c6_2)] q0_1.said, ow [(.slice p6_3 q0_1.trace.length c6_3)] q0_1.trace]) (L2 := [blk b0_1 [(.int .i64 (x_.op)), (.int .i64 (x_.to)), (.slice p6_1 x_.args.length c6_1), (.int .i64 (x_.n_))] 91, blk b0_2 [(.slice p0_1 regs.length c0_1)] 25, ow [(.slice p0_1 regs.length c0_1)] regs, ow [v6_1] xs6_1]) [0, 1, 2] [3, 4, 5, 6] (by decide) rfl rfl
                refine td_efx hf rfl rfl rfl rfl (e_callx hf rfl Tryz.call48 rfl (pimpl_running__code_rec _ hz6_1 (⟨m.u, q0_1.steps, q0_1.used, q0_1.said, q0_1.cells, q0_1.trace⟩ : running) bp0 v1p (GT.mono hle h1p) (.slice p6_2 q0_1.said.length c6_2) (.slice p6_3 q0_1.trace.length c6_3) x_.n_ xs6_1 v6_1 (fz_ow (hsub 3 _ rfl)) false hm1  _ hx6_1)) ?_ ?_
                ·
                 rintro c w6_1 ⟨q6_3, rfl, ho6_2⟩
                 replace hq5_1 := sum_r hq5_1
                 obtain ⟨v6_2, v6_3, rfl, hB⟩ := ho6_2
                 replace hm := hk6_1 _ _ hB; clear hB
                 obtain rfl := Option.some.inj hq5_1
                 replace hq4_1 := sum_r hq4_1
                 obtain rfl := Option.some.inj hq4_1
                 replace hq3_1 := sum_r hq3_1
                 obtain rfl := Option.some.inj hq3_1
                 replace hq2_1 := sum_r hq2_1
                 obtain rfl := Option.some.inj hq2_1
                 replace hq1_1 := sum_r hq1_1
                 obtain rfl := Option.some.inj hq1_1
                 replace hq0_1 := sum_r hq0_1
                 obtain rfl := Option.some.inj hq0_1
                 replace hq := sum_r hq
                 obtain rfl := Option.some.inj hq
                 refine And.intro hf.defers (rx_intro ?_)
                 exact ⟨_, rfl, v6_2, v6_3, rfl, hm.pick [0, 1, 2, 5] (by decide) rfl⟩
                clear hf a; rintro v6_4 w6_2 a ⟨q6_2, rfl, ho6_2⟩ hf
                replace hq5_1 := sum_l hq5_1
                obtain ⟨v6_5, v6_6, rfl, hB⟩ := ho6_2
                replace hm := hk6_1 _ _ hB; clear hB
                clear hS
                have hS : Mem w0 hz _ [blk b0_1 [(.int .i64 (x_.op)), (.int .i64 (x_.to)), (.slice p6_1 x_.args.length c6_1), (.int .i64 (x_.n_))] 91, blk b0_2 [(.slice p0_1 regs.length c0_1)] 25, ow [(.slice p0_1 regs.length c0_1)] regs, ow [v6_1] xs6_1] := hm.pick [3, 4, 5, 6] (by decide) rfl
                refine ⟨fun _ => hS, ?_⟩
                obtain ⟨x6_1, hx6_2, hq5_1⟩ := bnd hq5_1
                obtain ⟨h6_3, hx6_3⟩ := getI_some.1 hx6_2
                obtain ⟨b6_1, o6_1, c6_4, he⟩ := idx_form (hm.ow_rep 5 rfl) hx6_3
                simp only [Value.slice.injEq, Option.some.injEq] at he; obtain ⟨rfl, _, rfl⟩ := he
                refine td_p hf rfl rfl rfl rfl (fun w => y_indexAddr st_25 rfl rfl rfl h6_3 (idx_lt hx6_3)) fun a hf => te_one (td_ef0 hf rfl rfl rfl (e_setElem (x1 := q6_2.1) (j := 0) (vs := [(.int .i64 (q6_2.1))]) 5 hf hm rfl hx6_3 rfl Tryz.sizeOf3 rfl rfl rfl (one_cons rfl one_nil) rfl rfl) ?_)
                clear hf a; rintro _ w6_3 a hm hf
                have hx6_4 := List.getElem?_set_self (a := q6_2.1) (idx_lt hx6_3)
                refine ⟨fun h => absurd h (by decide), ?_⟩
                clear hS; refine td_end ?_
                refine x_then_n ?_
                obtain rfl := Option.some.inj hq5_1
                exact ⟨_, rfl, v6_5, v6_6, hf.sub trivial, hm.pick [0, 1, 2, 5] (by decide) rfl⟩
              ·
               replace hq5_1 := (ite_f h6_1).symm.trans hq5_1
               have h6_4 := of_decide_eq_false h6_1
               refine cond_f hf rfl h6_1 (wp_seq (wp_region_lit (st_y hf rfl rfl rfl (y_eql rfl rfl rfl) fun a hf => st_y hf rfl rfl rfl (y_assign rfl rfl) fun a hf => st_end (x_then_n ?_))))
               obtain ⟨c6_5, hq6_1, hq5_1⟩ := bnd hq5_1
               refine code_cut (K := fun a w => ∃ s6_1, c6_5 = .inl s6_1 ∧ Fr 120 [] a ∧ Mem w0 hz w [blk bp0 [v1p, (.int .i64 (q0_1.steps)), (.int .i64 (q0_1.used)), v0_4, (.int .i64 ((q0_1.cells.getD 0 0))), (.int .i64 ((q0_1.cells.getD 1 0))), (.int .i64 ((q0_1.cells.getD 2 0))), (.int .i64 ((q0_1.cells.getD 3 0))), (.int .i64 ((q0_1.cells.getD 4 0))), (.int .i64 ((q0_1.cells.getD 5 0))), (.int .i64 ((q0_1.cells.getD 6 0))), (.int .i64 ((q0_1.cells.getD 7 0))), (.int .i64 ((q0_1.cells.getD 8 0))), (.int .i64 ((q0_1.cells.getD 9 0))), (.int .i64 ((q0_1.cells.getD 10 0))), (.int .i64 ((q0_1.cells.getD 11 0))), (.int .i64 ((q0_1.cells.getD 12 0))), (.int .i64 ((q0_1.cells.getD 13 0))), (.int .i64 ((q0_1.cells.getD 14 0))), (.int .i64 ((q0_1.cells.getD 15 0))), v0_5] 61, ow [v0_4] q0_1.said, ow [v0_5] q0_1.trace, ow [(.slice p0_1 regs.length c0_1)] s6_1]) ?_ ?_
               ·
                rcases bcases (decide (x_.op = 2)) with h7_2 | h7_2
                ·
                 replace hq6_1 := (ite_t h7_2).symm.trans hq6_1
                 have h7_3 := of_decide_eq_true h7_2
                 refine cond_t hf rfl h7_2 (wp_treeX (.p 1 (.p 3 (.q 0 (.q 2 (.e 4 (.p 5 (.e 6 .fin .nil)) .nil))))) [0, 2, 4] [1, 3, 5] (fun w => Mem w0 hz w [blk bp0 [v1p, (.int .i64 (q0_1.steps)), (.int .i64 (q0_1.used)), v0_4, (.int .i64 ((q0_1.cells.getD 0 0))), (.int .i64 ((q0_1.cells.getD 1 0))), (.int .i64 ((q0_1.cells.getD 2 0))), (.int .i64 ((q0_1.cells.getD 3 0))), (.int .i64 ((q0_1.cells.getD 4 0))), (.int .i64 ((q0_1.cells.getD 5 0))), (.int .i64 ((q0_1.cells.getD 6 0))), (.int .i64 ((q0_1.cells.getD 7 0))), (.int .i64 ((q0_1.cells.getD 8 0))), (.int .i64 ((q0_1.cells.getD 9 0))), (.int .i64 ((q0_1.cells.getD 10 0))), (.int .i64 ((q0_1.cells.getD 11 0))), (.int .i64 ((q0_1.cells.getD 12 0))), (.int .i64 ((q0_1.cells.getD 13 0))), (.int .i64 ((q0_1.cells.getD 14 0))), (.int .i64 ((q0_1.cells.getD 15 0))), v0_5] 61, ow [v0_4] q0_1.said, ow [v0_5] q0_1.trace, blk b0_2 [(.slice p0_1 regs.length c0_1)] 25, blk b0_1 [(.int .i64 (x_.op)), (.int .i64 (x_.to)), v1, (.int .i64 (x_.n_))] 91, ow [(.slice p0_1 regs.length c0_1)] regs]) (by kernel_rfl) (by kernel_rfl) (fun _ _ _ _ e h => And.intro (e.symm.trans h.1) h.2) ?_)
                 replace hm := hm.drew
                 have hS : Mem w0 hz _ [blk bp0 [v1p, (.int .i64 (q0_1.steps)), (.int .i64 (q0_1.used)), v0_4, (.int .i64 ((q0_1.cells.getD 0 0))), (.int .i64 ((q0_1.cells.getD 1 0))), (.int .i64 ((q0_1.cells.getD 2 0))), (.int .i64 ((q0_1.cells.getD 3 0))), (.int .i64 ((q0_1.cells.getD 4 0))), (.int .i64 ((q0_1.cells.getD 5 0))), (.int .i64 ((q0_1.cells.getD 6 0))), (.int .i64 ((q0_1.cells.getD 7 0))), (.int .i64 ((q0_1.cells.getD 8 0))), (.int .i64 ((q0_1.cells.getD 9 0))), (.int .i64 ((q0_1.cells.getD 10 0))), (.int .i64 ((q0_1.cells.getD 11 0))), (.int .i64 ((q0_1.cells.getD 12 0))), (.int .i64 ((q0_1.cells.getD 13 0))), (.int .i64 ((q0_1.cells.getD 14 0))), (.int .i64 ((q0_1.cells.getD 15 0))), v0_5] 61, ow [v0_4] q0_1.said, ow [v0_5] q0_1.trace, blk b0_2 [(.slice p0_1 regs.length c0_1)] 25, blk b0_1 [(.int .i64 (x_.op)), (.int .i64 (x_.to)), v1, (.int .i64 (x_.n_))] 91, ow [(.slice p0_1 regs.length c0_1)] regs] := hm.pick [0, 1, 2, 3, 4, 5] (by decide) rfl
                 refine td_p hf rfl rfl rfl rfl (fun w => y_fieldAddr fo_91_1 rfl rfl) fun a hf => td_p hf rfl rfl rfl rfl (fun w => y_move rfl rfl) fun a hf => td_y hf rfl rfl rfl rfl hS (fun w hm => y_load1 Tryz.isAgg25 rfl rfl (hm.blk_cell 3 rfl rfl)) fun a hf => td_y hf rfl rfl rfl rfl hS (fun w hm => y_load1 Tryz.isAgg3 rfl rfl (hm.blk_cell 4 rfl rfl)) fun a hf => te_one ?_
                 obtain ⟨r7_2, hx7_3, hq6_1⟩ := bnd hq6_1
                 refine td_ef hf rfl rfl rfl rfl (e_callv hf rfl rfl rfl ⟨91, [(.pointer (some ⟨b0_2, 0, none⟩)), (.pointer (some ⟨b0_1, 0, none⟩))], rfl, Tryz.call91, pimpl_running__doIns_1_ok _ 0 regs (.slice p0_1 regs.length c0_1) (rep_later (hm.ow_rep 5 rfl) (Below.refl _ _)) b0_2 (hm.blk_later 3 rfl (Below.refl _ _)) x_ v1 (rep_later (hm.now h1) (Below.refl _ _)) b0_1 (hm.blk_later 4 rfl (Below.refl _ _)) _ hx7_3⟩) ?_
                 clear hf a; rintro v7_4 w7_4 a ho7_2 hf
                 obtain ⟨rfl, hB⟩ := ho7_2
                 replace hm := hm.below' hB; clear hB
                 clear hS
                 have hS : Mem w0 hz _ [blk bp0 [v1p, (.int .i64 (q0_1.steps)), (.int .i64 (q0_1.used)), v0_4, (.int .i64 ((q0_1.cells.getD 0 0))), (.int .i64 ((q0_1.cells.getD 1 0))), (.int .i64 ((q0_1.cells.getD 2 0))), (.int .i64 ((q0_1.cells.getD 3 0))), (.int .i64 ((q0_1.cells.getD 4 0))), (.int .i64 ((q0_1.cells.getD 5 0))), (.int .i64 ((q0_1.cells.getD 6 0))), (.int .i64 ((q0_1.cells.getD 7 0))), (.int .i64 ((q0_1.cells.getD 8 0))), (.int .i64 ((q0_1.cells.getD 9 0))), (.int .i64 ((q0_1.cells.getD 10 0))), (.int .i64 ((q0_1.cells.getD 11 0))), (.int .i64 ((q0_1.cells.getD 12 0))), (.int .i64 ((q0_1.cells.getD 13 0))), (.int .i64 ((q0_1.cells.getD 14 0))), (.int .i64 ((q0_1.cells.getD 15 0))), v0_5] 61, ow [v0_4] q0_1.said, ow [v0_5] q0_1.trace, blk b0_2 [(.slice p0_1 regs.length c0_1)] 25, blk b0_1 [(.int .i64 (x_.op)), (.int .i64 (x_.to)), v1, (.int .i64 (x_.n_))] 91, ow [(.slice p0_1 regs.length c0_1)] regs] := hm.pick [0, 1, 2, 3, 4, 5] (by decide) rfl
                 refine ⟨fun _ => hS, ?_⟩
                 obtain ⟨x7_1, hx7_4, hq6_1⟩ := bnd hq6_1
                 obtain ⟨h7_4, hx7_5⟩ := getI_some.1 hx7_4
                 obtain ⟨b7_2, o7_1, c7_1, he⟩ := idx_form (hm.ow_rep 5 rfl) hx7_5
                 simp only [Value.slice.injEq, Option.some.injEq] at he; obtain ⟨rfl, _, rfl⟩ := he
                 refine td_p hf rfl rfl rfl rfl (fun w => y_indexAddr st_25 rfl rfl rfl h7_4 (idx_lt hx7_5)) fun a hf => te_one (td_ef0 hf rfl rfl rfl (e_setElem (x1 := r7_2) (j := 0) (vs := [(.int .i64 (r7_2))]) 5 hf hm rfl hx7_5 rfl Tryz.sizeOf3 rfl rfl rfl (one_cons rfl one_nil) rfl rfl) ?_)
                 clear hf a; rintro _ w7_5 a hm hf
                 have hx7_6 := List.getElem?_set_self (a := r7_2) (idx_lt hx7_5)
                 refine ⟨fun h => absurd h (by decide), ?_⟩
                 clear hS; refine td_end ?_
                 refine x_then_n ?_
                 obtain rfl := Option.some.inj hq6_1
                 exact ⟨_, rfl, hf.sub trivial, hm.pick [0, 1, 2, 5] (by decide) rfl⟩
                ·
                 replace hq6_1 := (ite_f h7_2).symm.trans hq6_1
                 have h7_5 := of_decide_eq_false h7_2
                 refine cond_f hf rfl h7_2 (wp_seq (wp_region_lit (st_y hf rfl rfl rfl (y_eql rfl rfl rfl) fun a hf => st_y hf rfl rfl rfl (y_assign rfl rfl) fun a hf => st_end (x_then_n ?_))))
                 obtain ⟨c7_2, hq7_1, hq6_1⟩ := bnd hq6_1
                 refine code_cut (K := fun a w => ∃ s7_1, c7_2 = .inl s7_1 ∧ Fr 120 [] a ∧ Mem w0 hz w [blk bp0 [v1p, (.int .i64 (q0_1.steps)), (.int .i64 (q0_1.used)), v0_4, (.int .i64 ((q0_1.cells.getD 0 0))), (.int .i64 ((q0_1.cells.getD 1 0))), (.int .i64 ((q0_1.cells.getD 2 0))), (.int .i64 ((q0_1.cells.getD 3 0))), (.int .i64 ((q0_1.cells.getD 4 0))), (.int .i64 ((q0_1.cells.getD 5 0))), (.int .i64 ((q0_1.cells.getD 6 0))), (.int .i64 ((q0_1.cells.getD 7 0))), (.int .i64 ((q0_1.cells.getD 8 0))), (.int .i64 ((q0_1.cells.getD 9 0))), (.int .i64 ((q0_1.cells.getD 10 0))), (.int .i64 ((q0_1.cells.getD 11 0))), (.int .i64 ((q0_1.cells.getD 12 0))), (.int .i64 ((q0_1.cells.getD 13 0))), (.int .i64 ((q0_1.cells.getD 14 0))), (.int .i64 ((q0_1.cells.getD 15 0))), v0_5] 61, ow [v0_4] q0_1.said, ow [v0_5] q0_1.trace, ow [(.slice p0_1 regs.length c0_1)] s7_1]) ?_ ?_
                 ·
                  rcases bcases (decide (x_.op = 10)) with h8_1 | h8_1
                  ·
                   replace hq7_1 := (ite_t h8_1).symm.trans hq7_1
                   have h8_2 := of_decide_eq_true h8_1
                   refine cond_t hf rfl h8_1 (wp_treeX (.p 1 (.p 3 (.q 0 (.q 2 (.e 4 (.e 5 (.p 6 (.p 7 (.p 8 (.p 9 (.e 10 .fin .nil))))) .nil) .nil))))) [0, 2, 4, 5] [1, 3, 6, 7, 8, 9] (fun w => Mem w0 hz w [blk bp0 [v1p, (.int .i64 (q0_1.steps)), (.int .i64 (q0_1.used)), v0_4, (.int .i64 ((q0_1.cells.getD 0 0))), (.int .i64 ((q0_1.cells.getD 1 0))), (.int .i64 ((q0_1.cells.getD 2 0))), (.int .i64 ((q0_1.cells.getD 3 0))), (.int .i64 ((q0_1.cells.getD 4 0))), (.int .i64 ((q0_1.cells.getD 5 0))), (.int .i64 ((q0_1.cells.getD 6 0))), (.int .i64 ((q0_1.cells.getD 7 0))), (.int .i64 ((q0_1.cells.getD 8 0))), (.int .i64 ((q0_1.cells.getD 9 0))), (.int .i64 ((q0_1.cells.getD 10 0))), (.int .i64 ((q0_1.cells.getD 11 0))), (.int .i64 ((q0_1.cells.getD 12 0))), (.int .i64 ((q0_1.cells.getD 13 0))), (.int .i64 ((q0_1.cells.getD 14 0))), (.int .i64 ((q0_1.cells.getD 15 0))), v0_5] 61, ow [v0_4] q0_1.said, ow [v0_5] q0_1.trace, blk b0_2 [(.slice p0_1 regs.length c0_1)] 25, blk b0_1 [(.int .i64 (x_.op)), (.int .i64 (x_.to)), v1, (.int .i64 (x_.n_))] 91, ow [(.slice p0_1 regs.length c0_1)] regs]) (by kernel_rfl) (by kernel_rfl) (fun _ _ _ _ e h => And.intro (e.symm.trans h.1) h.2) ?_)
                   replace hm := hm.drew
                   have hS : Mem w0 hz _ [blk bp0 [v1p, (.int .i64 (q0_1.steps)), (.int .i64 (q0_1.used)), v0_4, (.int .i64 ((q0_1.cells.getD 0 0))), (.int .i64 ((q0_1.cells.getD 1 0))), (.int .i64 ((q0_1.cells.getD 2 0))), (.int .i64 ((q0_1.cells.getD 3 0))), (.int .i64 ((q0_1.cells.getD 4 0))), (.int .i64 ((q0_1.cells.getD 5 0))), (.int .i64 ((q0_1.cells.getD 6 0))), (.int .i64 ((q0_1.cells.getD 7 0))), (.int .i64 ((q0_1.cells.getD 8 0))), (.int .i64 ((q0_1.cells.getD 9 0))), (.int .i64 ((q0_1.cells.getD 10 0))), (.int .i64 ((q0_1.cells.getD 11 0))), (.int .i64 ((q0_1.cells.getD 12 0))), (.int .i64 ((q0_1.cells.getD 13 0))), (.int .i64 ((q0_1.cells.getD 14 0))), (.int .i64 ((q0_1.cells.getD 15 0))), v0_5] 61, ow [v0_4] q0_1.said, ow [v0_5] q0_1.trace, blk b0_2 [(.slice p0_1 regs.length c0_1)] 25, blk b0_1 [(.int .i64 (x_.op)), (.int .i64 (x_.to)), v1, (.int .i64 (x_.n_))] 91, ow [(.slice p0_1 regs.length c0_1)] regs] := hm.pick [0, 1, 2, 3, 4, 5] (by decide) rfl
                   refine td_p hf rfl rfl rfl rfl (fun w => y_fieldAddr fo_91_1 rfl rfl) fun a hf => td_p hf rfl rfl rfl rfl (fun w => y_move rfl rfl) fun a hf => td_y hf rfl rfl rfl rfl hS (fun w hm => y_load1 Tryz.isAgg25 rfl rfl (hm.blk_cell 3 rfl rfl)) fun a hf => td_y hf rfl rfl rfl rfl hS (fun w hm => y_load1 Tryz.isAgg3 rfl rfl (hm.blk_cell 4 rfl rfl)) fun a hf => te_one ?_
                   obtain ⟨r8_1, hx8_1, hq7_1⟩ := bnd hq7_1
                   refine td_ef hf rfl rfl rfl rfl (e_callv hf rfl rfl rfl ⟨91, [(.pointer (some ⟨b0_2, 0, none⟩)), (.pointer (some ⟨b0_1, 0, none⟩))], rfl, Tryz.call91, pimpl_running__doIns_1_ok _ 0 regs (.slice p0_1 regs.length c0_1) (rep_later (hm.ow_rep 5 rfl) (Below.refl _ _)) b0_2 (hm.blk_later 3 rfl (Below.refl _ _)) x_ v1 (rep_later (hm.now h1) (Below.refl _ _)) b0_1 (hm.blk_later 4 rfl (Below.refl _ _)) _ hx8_1⟩) ?_
                   clear hf a; rintro v8_1 w8_1 a ho8_1 hf
                   obtain ⟨rfl, hB⟩ := ho8_1
                   replace hm := hm.below' hB; clear hB
                   clear hS
                   have hS : Mem w0 hz _ [blk bp0 [v1p, (.int .i64 (q0_1.steps)), (.int .i64 (q0_1.used)), v0_4, (.int .i64 ((q0_1.cells.getD 0 0))), (.int .i64 ((q0_1.cells.getD 1 0))), (.int .i64 ((q0_1.cells.getD 2 0))), (.int .i64 ((q0_1.cells.getD 3 0))), (.int .i64 ((q0_1.cells.getD 4 0))), (.int .i64 ((q0_1.cells.getD 5 0))), (.int .i64 ((q0_1.cells.getD 6 0))), (.int .i64 ((q0_1.cells.getD 7 0))), (.int .i64 ((q0_1.cells.getD 8 0))), (.int .i64 ((q0_1.cells.getD 9 0))), (.int .i64 ((q0_1.cells.getD 10 0))), (.int .i64 ((q0_1.cells.getD 11 0))), (.int .i64 ((q0_1.cells.getD 12 0))), (.int .i64 ((q0_1.cells.getD 13 0))), (.int .i64 ((q0_1.cells.getD 14 0))), (.int .i64 ((q0_1.cells.getD 15 0))), v0_5] 61, ow [v0_4] q0_1.said, ow [v0_5] q0_1.trace, blk b0_2 [(.slice p0_1 regs.length c0_1)] 25, blk b0_1 [(.int .i64 (x_.op)), (.int .i64 (x_.to)), v1, (.int .i64 (x_.n_))] 91, ow [(.slice p0_1 regs.length c0_1)] regs] := hm.pick [0, 1, 2, 3, 4, 5] (by decide) rfl
                   refine ⟨fun _ => hS, ?_⟩
                   refine te_one ?_
                   obtain ⟨r8_2, hx8_2, hq7_1⟩ := bnd hq7_1
                   refine td_ef hf rfl rfl rfl rfl (e_call hf rfl Tryz.call93 rfl (impl_arith_ok _ 11 r8_1 0 _ hx8_2)) ?_
                   clear hf a; rintro v8_2 w8_2 a ho8_2 hf
                   obtain ⟨rfl, hB⟩ := ho8_2
                   replace hm := hm.below' hB; clear hB
                   clear hS
                   have hS : Mem w0 hz _ [blk bp0 [v1p, (.int .i64 (q0_1.steps)), (.int .i64 (q0_1.used)), v0_4, (.int .i64 ((q0_1.cells.getD 0 0))), (.int .i64 ((q0_1.cells.getD 1 0))), (.int .i64 ((q0_1.cells.getD 2 0))), (.int .i64 ((q0_1.cells.getD 3 0))), (.int .i64 ((q0_1.cells.getD 4 0))), (.int .i64 ((q0_1.cells.getD 5 0))), (.int .i64 ((q0_1.cells.getD 6 0))), (.int .i64 ((q0_1.cells.getD 7 0))), (.int .i64 ((q0_1.cells.getD 8 0))), (.int .i64 ((q0_1.cells.getD 9 0))), (.int .i64 ((q0_1.cells.getD 10 0))), (.int .i64 ((q0_1.cells.getD 11 0))), (.int .i64 ((q0_1.cells.getD 12 0))), (.int .i64 ((q0_1.cells.getD 13 0))), (.int .i64 ((q0_1.cells.getD 14 0))), (.int .i64 ((q0_1.cells.getD 15 0))), v0_5] 61, ow [v0_4] q0_1.said, ow [v0_5] q0_1.trace, blk b0_2 [(.slice p0_1 regs.length c0_1)] 25, blk b0_1 [(.int .i64 (x_.op)), (.int .i64 (x_.to)), v1, (.int .i64 (x_.n_))] 91, ow [(.slice p0_1 regs.length c0_1)] regs] := hm.pick [0, 1, 2, 3, 4, 5] (by decide) rfl
                   refine ⟨fun _ => hS, ?_⟩
                   refine td_p hf rfl rfl rfl rfl (fun w => y_move rfl rfl) fun a hf => td_p hf rfl rfl rfl rfl (fun w => y_extract rfl rfl rfl) fun a hf => td_p hf rfl rfl rfl rfl (fun w => y_extract rfl rfl rfl) fun a hf => ?_
                   obtain ⟨x8_1, hx8_3, hq7_1⟩ := bnd hq7_1
                   obtain ⟨h8_3, hx8_4⟩ := getI_some.1 hx8_3
                   obtain ⟨b8_1, o8_1, c8_1, he⟩ := idx_form (hm.ow_rep 5 rfl) hx8_4
                   simp only [Value.slice.injEq, Option.some.injEq] at he; obtain ⟨rfl, _, rfl⟩ := he
                   refine td_p hf rfl rfl rfl rfl (fun w => y_indexAddr st_25 rfl rfl rfl h8_3 (idx_lt hx8_4)) fun a hf => te_one (td_ef0 hf rfl rfl rfl (e_setElem (x1 := r8_2.1) (j := 0) (vs := [(.int .i64 (r8_2.1))]) 5 hf hm rfl hx8_4 rfl Tryz.sizeOf3 rfl rfl rfl (one_cons rfl one_nil) rfl rfl) ?_)
                   clear hf a; rintro _ w8_3 a hm hf
                   have hx8_5 := List.getElem?_set_self (a := r8_2.1) (idx_lt hx8_4)
                   refine ⟨fun h => absurd h (by decide), ?_⟩
                   clear hS; refine td_end ?_
                   refine x_then_n ?_
                   obtain rfl := Option.some.inj hq7_1
                   exact ⟨_, rfl, hf.sub trivial, hm.pick [0, 1, 2, 5] (by decide) rfl⟩
                  ·
                   replace hq7_1 := (ite_f h8_1).symm.trans hq7_1
                   have h8_4 := of_decide_eq_false h8_1
                   refine cond_f hf rfl h8_1 (wp_seq (wp_treeX (.p 0 (.p 2 (.p 4 (.q 1 (.e 3 (.e 5 (.e 6 (.p 7 (.p 8 (.p 9 (.p 10 (.p 11 .fin))))) .nil) .nil) .nil))))) [3, 5] [0, 2, 4, 7, 8, 9, 10, 11] (fun w => Mem w0 hz w [blk bp0 [v1p, (.int .i64 (q0_1.steps)), (.int .i64 (q0_1.used)), v0_4, (.int .i64 ((q0_1.cells.getD 0 0))), (.int .i64 ((q0_1.cells.getD 1 0))), (.int .i64 ((q0_1.cells.getD 2 0))), (.int .i64 ((q0_1.cells.getD 3 0))), (.int .i64 ((q0_1.cells.getD 4 0))), (.int .i64 ((q0_1.cells.getD 5 0))), (.int .i64 ((q0_1.cells.getD 6 0))), (.int .i64 ((q0_1.cells.getD 7 0))), (.int .i64 ((q0_1.cells.getD 8 0))), (.int .i64 ((q0_1.cells.getD 9 0))), (.int .i64 ((q0_1.cells.getD 10 0))), (.int .i64 ((q0_1.cells.getD 11 0))), (.int .i64 ((q0_1.cells.getD 12 0))), (.int .i64 ((q0_1.cells.getD 13 0))), (.int .i64 ((q0_1.cells.getD 14 0))), (.int .i64 ((q0_1.cells.getD 15 0))), v0_5] 61, ow [v0_4] q0_1.said, ow [v0_5] q0_1.trace, blk b0_2 [(.slice p0_1 regs.length c0_1)] 25, blk b0_1 [(.int .i64 (x_.op)), (.int .i64 (x_.to)), v1, (.int .i64 (x_.n_))] 91, ow [(.slice p0_1 regs.length c0_1)] regs]) (by kernel_rfl) (by kernel_rfl) (fun _ _ _ _ e h => And.intro (e.symm.trans h.1) h.2) ?_))
                   replace hm := hm.drew
                   have hS : Mem w0 hz _ [blk bp0 [v1p, (.int .i64 (q0_1.steps)), (.int .i64 (q0_1.used)), v0_4, (.int .i64 ((q0_1.cells.getD 0 0))), (.int .i64 ((q0_1.cells.getD 1 0))), (.int .i64 ((q0_1.cells.getD 2 0))), (.int .i64 ((q0_1.cells.getD 3 0))), (.int .i64 ((q0_1.cells.getD 4 0))), (.int .i64 ((q0_1.cells.getD 5 0))), (.int .i64 ((q0_1.cells.getD 6 0))), (.int .i64 ((q0_1.cells.getD 7 0))), (.int .i64 ((q0_1.cells.getD 8 0))), (.int .i64 ((q0_1.cells.getD 9 0))), (.int .i64 ((q0_1.cells.getD 10 0))), (.int .i64 ((q0_1.cells.getD 11 0))), (.int .i64 ((q0_1.cells.getD 12 0))), (.int .i64 ((q0_1.cells.getD 13 0))), (.int .i64 ((q0_1.cells.getD 14 0))), (.int .i64 ((q0_1.cells.getD 15 0))), v0_5] 61, ow [v0_4] q0_1.said, ow [v0_5] q0_1.trace, blk b0_2 [(.slice p0_1 regs.length c0_1)] 25, blk b0_1 [(.int .i64 (x_.op)), (.int .i64 (x_.to)), v1, (.int .i64 (x_.n_))] 91, ow [(.slice p0_1 regs.length c0_1)] regs] := hm.pick [0, 1, 2, 3, 4, 5] (by decide) rfl
                   refine td_p hf rfl rfl rfl rfl (fun w => y_fieldAddr fo_91_0 rfl rfl) fun a hf => td_p hf rfl rfl rfl rfl (fun w => y_move rfl rfl) fun a hf => td_p hf rfl rfl rfl rfl (fun w => y_move rfl rfl) fun a hf => td_y hf rfl rfl rfl rfl hS (fun w hm => y_load1 Tryz.isAgg3 rfl rfl (hm.blk_cell 4 rfl rfl)) fun a hf => te_one ?_
                   obtain ⟨r8_3, hx8_6, hq7_1⟩ := bnd hq7_1
                   refine td_ef hf rfl rfl rfl rfl (e_callv hf rfl rfl rfl ⟨91, [(.pointer (some ⟨b0_2, 0, none⟩)), (.pointer (some ⟨b0_1, 0, none⟩))], rfl, Tryz.call91, pimpl_running__doIns_1_ok _ 0 regs (.slice p0_1 regs.length c0_1) (rep_later (hm.ow_rep 5 rfl) (Below.refl _ _)) b0_2 (hm.blk_later 3 rfl (Below.refl _ _)) x_ v1 (rep_later (hm.now h1) (Below.refl _ _)) b0_1 (hm.blk_later 4 rfl (Below.refl _ _)) _ hx8_6⟩) ?_
                   clear hf a; rintro v8_3 w8_4 a ho8_3 hf
                   obtain ⟨rfl, hB⟩ := ho8_3
                   replace hm := hm.below' hB; clear hB
                   clear hS
                   have hS : Mem w0 hz _ [blk bp0 [v1p, (.int .i64 (q0_1.steps)), (.int .i64 (q0_1.used)), v0_4, (.int .i64 ((q0_1.cells.getD 0 0))), (.int .i64 ((q0_1.cells.getD 1 0))), (.int .i64 ((q0_1.cells.getD 2 0))), (.int .i64 ((q0_1.cells.getD 3 0))), (.int .i64 ((q0_1.cells.getD 4 0))), (.int .i64 ((q0_1.cells.getD 5 0))), (.int .i64 ((q0_1.cells.getD 6 0))), (.int .i64 ((q0_1.cells.getD 7 0))), (.int .i64 ((q0_1.cells.getD 8 0))), (.int .i64 ((q0_1.cells.getD 9 0))), (.int .i64 ((q0_1.cells.getD 10 0))), (.int .i64 ((q0_1.cells.getD 11 0))), (.int .i64 ((q0_1.cells.getD 12 0))), (.int .i64 ((q0_1.cells.getD 13 0))), (.int .i64 ((q0_1.cells.getD 14 0))), (.int .i64 ((q0_1.cells.getD 15 0))), v0_5] 61, ow [v0_4] q0_1.said, ow [v0_5] q0_1.trace, blk b0_2 [(.slice p0_1 regs.length c0_1)] 25, blk b0_1 [(.int .i64 (x_.op)), (.int .i64 (x_.to)), v1, (.int .i64 (x_.n_))] 91, ow [(.slice p0_1 regs.length c0_1)] regs] := hm.pick [0, 1, 2, 3, 4, 5] (by decide) rfl
                   refine ⟨fun _ => hS, ?_⟩
                   refine te_one ?_
                   obtain ⟨r8_4, hx8_7, hq7_1⟩ := bnd hq7_1
                   refine td_ef hf rfl rfl rfl rfl (e_callv hf rfl rfl rfl ⟨91, [(.pointer (some ⟨b0_2, 0, none⟩)), (.pointer (some ⟨b0_1, 0, none⟩))], rfl, Tryz.call91, pimpl_running__doIns_1_ok _ 1 regs (.slice p0_1 regs.length c0_1) (rep_later (hm.ow_rep 5 rfl) (Below.refl _ _)) b0_2 (hm.blk_later 3 rfl (Below.refl _ _)) x_ v1 (rep_later (hm.now h1) (Below.refl _ _)) b0_1 (hm.blk_later 4 rfl (Below.refl _ _)) _ hx8_7⟩) ?_
                   clear hf a; rintro v8_4 w8_5 a ho8_4 hf
                   obtain ⟨rfl, hB⟩ := ho8_4
                   replace hm := hm.below' hB; clear hB
                   clear hS
                   have hS : Mem w0 hz _ [blk bp0 [v1p, (.int .i64 (q0_1.steps)), (.int .i64 (q0_1.used)), v0_4, (.int .i64 ((q0_1.cells.getD 0 0))), (.int .i64 ((q0_1.cells.getD 1 0))), (.int .i64 ((q0_1.cells.getD 2 0))), (.int .i64 ((q0_1.cells.getD 3 0))), (.int .i64 ((q0_1.cells.getD 4 0))), (.int .i64 ((q0_1.cells.getD 5 0))), (.int .i64 ((q0_1.cells.getD 6 0))), (.int .i64 ((q0_1.cells.getD 7 0))), (.int .i64 ((q0_1.cells.getD 8 0))), (.int .i64 ((q0_1.cells.getD 9 0))), (.int .i64 ((q0_1.cells.getD 10 0))), (.int .i64 ((q0_1.cells.getD 11 0))), (.int .i64 ((q0_1.cells.getD 12 0))), (.int .i64 ((q0_1.cells.getD 13 0))), (.int .i64 ((q0_1.cells.getD 14 0))), (.int .i64 ((q0_1.cells.getD 15 0))), v0_5] 61, ow [v0_4] q0_1.said, ow [v0_5] q0_1.trace, blk b0_2 [(.slice p0_1 regs.length c0_1)] 25, blk b0_1 [(.int .i64 (x_.op)), (.int .i64 (x_.to)), v1, (.int .i64 (x_.n_))] 91, ow [(.slice p0_1 regs.length c0_1)] regs] := hm.pick [0, 1, 2, 3, 4, 5] (by decide) rfl
                   refine ⟨fun _ => hS, ?_⟩
                   refine te_one ?_
                   obtain ⟨r8_5, hx8_8, hq7_1⟩ := bnd hq7_1
                   refine td_ef hf rfl rfl rfl rfl (e_call hf rfl Tryz.call93 rfl (impl_arith_ok _ x_.op r8_3 r8_4 _ hx8_8)) ?_
                   clear hf a; rintro v8_5 w8_6 a ho8_5 hf
                   obtain ⟨rfl, hB⟩ := ho8_5
                   replace hm := hm.below' hB; clear hB
                   refine ⟨fun h => absurd h (by decide), ?_⟩
                   refine td_p hf rfl rfl rfl rfl (fun w => y_move rfl rfl) fun a hf => td_p hf rfl rfl rfl rfl (fun w => y_extract rfl rfl rfl) fun a hf => td_p hf rfl rfl rfl rfl (fun w => y_extract rfl rfl rfl) fun a hf => td_p hf rfl rfl rfl rfl (fun w => y_assign rfl rfl) fun a hf => td_p hf rfl rfl rfl rfl (fun w => y_assign rfl rfl) fun a hf => ?_
                   clear hS; refine td_end ?_
                   refine x_then_n (wp_seq (wp_seq (wp_region_lit (st_y hf rfl rfl rfl (y_move rfl rfl) fun a hf => st_y hf rfl rfl rfl (y_not rfl rfl) fun a hf => st_end (x_then_n ?_)))))
                   obtain ⟨c8_2, hq8_1, hq7_1⟩ := bnd hq7_1
                   refine code_cut (K := fun a w => ∃ s8_1, c8_2 = .inl s8_1 ∧ Fr 120 [(4, (.pointer (some ⟨b0_1, 0, none⟩))), (5, (.pointer (some ⟨b0_2, 0, none⟩))), (9, (.int .i64 (r8_5.1)))] a ∧ Mem w0 hz w [blk b0_1 [(.int .i64 (x_.op)), (.int .i64 (x_.to)), v1, (.int .i64 (x_.n_))] 91, blk b0_2 [(.slice p0_1 regs.length c0_1)] 25, ow [(.slice p0_1 regs.length c0_1)] regs, blk bp0 [v1p, (.int .i64 (q0_1.steps)), (.int .i64 (q0_1.used)), v0_4, (.int .i64 ((q0_1.cells.getD 0 0))), (.int .i64 ((q0_1.cells.getD 1 0))), (.int .i64 ((q0_1.cells.getD 2 0))), (.int .i64 ((q0_1.cells.getD 3 0))), (.int .i64 ((q0_1.cells.getD 4 0))), (.int .i64 ((q0_1.cells.getD 5 0))), (.int .i64 ((q0_1.cells.getD 6 0))), (.int .i64 ((q0_1.cells.getD 7 0))), (.int .i64 ((q0_1.cells.getD 8 0))), (.int .i64 ((q0_1.cells.getD 9 0))), (.int .i64 ((q0_1.cells.getD 10 0))), (.int .i64 ((q0_1.cells.getD 11 0))), (.int .i64 ((q0_1.cells.getD 12 0))), (.int .i64 ((q0_1.cells.getD 13 0))), (.int .i64 ((q0_1.cells.getD 14 0))), (.int .i64 ((q0_1.cells.getD 15 0))), v0_5] 61, ow [v0_4] q0_1.said, ow [v0_5] q0_1.trace]) ?_ ?_
                   ·
                    rcases bcases (!(r8_5.2)) with h9_1 | h9_1
                    ·
                     replace hq8_1 := (ite_t h9_1).symm.trans hq8_1
                     have h9_2 := bnot_t' h9_1
                     refine cond_t hf rfl h9_1 (wp_region_lit ?_)
                     obtain ⟨r9_1, hx9_1, hq8_1⟩ := bnd hq8_1
                     refine st_efx hf rfl rfl rfl (e_callx hf rfl Tryz.call94 rfl (impl_stop_ok _ 1 _ hx9_1)) ?_ ?_
                     ·
                      rintro c w9_1 ⟨q9_2, rfl, ho9_1⟩
                      replace hq8_1 := sum_r hq8_1
                      obtain ⟨rfl, hB⟩ := ho9_1
                      replace hm := hm.below' hB; clear hB
                      obtain rfl := Option.some.inj hq8_1
                      replace hq7_1 := sum_r hq7_1
                      obtain rfl := Option.some.inj hq7_1
                      replace hq6_1 := sum_r hq6_1
                      obtain rfl := Option.some.inj hq6_1
                      replace hq5_1 := sum_r hq5_1
                      obtain rfl := Option.some.inj hq5_1
                      replace hq4_1 := sum_r hq4_1
                      obtain rfl := Option.some.inj hq4_1
                      replace hq3_1 := sum_r hq3_1
                      obtain rfl := Option.some.inj hq3_1
                      replace hq2_1 := sum_r hq2_1
                      obtain rfl := Option.some.inj hq2_1
                      replace hq1_1 := sum_r hq1_1
                      obtain rfl := Option.some.inj hq1_1
                      replace hq0_1 := sum_r hq0_1
                      obtain rfl := Option.some.inj hq0_1
                      replace hq := sum_r hq
                      obtain rfl := Option.some.inj hq
                      refine And.intro hf.defers (rx_intro ?_)
                      exact ⟨_, rfl, v0_4, v0_5, rfl, hm.pick [0, 1, 2, 5] (by decide) rfl⟩
                     clear hf a; rintro v9_1 w9_2 a ⟨q9_1, rfl, ho9_1⟩ hf
                     replace hq8_1 := sum_l hq8_1
                     obtain ⟨rfl, hB⟩ := ho9_1
                     replace hm := hm.below' hB; clear hB
                     refine st_end (x_then_n ?_)
                     obtain rfl := Option.some.inj hq8_1
                     exact ⟨_, rfl, hf.sub ⟨rfl, rfl, rfl, trivial⟩, hm.pick [4, 3, 5, 0, 1, 2] (by decide) rfl⟩
                    ·
                     replace hq8_1 := (ite_f h9_1).symm.trans hq8_1
                     have h9_3 := bnot_f' h9_1
                     refine cond_f hf rfl h9_1 (wp_skip (x_then_n ?_))
                     obtain rfl := Option.some.inj hq8_1
                     exact ⟨_, rfl, hf.sub ⟨rfl, rfl, rfl, trivial⟩, hm.pick [4, 3, 5, 0, 1, 2] (by decide) rfl⟩
                   ·
                    clear hf hm
                    rintro a w ⟨s8_1, rfl, hf, hm⟩
                    replace hq7_1 := sum_l hq7_1
                    refine x_then_n (wp_region_lit (st_y hf rfl rfl rfl (y_load1 Tryz.isAgg25 rfl rfl (hm.blk_cell 1 rfl rfl)) fun a hf => st_y hf rfl rfl rfl (y_fieldAddr fo_91_1 rfl rfl) fun a hf => st_y hf rfl rfl rfl (y_load1 Tryz.isAgg3 rfl rfl (hm.blk_cell 0 rfl rfl)) fun a hf => st_y hf rfl rfl rfl (y_move rfl rfl) fun a hf => ?_))
                    obtain ⟨x8_2, hx8_9, hq7_1⟩ := bnd hq7_1
                    obtain ⟨h8_5, hx8_10⟩ := getI_some.1 hx8_9
                    obtain ⟨b8_2, o8_2, c8_3, he⟩ := idx_form (hm.ow_rep 2 rfl) hx8_10
                    simp only [Value.slice.injEq, Option.some.injEq] at he; obtain ⟨rfl, _, rfl⟩ := he
                    refine st_y hf rfl rfl rfl (y_indexAddr st_25 rfl rfl rfl h8_5 (idx_lt hx8_10)) fun a hf => st_ef0 hf rfl rfl (e_setElem (x1 := r8_5.1) (j := 0) (vs := [(.int .i64 (r8_5.1))]) 2 hf hm rfl hx8_10 rfl Tryz.sizeOf3 rfl rfl rfl (one_cons rfl one_nil) rfl rfl) ?_
                    clear hf a; rintro _ w8_7 a hm hf
                    have hx8_11 := List.getElem?_set_self (a := r8_5.1) (idx_lt hx8_10)
                    refine st_end (x_then_n ?_)
                    obtain rfl := Option.some.inj hq7_1
                    exact ⟨_, rfl, hf.sub trivial, hm.pick [3, 4, 5, 2] (by decide) rfl⟩
                 ·
                  clear hf hm
                  rintro a w ⟨s7_1, rfl, hf, hm⟩
                  replace hq6_1 := sum_l hq6_1
                  refine x_then_n ?_
                  obtain rfl := Option.some.inj hq6_1
                  exact ⟨_, rfl, hf.sub trivial, hm.pick [0, 1, 2, 3] (by decide) rfl⟩
               ·
                clear hf hm
                rintro a w ⟨s6_1, rfl, hf, hm⟩
                replace hq5_1 := sum_l hq5_1
                refine x_then_n ?_
                obtain rfl := Option.some.inj hq5_1
                exact ⟨_, rfl, v0_4, v0_5, hf.sub trivial, hm.pick [0, 1, 2, 3] (by decide) rfl⟩
             ·
              clear hf hm
              rintro a w ⟨s5_1, rfl, v5_3, v5_4, hf, hm⟩
              replace hq4_1 := sum_l hq4_1
              refine x_then_n ?_
              obtain rfl := Option.some.inj hq4_1
              exact ⟨_, rfl, v5_3, v5_4, hf.sub trivial, hm.pick [0, 1, 2, 3] (by decide) rfl⟩
           ·
            clear hf hm
            rintro a w ⟨s4_1, rfl, v4_4, v4_5, hf, hm⟩
            replace hq3_1 := sum_l hq3_1
            refine x_then_n ?_
            obtain rfl := Option.some.inj hq3_1
            exact ⟨_, rfl, v4_4, v4_5, hf.sub trivial, hm.pick [0, 1, 2, 3] (by decide) rfl⟩
         ·
          clear hf hm
          rintro a w ⟨s3_1, rfl, v3_3, v3_4, hf, hm⟩
          replace hq2_1 := sum_l hq2_1
          refine x_then_n ?_
          obtain rfl := Option.some.inj hq2_1
          exact ⟨_, rfl, v3_3, v3_4, hf.sub trivial, hm.pick [0, 1, 2, 3] (by decide) rfl⟩
       ·
        clear hf hm
        rintro a w ⟨s2_1, rfl, v2_1, v2_2, hf, hm⟩
        replace hq1_1 := sum_l hq1_1
        refine x_then_n ?_
        obtain rfl := Option.some.inj hq1_1
        exact ⟨_, rfl, v2_1, v2_2, hf.sub trivial, hm.pick [0, 1, 2, 3] (by decide) rfl⟩
     ·
      clear hf hm
      rintro a w ⟨s1_1, rfl, v1_1, v1_2, hf, hm⟩
      replace hq0_1 := sum_l hq0_1
      refine x_blk_n (x_then_n ?_)
      obtain rfl := Option.some.inj hq0_1
      exact ⟨_, rfl, v1_1, v1_2, hf.sub trivial, hm.pick [0, 1, 2, 3] (by decide) rfl⟩
    ·
     clear hf hm
     rintro a w ⟨s0_1, rfl, v0_6, v0_7, hf, hm⟩
     replace hq := sum_l hq
     obtain rfl := Option.some.inj hq
     refine ret_xn (ret_end hf Tryz.results68 ?_)
     exact ⟨_, rfl, ⟨v0_6, v0_7, rfl, hm.pick [0, 1, 2, 3] (by decide) rfl⟩⟩

theorem pimpl_running__code_ok (w0 : World) (hz : Heap) (m : running) (bp0 : Nat) (v1p : Value) (h1p : GT.rep hz [v1p] m.u.codes) (v2p : Value) (v3p : Value) (k_ : Int) (in_ : List Int) (v1 : Value) (h1 : GT.rep hz [v1] in_) (main : Bool) (hm0 : Mem w0 hz w0 [blk bp0 [v1p, (.int .i64 (m.steps)), (.int .i64 (m.used)), v2p, (.int .i64 ((m.cells.getD 0 0))), (.int .i64 ((m.cells.getD 1 0))), (.int .i64 ((m.cells.getD 2 0))), (.int .i64 ((m.cells.getD 3 0))), (.int .i64 ((m.cells.getD 4 0))), (.int .i64 ((m.cells.getD 5 0))), (.int .i64 ((m.cells.getD 6 0))), (.int .i64 ((m.cells.getD 7 0))), (.int .i64 ((m.cells.getD 8 0))), (.int .i64 ((m.cells.getD 9 0))), (.int .i64 ((m.cells.getD 10 0))), (.int .i64 ((m.cells.getD 11 0))), (.int .i64 ((m.cells.getD 12 0))), (.int .i64 ((m.cells.getD 13 0))), (.int .i64 ((m.cells.getD 14 0))), (.int .i64 ((m.cells.getD 15 0))), v3p] 61, ow [v2p] m.said, ow [v3p] m.trace]) (r : (Int × running) ⊕ (Int × running)) (hq : pimpl_running__code m k_ in_ main = some r) : ConX Tryz.prog 48 [(.pointer (some ⟨bp0, 0, none⟩)), (.int .i64 (k_)), v1, (.bool (main))] w0 (fun v w' => ∃ q, r = .inl q ∧ (∃ (x2 : Value) (x3 : Value), v = (.int .i64 (q.1)) ∧ Mem w0 hz w' [blk bp0 [v1p, (.int .i64 (q.2.steps)), (.int .i64 (q.2.used)), x2, (.int .i64 ((q.2.cells.getD 0 0))), (.int .i64 ((q.2.cells.getD 1 0))), (.int .i64 ((q.2.cells.getD 2 0))), (.int .i64 ((q.2.cells.getD 3 0))), (.int .i64 ((q.2.cells.getD 4 0))), (.int .i64 ((q.2.cells.getD 5 0))), (.int .i64 ((q.2.cells.getD 6 0))), (.int .i64 ((q.2.cells.getD 7 0))), (.int .i64 ((q.2.cells.getD 8 0))), (.int .i64 ((q.2.cells.getD 9 0))), (.int .i64 ((q.2.cells.getD 10 0))), (.int .i64 ((q.2.cells.getD 11 0))), (.int .i64 ((q.2.cells.getD 12 0))), (.int .i64 ((q.2.cells.getD 13 0))), (.int .i64 ((q.2.cells.getD 14 0))), (.int .i64 ((q.2.cells.getD 15 0))), x3] 61, ow [x2] q.2.said, ow [x3] q.2.trace])) (fun c w' => ∃ q, r = .inr q ∧ (∃ (x2 : Value) (x3 : Value), c = pch 97 q.1 ∧ Mem w0 hz w' [blk bp0 [v1p, (.int .i64 (q.2.steps)), (.int .i64 (q.2.used)), x2, (.int .i64 ((q.2.cells.getD 0 0))), (.int .i64 ((q.2.cells.getD 1 0))), (.int .i64 ((q.2.cells.getD 2 0))), (.int .i64 ((q.2.cells.getD 3 0))), (.int .i64 ((q.2.cells.getD 4 0))), (.int .i64 ((q.2.cells.getD 5 0))), (.int .i64 ((q.2.cells.getD 6 0))), (.int .i64 ((q.2.cells.getD 7 0))), (.int .i64 ((q.2.cells.getD 8 0))), (.int .i64 ((q.2.cells.getD 9 0))), (.int .i64 ((q.2.cells.getD 10 0))), (.int .i64 ((q.2.cells.getD 11 0))), (.int .i64 ((q.2.cells.getD 12 0))), (.int .i64 ((q.2.cells.getD 13 0))), (.int .i64 ((q.2.cells.getD 14 0))), (.int .i64 ((q.2.cells.getD 15 0))), x3] 61, ow [x2] q.2.said, ow [x3] q.2.trace])) := pimpl_running__code_all.1 m k_ in_ main r hq w0 hz bp0 v1p h1p v2p v3p v1 h1 hm0

theorem impl_runUnit_1_ok (w0 : World) (hz : Heap) (c0_ : running) (bpc0 : Nat) (bpd0 : Nat) (v1p : Value) (h1p : GT.rep hz [v1p] c0_.u.codes) (v2p : Value) (v3p : Value) (hbbpc0 : hz bpc0 = some (.cells ([(.pointer (some ⟨bpd0, 0, none⟩))] : List Value).toArray 56 (0, 0))) (c1_ : Unit_) (bpc1 : Nat) (v4p : Value) (h4p : GT.rep hz [v4p] c1_.codes) (hbbpc1 : hz bpc1 = some (.cells ([v4p] : List Value).toArray 30 (0, 0))) (c2_ : List Int) (bpc2 : Nat) (v5p : Value) (h5p : GT.rep hz [v5p] c2_) (hbbpc2 : hz bpc2 = some (.cells ([v5p] : List Value).toArray 25 (0, 0))) (c3_ : Outcome_) (bpc3 : Nat) (v6p : Value) (v7p : Value) (hm0 : Mem w0 hz w0 [blk bpd0 [v1p, (.int .i64 (c0_.steps)), (.int .i64 (c0_.used)), v2p, (.int .i64 ((c0_.cells.getD 0 0))), (.int .i64 ((c0_.cells.getD 1 0))), (.int .i64 ((c0_.cells.getD 2 0))), (.int .i64 ((c0_.cells.getD 3 0))), (.int .i64 ((c0_.cells.getD 4 0))), (.int .i64 ((c0_.cells.getD 5 0))), (.int .i64 ((c0_.cells.getD 6 0))), (.int .i64 ((c0_.cells.getD 7 0))), (.int .i64 ((c0_.cells.getD 8 0))), (.int .i64 ((c0_.cells.getD 9 0))), (.int .i64 ((c0_.cells.getD 10 0))), (.int .i64 ((c0_.cells.getD 11 0))), (.int .i64 ((c0_.cells.getD 12 0))), (.int .i64 ((c0_.cells.getD 13 0))), (.int .i64 ((c0_.cells.getD 14 0))), (.int .i64 ((c0_.cells.getD 15 0))), v3p] 61, ow [v2p] c0_.said, ow [v3p] c0_.trace, blk bpc3 [v6p, (.int .i64 (c3_.end_)), (.int .i64 (c3_.value)), v7p] 41, ow [v6p] c3_.said, ow [v7p] c3_.cells]) (r : (running × Outcome_) ⊕ (Int × running × Outcome_)) (hq : impl_runUnit_1 c0_ c1_ c2_ c3_ = some r) :
    ConX Tryz.prog 47 [(.pointer (some ⟨bpc0, 0, none⟩)), (.pointer (some ⟨bpc1, 0, none⟩)), (.pointer (some ⟨bpc2, 0, none⟩)), (.pointer (some ⟨bpc3, 0, none⟩))] w0 (fun v w' => ∃ q, r = .inl q ∧ (∃ (x2 : Value) (x3 : Value) (x4 : Value) (x5 : Value), v = (.tuple #[]) ∧ Mem w0 hz w' [blk bpd0 [v1p, (.int .i64 (q.1.steps)), (.int .i64 (q.1.used)), x2, (.int .i64 ((q.1.cells.getD 0 0))), (.int .i64 ((q.1.cells.getD 1 0))), (.int .i64 ((q.1.cells.getD 2 0))), (.int .i64 ((q.1.cells.getD 3 0))), (.int .i64 ((q.1.cells.getD 4 0))), (.int .i64 ((q.1.cells.getD 5 0))), (.int .i64 ((q.1.cells.getD 6 0))), (.int .i64 ((q.1.cells.getD 7 0))), (.int .i64 ((q.1.cells.getD 8 0))), (.int .i64 ((q.1.cells.getD 9 0))), (.int .i64 ((q.1.cells.getD 10 0))), (.int .i64 ((q.1.cells.getD 11 0))), (.int .i64 ((q.1.cells.getD 12 0))), (.int .i64 ((q.1.cells.getD 13 0))), (.int .i64 ((q.1.cells.getD 14 0))), (.int .i64 ((q.1.cells.getD 15 0))), x3] 61, blk bpc3 [x4, (.int .i64 (q.2.end_)), (.int .i64 (q.2.value)), x5] 41, ow [x2] q.1.said, ow [x3] q.1.trace, ow [x4] q.2.said, ow [x5] q.2.cells])) (fun c w' => ∃ q, r = .inr q ∧ (∃ (x2 : Value) (x3 : Value) (x4 : Value) (x5 : Value), c = pch 97 q.1 ∧ Mem w0 hz w' [blk bpd0 [v1p, (.int .i64 (q.2.1.steps)), (.int .i64 (q.2.1.used)), x2, (.int .i64 ((q.2.1.cells.getD 0 0))), (.int .i64 ((q.2.1.cells.getD 1 0))), (.int .i64 ((q.2.1.cells.getD 2 0))), (.int .i64 ((q.2.1.cells.getD 3 0))), (.int .i64 ((q.2.1.cells.getD 4 0))), (.int .i64 ((q.2.1.cells.getD 5 0))), (.int .i64 ((q.2.1.cells.getD 6 0))), (.int .i64 ((q.2.1.cells.getD 7 0))), (.int .i64 ((q.2.1.cells.getD 8 0))), (.int .i64 ((q.2.1.cells.getD 9 0))), (.int .i64 ((q.2.1.cells.getD 10 0))), (.int .i64 ((q.2.1.cells.getD 11 0))), (.int .i64 ((q.2.1.cells.getD 12 0))), (.int .i64 ((q.2.1.cells.getD 13 0))), (.int .i64 ((q.2.1.cells.getD 14 0))), (.int .i64 ((q.2.1.cells.getD 15 0))), x3] 61, blk bpc3 [x4, (.int .i64 (q.2.2.end_)), (.int .i64 (q.2.2.value)), x5] 41, ow [x2] q.2.1.said, ow [x3] q.2.1.trace, ow [x4] q.2.2.said, ow [x5] q.2.2.cells])) := by
  unfold impl_runUnit_1 at hq
  refine con_bodyx (l := [(0, (.pointer (some ⟨bpc0, 0, none⟩))), (1, (.pointer (some ⟨bpc1, 0, none⟩))), (2, (.pointer (some ⟨bpc2, 0, none⟩))), (3, (.pointer (some ⟨bpc3, 0, none⟩)))]) Tryz.func47 rfl Tryz.ntmps47 (Args.get ⟨rfl, rfl, rfl, rfl, trivial⟩) rfl ?_
  intro a hf
  have hm := hm0
  refine wp_region_lit (st_y hf rfl rfl rfl (y_load1 Tryz.isAgg56 rfl rfl (hm.hz_cell hbbpc0 rfl)) fun a hf => st_y hf rfl rfl rfl (y_fieldAddr fo_30_0 rfl rfl) fun a hf => st_y hf rfl rfl rfl (y_load1 Tryz.isAgg28 rfl rfl (hm.hz_cell hbbpc1 rfl)) fun a hf => ?_)
  obtain ⟨p0_1, c0_1, he, hl0_1⟩ := ro_slice h4p
  subst he
  refine st_y hf rfl rfl rfl (y_len_slice st_28.und rfl rfl) fun a hf => st_y hf rfl rfl rfl (y_sub64 rfl rfl rfl (by omega) (by omega)) fun a hf => st_y hf rfl rfl rfl (y_load1 Tryz.isAgg25 rfl rfl (hm.hz_cell hbbpc2 rfl)) fun a hf => ?_
  obtain ⟨r0_1, hx0_1, hq⟩ := bnd hq
  obtain ⟨hz0_1, hle, hm1, hsub, hk0_1⟩ := hm.take2 (L1 := [blk bpd0 [v1p, (.int .i64 (c0_.steps)), (.int .i64 (c0_.used)), v2p, (.int .i64 ((c0_.cells.getD 0 0))), (.int .i64 ((c0_.cells.getD 1 0))), (.int .i64 ((c0_.cells.getD 2 0))), (.int .i64 ((c0_.cells.getD 3 0))), (.int .i64 ((c0_.cells.getD 4 0))), (.int .i64 ((c0_.cells.getD 5 0))), (.int .i64 ((c0_.cells.getD 6 0))), (.int .i64 ((c0_.cells.getD 7 0))), (.int .i64 ((c0_.cells.getD 8 0))), (.int .i64 ((c0_.cells.getD 9 0))), (.int .i64 ((c0_.cells.getD 10 0))), (.int .i64 ((c0_.cells.getD 11 0))), (.int .i64 ((c0_.cells.getD 12 0))), (.int .i64 ((c0_.cells.getD 13 0))), (.int .i64 ((c0_.cells.getD 14 0))), (.int .i64 ((c0_.cells.getD 15 0))), v3p] 61, ow [v2p] c0_.said, ow [v3p] c0_.trace]) (L2 := [blk bpc3 [v6p, (.int .i64 (c3_.end_)), (.int .i64 (c3_.value)), v7p] 41, ow [v6p] c3_.said, ow [v7p] c3_.cells]) [0, 1, 2] [3, 4, 5] (by decide) rfl rfl
  refine st_efx hf rfl rfl rfl (e_callx hf rfl Tryz.call48 rfl (pimpl_running__code_ok _ hz0_1 c0_ bpd0 v1p (GT.mono hle h1p) v2p v3p (((c1_.codes.length : Int)) - 1) c2_ v5p (GT.mono hle h5p) true hm1  _ hx0_1)) ?_ ?_
  ·
   rintro c w0_1 ⟨q0_2, rfl, ho0_1⟩
   replace hq := sum_r hq
   obtain ⟨v0_1, v0_2, rfl, hB⟩ := ho0_1
   replace hm := hk0_1 _ _ hB; clear hB
   obtain rfl := Option.some.inj hq
   refine And.intro hf.defers (rx_intro ?_)
   exact ⟨_, rfl, v0_1, v0_2, v6p, v7p, rfl, hm.pick [0, 3, 1, 2, 4, 5] (by decide) rfl⟩
  clear hf a; rintro v0_3 w0_2 a ⟨q0_1, rfl, ho0_1⟩ hf
  replace hq := sum_l hq
  obtain ⟨v0_4, v0_5, rfl, hB⟩ := ho0_1
  replace hm := hk0_1 _ _ hB; clear hB
  refine st_y hf rfl rfl rfl (y_fieldAddr fo_41_2 rfl rfl) fun a hf => st_ef0 hf rfl rfl (e_store1 3 hf hm rfl Tryz.sizeOf3 rfl rfl rfl rfl rfl) ?_
  clear hf a; rintro _ w0_3 a hm hf
  refine st_end ?_
  obtain rfl := Option.some.inj hq
  refine ret_xn (ret_end hf Tryz.results47 ?_)
  exact ⟨_, rfl, ⟨v0_4, v0_5, v6p, v7p, rfl, hm.pick [0, 3, 1, 2, 4, 5] (by decide) rfl⟩⟩

theorem slices_Clone_S_int_int_ok (w0 : World) (s_ : List Int) (v1 : Value) (h1 : GT.rep (hp w0) [v1] s_) (r : (List Int)) (hq : slices_Clone_S_int_int s_ = some r) :
    Con Tryz.prog 49 [v1] w0 (fun v w' => ∃ (x1 : Value), v = x1 ∧ Mem w0 (hp w0) w' [ow [x1] r]) := by
  unfold slices_Clone_S_int_int at hq
  refine con_body (l := [(0, v1)]) Tryz.func49 rfl Tryz.ntmps49 (Args.get ⟨rfl, trivial⟩) rfl ?_
  intro a hf
  have hm := Mem.start w0
  refine wp_seq (wp_region_lit (st_y hf rfl rfl rfl (y_assign rfl rfl) fun a hf => st_end (x_then_n (wp_seq (wp_seq (wp_region_lit (st_y hf rfl rfl rfl (y_move rfl rfl) fun a hf => ?_)))))))
  rcases nil_or h1 with ⟨he, h0_1⟩ | ⟨p0_1, c0_1, he⟩
  ·
   subst he; subst h0_1
   replace hq : some ([] : List Int) = some r := by simpa [appM] using hq
   refine st_y hf rfl rfl rfl (y_eqnil_t st_25.und rfl rfl rfl) fun a hf => st_end (x_then_n (cond_t hf rfl rfl (wp_seq (wp_region_lit (st_y hf rfl rfl rfl (y_assign rfl rfl) fun a hf => st_end (x_then_n ?_))))))
   refine wp_ret (x_then_ret ?_)
   obtain rfl := Option.some.inj hq
   have hm := hm.nilow (α := Int)
   refine ret_tmp hf Tryz.results49 rfl ?_
   exact ⟨(.slice none 0 0), rfl, hm.pick [0] (by decide) rfl⟩
  ·
   subst he
   refine st_y hf rfl rfl rfl (y_eqnil_f st_25.und rfl rfl rfl) fun a hf => st_end (x_then_n (cond_f hf rfl rfl (wp_skip (x_then_n (wp_seq (wp_region_lit (st_ef hf rfl rfl rfl (e_build0 (α := Int) et_25 hm rfl) ?_)))))))
   clear hf a; rintro v0_1 w0_1 a hm hf
   refine st_y hf rfl rfl rfl (y_move rfl rfl) fun a hf => ?_
   obtain ⟨ys0_1, hx0_1, hq⟩ := bnd hq
   obtain ⟨h0_2, h0_2e⟩ := appM_some.1 hx0_1
   refine st_ef hf rfl rfl rfl (e_append 0 et_25 hf hm rfl (hm.now h1) rfl rfl rfl h0_2) ?_
   clear hf a; rintro v0_2 w0_2 a hm hf
   rw [h0_2e] at hm
   refine st_y hf rfl rfl rfl (y_assign rfl rfl) fun a hf => st_end (x_then_n (wp_ret ?_))
   obtain rfl := Option.some.inj hq
   refine ret_tmp hf Tryz.results49 rfl ?_
   exact ⟨v0_2, rfl, hm.pick [0] (by decide) rfl⟩

end Go.Proofs.YtjbcoilagfdidaaGreat
