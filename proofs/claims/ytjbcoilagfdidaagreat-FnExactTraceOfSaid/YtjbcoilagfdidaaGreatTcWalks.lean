/- A part of the proof of FnExactTraceOfSaid. -/
import Derived.Test.YtjbcoilagfdidaaGreatTcWalksC
namespace Go.Proofs.YtjbcoilagfdidaaGreat
open Go Go.Wk Go.RowKit
set_option maxRecDepth 4000
set_option maxHeartbeats 4000000

theorem laws_eqIns_ok (w0 : World) (a_ : Ins_) (v1 : Value) (h1 : GT.rep (hp w0) [v1] a_.args) (b_ : Ins_) (v2 : Value) (h2 : GT.rep (hp w0) [v2] b_.args) (r : Bool) (hq : laws_eqIns a_ b_ = some r) :
    Con Tryz.prog 118 [(.agg #[(.int .i64 (a_.op)), (.int .i64 (a_.to)), v1, (.int .i64 (a_.n_))]), (.agg #[(.int .i64 (b_.op)), (.int .i64 (b_.to)), v2, (.int .i64 (b_.n_))])] w0 (fun v w' => v = (.bool (r)) ∧ Below w0.heap.size w0 w') := by
  unfold laws_eqIns at hq
  refine con_body (l := [(0, (.agg #[(.int .i64 (a_.op)), (.int .i64 (a_.to)), v1, (.int .i64 (a_.n_))])), (1, (.agg #[(.int .i64 (b_.op)), (.int .i64 (b_.to)), v2, (.int .i64 (b_.n_))]))]) Tryz.func118 rfl Tryz.ntmps118 (Args.get ⟨rfl, rfl, trivial⟩) rfl ?_
  intro a hf
  have hm := Mem.start w0
  refine wp_seq (wp_region_lit (st_ef hf rfl rfl rfl (e_box hf hm rfl rfl rfl) ?_))
  clear hf a; rintro _ w0_1 a ⟨b0_1, rfl, hm⟩ hf
  refine st_ef hf rfl rfl rfl (e_box hf hm rfl rfl rfl) ?_
  clear hf a; rintro _ w0_2 a ⟨b0_2, rfl, hm⟩ hf
  refine st_y hf rfl rfl rfl (y_assign rfl rfl) fun a hf => st_end (x_then_n (wp_seq (wp_seq (wp_region_lit (st_y hf rfl rfl rfl (y_fieldAddr fo_91_0 rfl rfl) fun a hf => st_y hf rfl rfl rfl (y_load1 Tryz.isAgg3 rfl rfl (hm.blk_cell 1 rfl rfl)) fun a hf => st_y hf rfl rfl rfl (y_fieldAddr fo_91_0 rfl rfl) fun a hf => ?_)))))
  refine st_y hf rfl rfl rfl (y_load1 Tryz.isAgg3 rfl rfl (hm.blk_cell 0 rfl rfl)) fun a hf => st_y hf rfl rfl rfl (y_neq rfl rfl rfl) fun a hf => st_end (x_then_n ?_)
  rcases bcases (decide (a_.op ≠ b_.op)) with h0_1 | h0_1
  ·
   replace hq := (ite_t h0_1).symm.trans hq
   have h0_2 := of_decide_eq_true h0_1
   refine cond_t hf rfl h0_1 (wp_seq (wp_region_lit (st_y hf rfl rfl rfl (y_assign rfl rfl) fun a hf => st_end (x_then_n (wp_ret (x_then_ret ?_))))))
   obtain rfl := Option.some.inj hq
   refine ret_tmp hf Tryz.results118 rfl ?_
   exact ⟨rfl, hm.below⟩
  ·
   replace hq := (ite_f h0_1).symm.trans hq
   have h0_3 := of_decide_eq_false h0_1
   refine cond_f hf rfl h0_1 (wp_skip (x_then_n (wp_seq (wp_seq (wp_region_lit (st_y hf rfl rfl rfl (y_fieldAddr fo_91_1 rfl rfl) fun a hf => st_y hf rfl rfl rfl (y_load1 Tryz.isAgg3 rfl rfl (hm.blk_cell 1 rfl rfl)) fun a hf => st_y hf rfl rfl rfl (y_fieldAddr fo_91_1 rfl rfl) fun a hf => ?_))))))
   refine st_y hf rfl rfl rfl (y_load1 Tryz.isAgg3 rfl rfl (hm.blk_cell 0 rfl rfl)) fun a hf => st_y hf rfl rfl rfl (y_neq rfl rfl rfl) fun a hf => st_end (x_then_n ?_)
   rcases bcases (decide (a_.to ≠ b_.to)) with h0_4 | h0_4
   ·
    replace hq := (ite_t h0_4).symm.trans hq
    have h0_5 := of_decide_eq_true h0_4
    refine cond_t hf rfl h0_4 (wp_seq (wp_region_lit (st_y hf rfl rfl rfl (y_assign rfl rfl) fun a hf => st_end (x_then_n (wp_ret (x_then_ret ?_))))))
    obtain rfl := Option.some.inj hq
    refine ret_tmp hf Tryz.results118 rfl ?_
    exact ⟨rfl, hm.below⟩
   ·
    replace hq := (ite_f h0_4).symm.trans hq
    have h0_6 := of_decide_eq_false h0_4
    refine cond_f hf rfl h0_4 (wp_skip (x_then_n (wp_seq (wp_seq (wp_region_lit (st_y hf rfl rfl rfl (y_fieldAddr fo_91_2 rfl rfl) fun a hf => st_y hf rfl rfl rfl (y_load1 Tryz.isAgg25 rfl rfl (hm.blk_cell 1 rfl rfl)) fun a hf => st_y hf rfl rfl rfl (y_fieldAddr fo_91_2 rfl rfl) fun a hf => ?_))))))
    refine st_y hf rfl rfl rfl (y_load1 Tryz.isAgg25 rfl rfl (hm.blk_cell 0 rfl rfl)) fun a hf => ?_
    obtain ⟨r0_1, hx0_1, hq⟩ := bnd hq
    refine st_ef hf rfl rfl rfl (e_call hf rfl Tryz.call12 rfl (laws_eqIntS_ok _ a_.args v1 (hm.now h1) b_.args v2 (hm.now h2) _ hx0_1)) ?_
    clear hf a; rintro v0_1 w0_3 a ho0_1 hf
    obtain ⟨rfl, hB⟩ := ho0_1
    replace hm := hm.below' hB; clear hB
    refine st_y hf rfl rfl rfl (y_not rfl rfl) fun a hf => st_end (x_then_n ?_)
    rcases bcases (!(r0_1)) with h0_7 | h0_7
    ·
     replace hq := (ite_t h0_7).symm.trans hq
     have h0_8 := bnot_t' h0_7
     refine cond_t hf rfl h0_7 (wp_seq (wp_region_lit (st_y hf rfl rfl rfl (y_assign rfl rfl) fun a hf => st_end (x_then_n (wp_ret (x_then_ret ?_))))))
     obtain rfl := Option.some.inj hq
     refine ret_tmp hf Tryz.results118 rfl ?_
     exact ⟨rfl, hm.below⟩
    ·
     replace hq := (ite_f h0_7).symm.trans hq
     have h0_9 := bnot_f' h0_7
     refine cond_f hf rfl h0_7 (wp_skip (x_then_n (wp_seq (wp_seq (wp_region_lit (st_y hf rfl rfl rfl (y_fieldAddr fo_91_3 rfl rfl) fun a hf => st_y hf rfl rfl rfl (y_load1 Tryz.isAgg3 rfl rfl (hm.blk_cell 1 rfl rfl)) fun a hf => st_y hf rfl rfl rfl (y_fieldAddr fo_91_3 rfl rfl) fun a hf => ?_))))))
     refine st_y hf rfl rfl rfl (y_load1 Tryz.isAgg3 rfl rfl (hm.blk_cell 0 rfl rfl)) fun a hf => st_y hf rfl rfl rfl (y_neq rfl rfl rfl) fun a hf => st_end (x_then_n ?_)
     rcases bcases (decide (a_.n_ ≠ b_.n_)) with h0_10 | h0_10
     ·
      replace hq := (ite_t h0_10).symm.trans hq
      have h0_11 := of_decide_eq_true h0_10
      refine cond_t hf rfl h0_10 (wp_seq (wp_region_lit (st_y hf rfl rfl rfl (y_assign rfl rfl) fun a hf => st_end (x_then_n (wp_ret (x_then_ret ?_))))))
      obtain rfl := Option.some.inj hq
      refine ret_tmp hf Tryz.results118 rfl ?_
      exact ⟨rfl, hm.below⟩
     ·
      replace hq := (ite_f h0_10).symm.trans hq
      have h0_12 := of_decide_eq_false h0_10
      refine cond_f hf rfl h0_10 (wp_skip (x_then_n (wp_seq (wp_region_lit (st_y hf rfl rfl rfl (y_assign rfl rfl) fun a hf => st_end (x_then_n (wp_ret ?_)))))))
      obtain rfl := Option.some.inj hq
      refine ret_tmp hf Tryz.results118 rfl ?_
      exact ⟨rfl, hm.below⟩

theorem laws_eqInsS_ok (w0 : World) (a_ : List Ins_) (v1 : Value) (h1 : GT.rep (hp w0) [v1] a_) (b_ : List Ins_) (v2 : Value) (h2 : GT.rep (hp w0) [v2] b_) (r : Bool) (hq : laws_eqInsS a_ b_ = some r) :
    Con Tryz.prog 101 [v1, v2] w0 (fun v w' => v = (.bool (r)) ∧ Below w0.heap.size w0 w') := by
  unfold laws_eqInsS at hq
  refine con_body (l := [(0, v1), (1, v2)]) Tryz.func101 rfl Tryz.ntmps101 (Args.get ⟨rfl, rfl, trivial⟩) rfl ?_
  intro a hf
  have hm := Mem.start w0
  refine wp_seq (wp_region_lit (st_y hf rfl rfl rfl (y_assign rfl rfl) fun a hf => st_end (x_then_n (wp_seq (wp_seq (wp_region_lit (st_y hf rfl rfl rfl (y_move rfl rfl) fun a hf => ?_)))))))
  obtain ⟨p0_1, c0_1, he, hl0_1⟩ := ro_slice h1
  subst he
  refine st_y hf rfl rfl rfl (y_len_slice st_84.und rfl rfl) fun a hf => st_y hf rfl rfl rfl (y_move rfl rfl) fun a hf => ?_
  obtain ⟨p0_2, c0_2, he, hl0_2⟩ := ro_slice h2
  subst he
  refine st_y hf rfl rfl rfl (y_len_slice st_84.und rfl rfl) fun a hf => st_y hf rfl rfl rfl (y_neq rfl rfl rfl) fun a hf => st_end (x_then_n ?_)
  rcases bcases (decide (((a_.length : Int)) ≠ ((b_.length : Int)))) with h0_1 | h0_1
  ·
   replace hq := (ite_t h0_1).symm.trans hq
   have h0_2 := of_decide_eq_true h0_1
   refine cond_t hf rfl h0_1 (wp_seq (wp_region_lit (st_y hf rfl rfl rfl (y_assign rfl rfl) fun a hf => st_end (x_then_n (wp_ret (x_then_ret ?_))))))
   obtain rfl := Option.some.inj hq
   refine ret_tmp hf Tryz.results101 rfl ?_
   exact ⟨rfl, hm.below⟩
  ·
   replace hq := (ite_f h0_1).symm.trans hq
   have h0_3 := of_decide_eq_false h0_1
   refine cond_f hf rfl h0_1 (wp_skip (x_then_n (wp_seq (wp_seq (wp_region_lit (st_y hf rfl rfl rfl (y_assign rfl rfl) fun a hf => st_end (x_then_n ?_)))))))
   refine wp_block ?_
   obtain ⟨r0_1, hl0_3, hq⟩ := bnd hq
   refine wp_forN _ (fun i1_1 xs1_1 a w => Fr 27 [(0, (.slice p0_1 a_.length c0_1)), (1, (.slice p0_2 b_.length c0_2)), (5, (.int .i64 (i1_1)))] a ∧ Mem w0 (hp w0) w []) (0) ((a_.length : Int)) hl0_3 ?_ ?_ ?_
   ·
    exact ⟨hf.sub ⟨rfl, rfl, rfl, trivial⟩, hm.pick [] (by decide) rfl⟩
   ·
    clear hf hm
    rintro i1_1 xs1_1 a w ⟨hf, hm⟩ hi1_1 hi1_2 q0_1 hb0_1 ho0_1
    refine wp_seq (wp_seq (wp_region_lit (st_y hf rfl rfl rfl (y_move rfl rfl) fun a hf => st_y hf rfl rfl rfl (y_move rfl rfl) fun a hf => st_y hf rfl rfl rfl (y_len_slice st_84.und rfl rfl) fun a hf => st_y hf rfl rfl rfl (y_lss rfl rfl rfl) fun a hf => st_end (x_then_n ?_))))
    refine cond_t hf rfl (decide_eq_true (by omega)) (wp_skip (x_then_n (wp_seq (wp_block (wp_seq (wp_tree (.p 0 (.p 1 (.p 2 (.p 4 (.p 5 (.p 6 (.q 3 (.e 7 (.e 8 (.p 9 .fin) .nil) .nil)))))))) [7] [0, 1, 2, 4, 5, 6, 9] (fun w => Mem w0 (hp w0) w []) (by kernel_rfl) (by kernel_rfl) (fun _ _ _ h => h.2) ?_))))))
    replace hm := hm.drew
    have hS : Mem w0 (hp w0) _ [] := hm.pick [] (by decide) rfl
    refine td_p hf rfl rfl rfl rfl (fun w => y_move rfl rfl) fun a hf => td_p hf rfl rfl rfl rfl (fun w => y_move rfl rfl) fun a hf => ?_
    obtain ⟨x1_1, hx1_1, hb0_1⟩ := bnd hb0_1
    obtain ⟨h1_1, hx1_2⟩ := getI_some.1 hx1_1
    obtain ⟨b1_1, o1_1, c1_1, he⟩ := idx_form' h1 hx1_2
    simp only [Value.slice.injEq, Option.some.injEq] at he; obtain ⟨rfl, _, rfl⟩ := he
    obtain ⟨_, _, hc1_1, hr1_1⟩ := ro_get' h1 hx1_2
    obtain ⟨_, _, rfl, rfl, _, _, rfl, rfl, _, _, rfl, h1_2, rfl⟩ := hr1_1
    obtain ⟨v1_1, rfl, -⟩ := id h1_2
    replace h1_2 : GT.rep (hp w0) [v1_1] x1_1.args := h1_2
    replace hc1_1 : CellsAt (hp w0) b1_1 (o1_1 + (i1_1).toNat * 4) [(.int .i64 (x1_1.op)), (.int .i64 (x1_1.to)), v1_1, (.int .i64 (x1_1.n_))] := hc1_1
    refine td_p hf rfl rfl rfl rfl (fun w => y_indexAddr st_84 rfl rfl rfl h1_1 (idx_lt hx1_2)) fun a hf => td_p hf rfl rfl rfl rfl (fun w => y_move rfl rfl) fun a hf => td_p hf rfl rfl rfl rfl (fun w => y_move rfl rfl) fun a hf => ?_
    obtain ⟨x1_2, hx1_3, hb0_1⟩ := bnd hb0_1
    obtain ⟨h1_3, hx1_4⟩ := getI_some.1 hx1_3
    obtain ⟨b1_2, o1_2, c1_2, he⟩ := idx_form' h2 hx1_4
    simp only [Value.slice.injEq, Option.some.injEq] at he; obtain ⟨rfl, _, rfl⟩ := he
    obtain ⟨_, _, hc1_2, hr1_2⟩ := ro_get' h2 hx1_4
    obtain ⟨_, _, rfl, rfl, _, _, rfl, rfl, _, _, rfl, h1_4, rfl⟩ := hr1_2
    obtain ⟨v1_2, rfl, -⟩ := id h1_4
    replace h1_4 : GT.rep (hp w0) [v1_2] x1_2.args := h1_4
    replace hc1_2 : CellsAt (hp w0) b1_2 (o1_2 + (i1_1).toNat * 4) [(.int .i64 (x1_2.op)), (.int .i64 (x1_2.to)), v1_2, (.int .i64 (x1_2.n_))] := hc1_2
    refine td_p hf rfl rfl rfl rfl (fun w => y_indexAddr st_84 rfl rfl rfl h1_3 (idx_lt hx1_4)) fun a hf => td_y hf rfl rfl rfl rfl hS (fun w hm => y_loadN (cs := [(.int .i64 (x1_1.op)), (.int .i64 (x1_1.to)), v1_1, (.int .i64 (x1_1.n_))]) Tryz.isAgg91 Tryz.sizeOf91 rfl rfl (hc1_1.mono hm.lez)) fun a hf => te_one (td_ef hf rfl rfl rfl rfl (ef_y hf (y_loadN (cs := [(.int .i64 (x1_2.op)), (.int .i64 (x1_2.to)), v1_2, (.int .i64 (x1_2.n_))]) Tryz.isAgg91 Tryz.sizeOf91 rfl rfl (hc1_2.mono hm.lez))) ?_)
    clear hf a; rintro _ _ a ⟨rfl, rfl⟩ hf
    refine ⟨fun _ => hS, ?_⟩
    refine te_one ?_
    obtain ⟨r1_1, hx1_5, hb0_1⟩ := bnd hb0_1
    refine td_ef hf rfl rfl rfl rfl (e_call hf rfl Tryz.call118 rfl (laws_eqIns_ok _ x1_1 v1_1 (hm.now h1_2) x1_2 v1_2 (hm.now h1_4) _ hx1_5)) ?_
    clear hf a; rintro v1_3 w1_1 a ho1_1 hf
    obtain ⟨rfl, hB⟩ := ho1_1
    replace hm := hm.below' hB; clear hB
    refine ⟨fun h => absurd h (by decide), ?_⟩
    refine td_p hf rfl rfl rfl rfl (fun w => y_not rfl rfl) fun a hf => ?_
    clear hS; refine td_end ?_
    refine x_then_n ?_
    rcases bcases (!(r1_1)) with h1_5 | h1_5
    ·
     replace hb0_1 := (ite_t h1_5).symm.trans hb0_1
     have h1_6 := bnot_t' h1_5
     refine cond_t hf rfl h1_5 (wp_seq (wp_region_lit (st_y hf rfl rfl rfl (y_assign rfl rfl) fun a hf => st_end (x_then_n (wp_ret (x_blk_ret (x_then_ret ?_)))))))
     refine x_then_ret (x_blk_ret (x_then_ret ?_))
     obtain rfl := Option.some.inj hb0_1
     obtain rfl := ho0_1 _ rfl
     replace hq := sum_r hq
     obtain rfl := Option.some.inj hq
     refine ret_tmp hf Tryz.results101 rfl ?_
     exact ⟨rfl, hm.below⟩
    ·
     replace hb0_1 := (ite_f h1_5).symm.trans hb0_1
     have h1_7 := bnot_f' h1_5
     refine cond_f hf rfl h1_5 (wp_skip (x_blk_n (x_then_n (wp_region_lit (st_y hf rfl rfl rfl (y_move rfl rfl) fun a hf => st_y hf rfl rfl rfl (y_add64 rfl rfl rfl (by omega) (by omega)) fun a hf => st_y hf rfl rfl rfl (y_assign rfl rfl) fun a hf => st_end ?_)))))
     refine x_then_n ?_
     obtain rfl := Option.some.inj hb0_1
     exact ⟨_, rfl, hf.sub ⟨rfl, rfl, rfl, trivial⟩, hm.pick [] (by decide) rfl⟩
   ·
    clear hf hm
    rintro i0_1 xs0_1 a w ⟨hf, hm⟩ hi0_1 hi0_2 rfl
    replace hq := sum_l hq
    refine wp_seq (wp_seq (wp_region_lit (st_y hf rfl rfl rfl (y_move rfl rfl) fun a hf => st_y hf rfl rfl rfl (y_move rfl rfl) fun a hf => st_y hf rfl rfl rfl (y_len_slice st_84.und rfl rfl) fun a hf => st_y hf rfl rfl rfl (y_lss rfl rfl rfl) fun a hf => st_end (x_then_n ?_))))
    refine cond_f hf rfl (decide_eq_false (by omega)) (wp_exit (x_then_exit (x_then_exit (x_blk_hit (x_then_n (wp_seq (wp_region_lit (st_y hf rfl rfl rfl (y_assign rfl rfl) fun a hf => ?_))))))))
    refine st_end (x_then_n (wp_ret ?_))
    obtain rfl := Option.some.inj hq
    refine ret_tmp hf Tryz.results101 rfl ?_
    exact ⟨rfl, hm.below⟩

theorem laws_eqBlock_ok (w0 : World) (a_ : Block_) (v1 : Value) (h1 : GT.rep (hp w0) [v1] a_.phis) (v2 : Value) (h2 : GT.rep (hp w0) [v2] a_.ins) (v3 : Value) (h3 : GT.rep (hp w0) [v3] a_.next_) (b_ : Block_) (v4 : Value) (h4 : GT.rep (hp w0) [v4] b_.phis) (v5 : Value) (h5 : GT.rep (hp w0) [v5] b_.ins) (v6 : Value) (h6 : GT.rep (hp w0) [v6] b_.next_) (r : Bool) (hq : laws_eqBlock a_ b_ = some r) :
    Con Tryz.prog 74 [(.agg #[v1, v2, (.int .i64 (a_.jump)), (.int .i64 (a_.on)), v3]), (.agg #[v4, v5, (.int .i64 (b_.jump)), (.int .i64 (b_.on)), v6])] w0 (fun v w' => v = (.bool (r)) ∧ Below w0.heap.size w0 w') := by
  unfold laws_eqBlock at hq
  refine con_body (l := [(0, (.agg #[v1, v2, (.int .i64 (a_.jump)), (.int .i64 (a_.on)), v3])), (1, (.agg #[v4, v5, (.int .i64 (b_.jump)), (.int .i64 (b_.on)), v6]))]) Tryz.func74 rfl Tryz.ntmps74 (Args.get ⟨rfl, rfl, trivial⟩) rfl ?_
  intro a hf
  have hm := Mem.start w0
  refine wp_seq (wp_region_lit (st_ef hf rfl rfl rfl (e_box hf hm rfl rfl rfl) ?_))
  clear hf a; rintro _ w0_1 a ⟨b0_1, rfl, hm⟩ hf
  refine st_ef hf rfl rfl rfl (e_box hf hm rfl rfl rfl) ?_
  clear hf a; rintro _ w0_2 a ⟨b0_2, rfl, hm⟩ hf
  refine st_y hf rfl rfl rfl (y_assign rfl rfl) fun a hf => st_end (x_then_n (wp_seq (wp_seq (wp_region_lit (st_y hf rfl rfl rfl (y_fieldAddr fo_86_0 rfl rfl) fun a hf => st_y hf rfl rfl rfl (y_load1 Tryz.isAgg83 rfl rfl (hm.blk_cell 1 rfl rfl)) fun a hf => st_y hf rfl rfl rfl (y_fieldAddr fo_86_0 rfl rfl) fun a hf => ?_)))))
  refine st_y hf rfl rfl rfl (y_load1 Tryz.isAgg83 rfl rfl (hm.blk_cell 0 rfl rfl)) fun a hf => ?_
  obtain ⟨r0_1, hx0_1, hq⟩ := bnd hq
  refine st_ef hf rfl rfl rfl (e_call hf rfl Tryz.call100 rfl (laws_eqPhiS_ok _ a_.phis v1 (hm.now h1) b_.phis v4 (hm.now h4) _ hx0_1)) ?_
  clear hf a; rintro v0_1 w0_3 a ho0_1 hf
  obtain ⟨rfl, hB⟩ := ho0_1
  replace hm := hm.below' hB; clear hB
  refine st_y hf rfl rfl rfl (y_not rfl rfl) fun a hf => st_end (x_then_n ?_)
  rcases bcases (!(r0_1)) with h0_1 | h0_1
  ·
   replace hq := (ite_t h0_1).symm.trans hq
   have h0_2 := bnot_t' h0_1
   refine cond_t hf rfl h0_1 (wp_seq (wp_region_lit (st_y hf rfl rfl rfl (y_assign rfl rfl) fun a hf => st_end (x_then_n (wp_ret (x_then_ret ?_))))))
   obtain rfl := Option.some.inj hq
   refine ret_tmp hf Tryz.results74 rfl ?_
   exact ⟨rfl, hm.below⟩
  ·
   replace hq := (ite_f h0_1).symm.trans hq
   have h0_3 := bnot_f' h0_1
   refine cond_f hf rfl h0_1 (wp_skip (x_then_n (wp_seq (wp_seq (wp_region_lit (st_y hf rfl rfl rfl (y_fieldAddr fo_86_1 rfl rfl) fun a hf => st_y hf rfl rfl rfl (y_load1 Tryz.isAgg84 rfl rfl (hm.blk_cell 1 rfl rfl)) fun a hf => st_y hf rfl rfl rfl (y_fieldAddr fo_86_1 rfl rfl) fun a hf => ?_))))))
   refine st_y hf rfl rfl rfl (y_load1 Tryz.isAgg84 rfl rfl (hm.blk_cell 0 rfl rfl)) fun a hf => ?_
   obtain ⟨r0_2, hx0_2, hq⟩ := bnd hq
   refine st_ef hf rfl rfl rfl (e_call hf rfl Tryz.call101 rfl (laws_eqInsS_ok _ a_.ins v2 (hm.now h2) b_.ins v5 (hm.now h5) _ hx0_2)) ?_
   clear hf a; rintro v0_2 w0_4 a ho0_2 hf
   obtain ⟨rfl, hB⟩ := ho0_2
   replace hm := hm.below' hB; clear hB
   refine st_y hf rfl rfl rfl (y_not rfl rfl) fun a hf => st_end (x_then_n ?_)
   rcases bcases (!(r0_2)) with h0_4 | h0_4
   ·
    replace hq := (ite_t h0_4).symm.trans hq
    have h0_5 := bnot_t' h0_4
    refine cond_t hf rfl h0_4 (wp_seq (wp_region_lit (st_y hf rfl rfl rfl (y_assign rfl rfl) fun a hf => st_end (x_then_n (wp_ret (x_then_ret ?_))))))
    obtain rfl := Option.some.inj hq
    refine ret_tmp hf Tryz.results74 rfl ?_
    exact ⟨rfl, hm.below⟩
   ·
    replace hq := (ite_f h0_4).symm.trans hq
    have h0_6 := bnot_f' h0_4
    refine cond_f hf rfl h0_4 (wp_skip (x_then_n (wp_seq (wp_seq (wp_region_lit (st_y hf rfl rfl rfl (y_fieldAddr fo_86_2 rfl rfl) fun a hf => st_y hf rfl rfl rfl (y_load1 Tryz.isAgg3 rfl rfl (hm.blk_cell 1 rfl rfl)) fun a hf => st_y hf rfl rfl rfl (y_fieldAddr fo_86_2 rfl rfl) fun a hf => ?_))))))
    refine st_y hf rfl rfl rfl (y_load1 Tryz.isAgg3 rfl rfl (hm.blk_cell 0 rfl rfl)) fun a hf => st_y hf rfl rfl rfl (y_neq rfl rfl rfl) fun a hf => st_end (x_then_n ?_)
    rcases bcases (decide (a_.jump ≠ b_.jump)) with h0_7 | h0_7
    ·
     replace hq := (ite_t h0_7).symm.trans hq
     have h0_8 := of_decide_eq_true h0_7
     refine cond_t hf rfl h0_7 (wp_seq (wp_region_lit (st_y hf rfl rfl rfl (y_assign rfl rfl) fun a hf => st_end (x_then_n (wp_ret (x_then_ret ?_))))))
     obtain rfl := Option.some.inj hq
     refine ret_tmp hf Tryz.results74 rfl ?_
     exact ⟨rfl, hm.below⟩
    ·
     replace hq := (ite_f h0_7).symm.trans hq
     have h0_9 := of_decide_eq_false h0_7
     refine cond_f hf rfl h0_7 (wp_skip (x_then_n (wp_seq (wp_seq (wp_region_lit (st_y hf rfl rfl rfl (y_fieldAddr fo_86_3 rfl rfl) fun a hf => st_y hf rfl rfl rfl (y_load1 Tryz.isAgg3 rfl rfl (hm.blk_cell 1 rfl rfl)) fun a hf => st_y hf rfl rfl rfl (y_fieldAddr fo_86_3 rfl rfl) fun a hf => ?_))))))
     refine st_y hf rfl rfl rfl (y_load1 Tryz.isAgg3 rfl rfl (hm.blk_cell 0 rfl rfl)) fun a hf => st_y hf rfl rfl rfl (y_neq rfl rfl rfl) fun a hf => st_end (x_then_n ?_)
     rcases bcases (decide (a_.on ≠ b_.on)) with h0_10 | h0_10
     ·
      replace hq := (ite_t h0_10).symm.trans hq
      have h0_11 := of_decide_eq_true h0_10
      refine cond_t hf rfl h0_10 (wp_seq (wp_region_lit (st_y hf rfl rfl rfl (y_assign rfl rfl) fun a hf => st_end (x_then_n (wp_ret (x_then_ret ?_))))))
      obtain rfl := Option.some.inj hq
      refine ret_tmp hf Tryz.results74 rfl ?_
      exact ⟨rfl, hm.below⟩
     ·
      replace hq := (ite_f h0_10).symm.trans hq
      have h0_12 := of_decide_eq_false h0_10
      refine cond_f hf rfl h0_10 (wp_skip (x_then_n (wp_seq (wp_seq (wp_region_lit (st_y hf rfl rfl rfl (y_fieldAddr fo_86_4 rfl rfl) fun a hf => st_y hf rfl rfl rfl (y_load1 Tryz.isAgg25 rfl rfl (hm.blk_cell 1 rfl rfl)) fun a hf => st_y hf rfl rfl rfl (y_fieldAddr fo_86_4 rfl rfl) fun a hf => ?_))))))
      refine st_y hf rfl rfl rfl (y_load1 Tryz.isAgg25 rfl rfl (hm.blk_cell 0 rfl rfl)) fun a hf => ?_
      obtain ⟨r0_3, hx0_3, hq⟩ := bnd hq
      refine st_ef hf rfl rfl rfl (e_call hf rfl Tryz.call12 rfl (laws_eqIntS_ok _ a_.next_ v3 (hm.now h3) b_.next_ v6 (hm.now h6) _ hx0_3)) ?_
      clear hf a; rintro v0_3 w0_5 a ho0_3 hf
      obtain ⟨rfl, hB⟩ := ho0_3
      replace hm := hm.below' hB; clear hB
      refine st_y hf rfl rfl rfl (y_not rfl rfl) fun a hf => st_end (x_then_n ?_)
      rcases bcases (!(r0_3)) with h0_13 | h0_13
      ·
       replace hq := (ite_t h0_13).symm.trans hq
       have h0_14 := bnot_t' h0_13
       refine cond_t hf rfl h0_13 (wp_seq (wp_region_lit (st_y hf rfl rfl rfl (y_assign rfl rfl) fun a hf => st_end (x_then_n (wp_ret (x_then_ret ?_))))))
       obtain rfl := Option.some.inj hq
       refine ret_tmp hf Tryz.results74 rfl ?_
       exact ⟨rfl, hm.below⟩
      ·
       replace hq := (ite_f h0_13).symm.trans hq
       have h0_15 := bnot_f' h0_13
       refine cond_f hf rfl h0_13 (wp_skip (x_then_n (wp_seq (wp_region_lit (st_y hf rfl rfl rfl (y_assign rfl rfl) fun a hf => st_end (x_then_n (wp_ret ?_)))))))
       obtain rfl := Option.some.inj hq
       refine ret_tmp hf Tryz.results74 rfl ?_
       exact ⟨rfl, hm.below⟩

theorem laws_eqBlockS_ok (w0 : World) (a_ : List Block_) (v1 : Value) (h1 : GT.rep (hp w0) [v1] a_) (b_ : List Block_) (v2 : Value) (h2 : GT.rep (hp w0) [v2] b_) (r : Bool) (hq : laws_eqBlockS a_ b_ = some r) :
    Con Tryz.prog 53 [v1, v2] w0 (fun v w' => v = (.bool (r)) ∧ Below w0.heap.size w0 w') := by
  unfold laws_eqBlockS at hq
  refine con_body (l := [(0, v1), (1, v2)]) Tryz.func53 rfl Tryz.ntmps53 (Args.get ⟨rfl, rfl, trivial⟩) rfl ?_
  intro a hf
  have hm := Mem.start w0
  refine wp_seq (wp_region_lit (st_y hf rfl rfl rfl (y_assign rfl rfl) fun a hf => st_end (x_then_n (wp_seq (wp_seq (wp_region_lit (st_y hf rfl rfl rfl (y_move rfl rfl) fun a hf => ?_)))))))
  obtain ⟨p0_1, c0_1, he, hl0_1⟩ := ro_slice h1
  subst he
  refine st_y hf rfl rfl rfl (y_len_slice st_67.und rfl rfl) fun a hf => st_y hf rfl rfl rfl (y_move rfl rfl) fun a hf => ?_
  obtain ⟨p0_2, c0_2, he, hl0_2⟩ := ro_slice h2
  subst he
  refine st_y hf rfl rfl rfl (y_len_slice st_67.und rfl rfl) fun a hf => st_y hf rfl rfl rfl (y_neq rfl rfl rfl) fun a hf => st_end (x_then_n ?_)
  rcases bcases (decide (((a_.length : Int)) ≠ ((b_.length : Int)))) with h0_1 | h0_1
  ·
   replace hq := (ite_t h0_1).symm.trans hq
   have h0_2 := of_decide_eq_true h0_1
   refine cond_t hf rfl h0_1 (wp_seq (wp_region_lit (st_y hf rfl rfl rfl (y_assign rfl rfl) fun a hf => st_end (x_then_n (wp_ret (x_then_ret ?_))))))
   obtain rfl := Option.some.inj hq
   refine ret_tmp hf Tryz.results53 rfl ?_
   exact ⟨rfl, hm.below⟩
  ·
   replace hq := (ite_f h0_1).symm.trans hq
   have h0_3 := of_decide_eq_false h0_1
   refine cond_f hf rfl h0_1 (wp_skip (x_then_n (wp_seq (wp_seq (wp_region_lit (st_y hf rfl rfl rfl (y_assign rfl rfl) fun a hf => st_end (x_then_n ?_)))))))
   refine wp_block ?_
   obtain ⟨r0_1, hl0_3, hq⟩ := bnd hq
   refine wp_forN _ (fun i1_1 xs1_1 a w => Fr 27 [(0, (.slice p0_1 a_.length c0_1)), (1, (.slice p0_2 b_.length c0_2)), (5, (.int .i64 (i1_1)))] a ∧ Mem w0 (hp w0) w []) (0) ((a_.length : Int)) hl0_3 ?_ ?_ ?_
   ·
    exact ⟨hf.sub ⟨rfl, rfl, rfl, trivial⟩, hm.pick [] (by decide) rfl⟩
   ·
    clear hf hm
    rintro i1_1 xs1_1 a w ⟨hf, hm⟩ hi1_1 hi1_2 q0_1 hb0_1 ho0_1
    refine wp_seq (wp_seq (wp_region_lit (st_y hf rfl rfl rfl (y_move rfl rfl) fun a hf => st_y hf rfl rfl rfl (y_move rfl rfl) fun a hf => st_y hf rfl rfl rfl (y_len_slice st_67.und rfl rfl) fun a hf => st_y hf rfl rfl rfl (y_lss rfl rfl rfl) fun a hf => st_end (x_then_n ?_))))
    refine cond_t hf rfl (decide_eq_true (by omega)) (wp_skip (x_then_n (wp_seq (wp_block (wp_seq (wp_tree (.p 0 (.p 1 (.p 2 (.p 4 (.p 5 (.p 6 (.q 3 (.e 7 (.e 8 (.p 9 .fin) .nil) .nil)))))))) [7] [0, 1, 2, 4, 5, 6, 9] (fun w => Mem w0 (hp w0) w []) (by kernel_rfl) (by kernel_rfl) (fun _ _ _ h => h.2) ?_))))))
    replace hm := hm.drew
    have hS : Mem w0 (hp w0) _ [] := hm.pick [] (by decide) rfl
    refine td_p hf rfl rfl rfl rfl (fun w => y_move rfl rfl) fun a hf => td_p hf rfl rfl rfl rfl (fun w => y_move rfl rfl) fun a hf => ?_
    obtain ⟨x1_1, hx1_1, hb0_1⟩ := bnd hb0_1
    obtain ⟨h1_1, hx1_2⟩ := getI_some.1 hx1_1
    obtain ⟨b1_1, o1_1, c1_1, he⟩ := idx_form' h1 hx1_2
    simp only [Value.slice.injEq, Option.some.injEq] at he; obtain ⟨rfl, _, rfl⟩ := he
    obtain ⟨_, _, hc1_1, hr1_1⟩ := ro_get' h1 hx1_2
    obtain ⟨_, _, rfl, h1_2, _, _, rfl, h1_3, _, _, rfl, rfl, _, _, rfl, rfl, h1_4⟩ := hr1_1
    obtain ⟨v1_1, rfl, -⟩ := id h1_2
    replace h1_2 : GT.rep (hp w0) [v1_1] x1_1.phis := h1_2
    obtain ⟨v1_2, rfl, -⟩ := id h1_3
    replace h1_3 : GT.rep (hp w0) [v1_2] x1_1.ins := h1_3
    obtain ⟨v1_3, rfl, -⟩ := id h1_4
    replace h1_4 : GT.rep (hp w0) [v1_3] x1_1.next_ := h1_4
    replace hc1_1 : CellsAt (hp w0) b1_1 (o1_1 + (i1_1).toNat * 5) [v1_1, v1_2, (.int .i64 (x1_1.jump)), (.int .i64 (x1_1.on)), v1_3] := hc1_1
    refine td_p hf rfl rfl rfl rfl (fun w => y_indexAddr st_67 rfl rfl rfl h1_1 (idx_lt hx1_2)) fun a hf => td_p hf rfl rfl rfl rfl (fun w => y_move rfl rfl) fun a hf => td_p hf rfl rfl rfl rfl (fun w => y_move rfl rfl) fun a hf => ?_
    obtain ⟨x1_2, hx1_3, hb0_1⟩ := bnd hb0_1
    obtain ⟨h1_5, hx1_4⟩ := getI_some.1 hx1_3
    obtain ⟨b1_2, o1_2, c1_2, he⟩ := idx_form' h2 hx1_4
    simp only [Value.slice.injEq, Option.some.injEq] at he; obtain ⟨rfl, _, rfl⟩ := he
    obtain ⟨_, _, hc1_2, hr1_2⟩ := ro_get' h2 hx1_4
    obtain ⟨_, _, rfl, h1_6, _, _, rfl, h1_7, _, _, rfl, rfl, _, _, rfl, rfl, h1_8⟩ := hr1_2
    obtain ⟨v1_4, rfl, -⟩ := id h1_6
    replace h1_6 : GT.rep (hp w0) [v1_4] x1_2.phis := h1_6
    obtain ⟨v1_5, rfl, -⟩ := id h1_7
    replace h1_7 : GT.rep (hp w0) [v1_5] x1_2.ins := h1_7
    obtain ⟨v1_6, rfl, -⟩ := id h1_8
    replace h1_8 : GT.rep (hp w0) [v1_6] x1_2.next_ := h1_8
    replace hc1_2 : CellsAt (hp w0) b1_2 (o1_2 + (i1_1).toNat * 5) [v1_4, v1_5, (.int .i64 (x1_2.jump)), (.int .i64 (x1_2.on)), v1_6] := hc1_2
    refine td_p hf rfl rfl rfl rfl (fun w => y_indexAddr st_67 rfl rfl rfl h1_5 (idx_lt hx1_4)) fun a hf => td_y hf rfl rfl rfl rfl hS (fun w hm => y_loadN (cs := [v1_1, v1_2, (.int .i64 (x1_1.jump)), (.int .i64 (x1_1.on)), v1_3]) Tryz.isAgg86 Tryz.sizeOf86 rfl rfl (hc1_1.mono hm.lez)) fun a hf => te_one (td_ef hf rfl rfl rfl rfl (ef_y hf (y_loadN (cs := [v1_4, v1_5, (.int .i64 (x1_2.jump)), (.int .i64 (x1_2.on)), v1_6]) Tryz.isAgg86 Tryz.sizeOf86 rfl rfl (hc1_2.mono hm.lez))) ?_)
    clear hf a; rintro _ _ a ⟨rfl, rfl⟩ hf
    refine ⟨fun _ => hS, ?_⟩
    refine te_one ?_
    obtain ⟨r1_1, hx1_5, hb0_1⟩ := bnd hb0_1
    refine td_ef hf rfl rfl rfl rfl (e_call hf rfl Tryz.call74 rfl (laws_eqBlock_ok _ x1_1 v1_1 (hm.now h1_2) v1_2 (hm.now h1_3) v1_3 (hm.now h1_4) x1_2 v1_4 (hm.now h1_6) v1_5 (hm.now h1_7) v1_6 (hm.now h1_8) _ hx1_5)) ?_
    clear hf a; rintro v1_7 w1_1 a ho1_1 hf
    obtain ⟨rfl, hB⟩ := ho1_1
    replace hm := hm.below' hB; clear hB
    refine ⟨fun h => absurd h (by decide), ?_⟩
    refine td_p hf rfl rfl rfl rfl (fun w => y_not rfl rfl) fun a hf => ?_
    clear hS; refine td_end ?_
    refine x_then_n ?_
    rcases bcases (!(r1_1)) with h1_9 | h1_9
    ·
     replace hb0_1 := (ite_t h1_9).symm.trans hb0_1
     have h1_10 := bnot_t' h1_9
     refine cond_t hf rfl h1_9 (wp_seq (wp_region_lit (st_y hf rfl rfl rfl (y_assign rfl rfl) fun a hf => st_end (x_then_n (wp_ret (x_blk_ret (x_then_ret ?_)))))))
     refine x_then_ret (x_blk_ret (x_then_ret ?_))
     obtain rfl := Option.some.inj hb0_1
     obtain rfl := ho0_1 _ rfl
     replace hq := sum_r hq
     obtain rfl := Option.some.inj hq
     refine ret_tmp hf Tryz.results53 rfl ?_
     exact ⟨rfl, hm.below⟩
    ·
     replace hb0_1 := (ite_f h1_9).symm.trans hb0_1
     have h1_11 := bnot_f' h1_9
     refine cond_f hf rfl h1_9 (wp_skip (x_blk_n (x_then_n (wp_region_lit (st_y hf rfl rfl rfl (y_move rfl rfl) fun a hf => st_y hf rfl rfl rfl (y_add64 rfl rfl rfl (by omega) (by omega)) fun a hf => st_y hf rfl rfl rfl (y_assign rfl rfl) fun a hf => st_end ?_)))))
     refine x_then_n ?_
     obtain rfl := Option.some.inj hb0_1
     exact ⟨_, rfl, hf.sub ⟨rfl, rfl, rfl, trivial⟩, hm.pick [] (by decide) rfl⟩
   ·
    clear hf hm
    rintro i0_1 xs0_1 a w ⟨hf, hm⟩ hi0_1 hi0_2 rfl
    replace hq := sum_l hq
    refine wp_seq (wp_seq (wp_region_lit (st_y hf rfl rfl rfl (y_move rfl rfl) fun a hf => st_y hf rfl rfl rfl (y_move rfl rfl) fun a hf => st_y hf rfl rfl rfl (y_len_slice st_67.und rfl rfl) fun a hf => st_y hf rfl rfl rfl (y_lss rfl rfl rfl) fun a hf => st_end (x_then_n ?_))))
    refine cond_f hf rfl (decide_eq_false (by omega)) (wp_exit (x_then_exit (x_then_exit (x_blk_hit (x_then_n (wp_seq (wp_region_lit (st_y hf rfl rfl rfl (y_assign rfl rfl) fun a hf => ?_))))))))
    refine st_end (x_then_n (wp_ret ?_))
    obtain rfl := Option.some.inj hq
    refine ret_tmp hf Tryz.results53 rfl ?_
    exact ⟨rfl, hm.below⟩

theorem laws_eqCode_ok (w0 : World) (a_ : Code_) (v1 : Value) (h1 : GT.rep (hp w0) [v1] a_.blocks) (b_ : Code_) (v2 : Value) (h2 : GT.rep (hp w0) [v2] b_.blocks) (r : Bool) (hq : laws_eqCode a_ b_ = some r) :
    Con Tryz.prog 38 [(.agg #[(.int .i64 (a_.params)), (.int .i64 (a_.regs)), v1]), (.agg #[(.int .i64 (b_.params)), (.int .i64 (b_.regs)), v2])] w0 (fun v w' => v = (.bool (r)) ∧ Below w0.heap.size w0 w') := by
  unfold laws_eqCode at hq
  refine con_body (l := [(0, (.agg #[(.int .i64 (a_.params)), (.int .i64 (a_.regs)), v1])), (1, (.agg #[(.int .i64 (b_.params)), (.int .i64 (b_.regs)), v2]))]) Tryz.func38 rfl Tryz.ntmps38 (Args.get ⟨rfl, rfl, trivial⟩) rfl ?_
  intro a hf
  have hm := Mem.start w0
  refine wp_seq (wp_region_lit (st_ef hf rfl rfl rfl (e_box hf hm rfl rfl rfl) ?_))
  clear hf a; rintro _ w0_1 a ⟨b0_1, rfl, hm⟩ hf
  refine st_ef hf rfl rfl rfl (e_box hf hm rfl rfl rfl) ?_
  clear hf a; rintro _ w0_2 a ⟨b0_2, rfl, hm⟩ hf
  refine st_y hf rfl rfl rfl (y_assign rfl rfl) fun a hf => st_end (x_then_n (wp_seq (wp_seq (wp_region_lit (st_y hf rfl rfl rfl (y_fieldAddr fo_69_0 rfl rfl) fun a hf => st_y hf rfl rfl rfl (y_load1 Tryz.isAgg3 rfl rfl (hm.blk_cell 1 rfl rfl)) fun a hf => st_y hf rfl rfl rfl (y_fieldAddr fo_69_0 rfl rfl) fun a hf => ?_)))))
  refine st_y hf rfl rfl rfl (y_load1 Tryz.isAgg3 rfl rfl (hm.blk_cell 0 rfl rfl)) fun a hf => st_y hf rfl rfl rfl (y_neq rfl rfl rfl) fun a hf => st_end (x_then_n ?_)
  rcases bcases (decide (a_.params ≠ b_.params)) with h0_1 | h0_1
  ·
   replace hq := (ite_t h0_1).symm.trans hq
   have h0_2 := of_decide_eq_true h0_1
   refine cond_t hf rfl h0_1 (wp_seq (wp_region_lit (st_y hf rfl rfl rfl (y_assign rfl rfl) fun a hf => st_end (x_then_n (wp_ret (x_then_ret ?_))))))
   obtain rfl := Option.some.inj hq
   refine ret_tmp hf Tryz.results38 rfl ?_
   exact ⟨rfl, hm.below⟩
  ·
   replace hq := (ite_f h0_1).symm.trans hq
   have h0_3 := of_decide_eq_false h0_1
   refine cond_f hf rfl h0_1 (wp_skip (x_then_n (wp_seq (wp_seq (wp_region_lit (st_y hf rfl rfl rfl (y_fieldAddr fo_69_1 rfl rfl) fun a hf => st_y hf rfl rfl rfl (y_load1 Tryz.isAgg3 rfl rfl (hm.blk_cell 1 rfl rfl)) fun a hf => st_y hf rfl rfl rfl (y_fieldAddr fo_69_1 rfl rfl) fun a hf => ?_))))))
   refine st_y hf rfl rfl rfl (y_load1 Tryz.isAgg3 rfl rfl (hm.blk_cell 0 rfl rfl)) fun a hf => st_y hf rfl rfl rfl (y_neq rfl rfl rfl) fun a hf => st_end (x_then_n ?_)
   rcases bcases (decide (a_.regs ≠ b_.regs)) with h0_4 | h0_4
   ·
    replace hq := (ite_t h0_4).symm.trans hq
    have h0_5 := of_decide_eq_true h0_4
    refine cond_t hf rfl h0_4 (wp_seq (wp_region_lit (st_y hf rfl rfl rfl (y_assign rfl rfl) fun a hf => st_end (x_then_n (wp_ret (x_then_ret ?_))))))
    obtain rfl := Option.some.inj hq
    refine ret_tmp hf Tryz.results38 rfl ?_
    exact ⟨rfl, hm.below⟩
   ·
    replace hq := (ite_f h0_4).symm.trans hq
    have h0_6 := of_decide_eq_false h0_4
    refine cond_f hf rfl h0_4 (wp_skip (x_then_n (wp_seq (wp_seq (wp_region_lit (st_y hf rfl rfl rfl (y_fieldAddr fo_69_2 rfl rfl) fun a hf => st_y hf rfl rfl rfl (y_load1 Tryz.isAgg67 rfl rfl (hm.blk_cell 1 rfl rfl)) fun a hf => st_y hf rfl rfl rfl (y_fieldAddr fo_69_2 rfl rfl) fun a hf => ?_))))))
    refine st_y hf rfl rfl rfl (y_load1 Tryz.isAgg67 rfl rfl (hm.blk_cell 0 rfl rfl)) fun a hf => ?_
    obtain ⟨r0_1, hx0_1, hq⟩ := bnd hq
    refine st_ef hf rfl rfl rfl (e_call hf rfl Tryz.call53 rfl (laws_eqBlockS_ok _ a_.blocks v1 (hm.now h1) b_.blocks v2 (hm.now h2) _ hx0_1)) ?_
    clear hf a; rintro v0_1 w0_3 a ho0_1 hf
    obtain ⟨rfl, hB⟩ := ho0_1
    replace hm := hm.below' hB; clear hB
    refine st_y hf rfl rfl rfl (y_not rfl rfl) fun a hf => st_end (x_then_n ?_)
    rcases bcases (!(r0_1)) with h0_7 | h0_7
    ·
     replace hq := (ite_t h0_7).symm.trans hq
     have h0_8 := bnot_t' h0_7
     refine cond_t hf rfl h0_7 (wp_seq (wp_region_lit (st_y hf rfl rfl rfl (y_assign rfl rfl) fun a hf => st_end (x_then_n (wp_ret (x_then_ret ?_))))))
     obtain rfl := Option.some.inj hq
     refine ret_tmp hf Tryz.results38 rfl ?_
     exact ⟨rfl, hm.below⟩
    ·
     replace hq := (ite_f h0_7).symm.trans hq
     have h0_9 := bnot_f' h0_7
     refine cond_f hf rfl h0_7 (wp_skip (x_then_n (wp_seq (wp_region_lit (st_y hf rfl rfl rfl (y_assign rfl rfl) fun a hf => st_end (x_then_n (wp_ret ?_)))))))
     obtain rfl := Option.some.inj hq
     refine ret_tmp hf Tryz.results38 rfl ?_
     exact ⟨rfl, hm.below⟩

theorem laws_eqCodeS_ok (w0 : World) (a_ : List Code_) (v1 : Value) (h1 : GT.rep (hp w0) [v1] a_) (b_ : List Code_) (v2 : Value) (h2 : GT.rep (hp w0) [v2] b_) (r : Bool) (hq : laws_eqCodeS a_ b_ = some r) :
    Con Tryz.prog 27 [v1, v2] w0 (fun v w' => v = (.bool (r)) ∧ Below w0.heap.size w0 w') := by
  unfold laws_eqCodeS at hq
  refine con_body (l := [(0, v1), (1, v2)]) Tryz.func27 rfl Tryz.ntmps27 (Args.get ⟨rfl, rfl, trivial⟩) rfl ?_
  intro a hf
  have hm := Mem.start w0
  refine wp_seq (wp_region_lit (st_y hf rfl rfl rfl (y_assign rfl rfl) fun a hf => st_end (x_then_n (wp_seq (wp_seq (wp_region_lit (st_y hf rfl rfl rfl (y_move rfl rfl) fun a hf => ?_)))))))
  obtain ⟨p0_1, c0_1, he, hl0_1⟩ := ro_slice h1
  subst he
  refine st_y hf rfl rfl rfl (y_len_slice st_28.und rfl rfl) fun a hf => st_y hf rfl rfl rfl (y_move rfl rfl) fun a hf => ?_
  obtain ⟨p0_2, c0_2, he, hl0_2⟩ := ro_slice h2
  subst he
  refine st_y hf rfl rfl rfl (y_len_slice st_28.und rfl rfl) fun a hf => st_y hf rfl rfl rfl (y_neq rfl rfl rfl) fun a hf => st_end (x_then_n ?_)
  rcases bcases (decide (((a_.length : Int)) ≠ ((b_.length : Int)))) with h0_1 | h0_1
  ·
   replace hq := (ite_t h0_1).symm.trans hq
   have h0_2 := of_decide_eq_true h0_1
   refine cond_t hf rfl h0_1 (wp_seq (wp_region_lit (st_y hf rfl rfl rfl (y_assign rfl rfl) fun a hf => st_end (x_then_n (wp_ret (x_then_ret ?_))))))
   obtain rfl := Option.some.inj hq
   refine ret_tmp hf Tryz.results27 rfl ?_
   exact ⟨rfl, hm.below⟩
  ·
   replace hq := (ite_f h0_1).symm.trans hq
   have h0_3 := of_decide_eq_false h0_1
   refine cond_f hf rfl h0_1 (wp_skip (x_then_n (wp_seq (wp_seq (wp_region_lit (st_y hf rfl rfl rfl (y_assign rfl rfl) fun a hf => st_end (x_then_n ?_)))))))
   refine wp_block ?_
   obtain ⟨r0_1, hl0_3, hq⟩ := bnd hq
   refine wp_forN _ (fun i1_1 xs1_1 a w => Fr 27 [(0, (.slice p0_1 a_.length c0_1)), (1, (.slice p0_2 b_.length c0_2)), (5, (.int .i64 (i1_1)))] a ∧ Mem w0 (hp w0) w []) (0) ((a_.length : Int)) hl0_3 ?_ ?_ ?_
   ·
    exact ⟨hf.sub ⟨rfl, rfl, rfl, trivial⟩, hm.pick [] (by decide) rfl⟩
   ·
    clear hf hm
    rintro i1_1 xs1_1 a w ⟨hf, hm⟩ hi1_1 hi1_2 q0_1 hb0_1 ho0_1
    refine wp_seq (wp_seq (wp_region_lit (st_y hf rfl rfl rfl (y_move rfl rfl) fun a hf => st_y hf rfl rfl rfl (y_move rfl rfl) fun a hf => st_y hf rfl rfl rfl (y_len_slice st_28.und rfl rfl) fun a hf => st_y hf rfl rfl rfl (y_lss rfl rfl rfl) fun a hf => st_end (x_then_n ?_))))
    refine cond_t hf rfl (decide_eq_true (by omega)) (wp_skip (x_then_n (wp_seq (wp_block (wp_seq (wp_tree (.p 0 (.p 1 (.p 2 (.p 4 (.p 5 (.p 6 (.q 3 (.e 7 (.e 8 (.p 9 .fin) .nil) .nil)))))))) [7] [0, 1, 2, 4, 5, 6, 9] (fun w => Mem w0 (hp w0) w []) (by kernel_rfl) (by kernel_rfl) (fun _ _ _ h => h.2) ?_))))))
    replace hm := hm.drew
    have hS : Mem w0 (hp w0) _ [] := hm.pick [] (by decide) rfl
    refine td_p hf rfl rfl rfl rfl (fun w => y_move rfl rfl) fun a hf => td_p hf rfl rfl rfl rfl (fun w => y_move rfl rfl) fun a hf => ?_
    obtain ⟨x1_1, hx1_1, hb0_1⟩ := bnd hb0_1
    obtain ⟨h1_1, hx1_2⟩ := getI_some.1 hx1_1
    obtain ⟨b1_1, o1_1, c1_1, he⟩ := idx_form' h1 hx1_2
    simp only [Value.slice.injEq, Option.some.injEq] at he; obtain ⟨rfl, _, rfl⟩ := he
    obtain ⟨_, _, hc1_1, hr1_1⟩ := ro_get' h1 hx1_2
    obtain ⟨_, _, rfl, rfl, _, _, rfl, rfl, h1_2⟩ := hr1_1
    obtain ⟨v1_1, rfl, -⟩ := id h1_2
    replace h1_2 : GT.rep (hp w0) [v1_1] x1_1.blocks := h1_2
    replace hc1_1 : CellsAt (hp w0) b1_1 (o1_1 + (i1_1).toNat * 3) [(.int .i64 (x1_1.params)), (.int .i64 (x1_1.regs)), v1_1] := hc1_1
    refine td_p hf rfl rfl rfl rfl (fun w => y_indexAddr st_28 rfl rfl rfl h1_1 (idx_lt hx1_2)) fun a hf => td_p hf rfl rfl rfl rfl (fun w => y_move rfl rfl) fun a hf => td_p hf rfl rfl rfl rfl (fun w => y_move rfl rfl) fun a hf => ?_
    obtain ⟨x1_2, hx1_3, hb0_1⟩ := bnd hb0_1
    obtain ⟨h1_3, hx1_4⟩ := getI_some.1 hx1_3
    obtain ⟨b1_2, o1_2, c1_2, he⟩ := idx_form' h2 hx1_4
    simp only [Value.slice.injEq, Option.some.injEq] at he; obtain ⟨rfl, _, rfl⟩ := he
    obtain ⟨_, _, hc1_2, hr1_2⟩ := ro_get' h2 hx1_4
    obtain ⟨_, _, rfl, rfl, _, _, rfl, rfl, h1_4⟩ := hr1_2
    obtain ⟨v1_2, rfl, -⟩ := id h1_4
    replace h1_4 : GT.rep (hp w0) [v1_2] x1_2.blocks := h1_4
    replace hc1_2 : CellsAt (hp w0) b1_2 (o1_2 + (i1_1).toNat * 3) [(.int .i64 (x1_2.params)), (.int .i64 (x1_2.regs)), v1_2] := hc1_2
    refine td_p hf rfl rfl rfl rfl (fun w => y_indexAddr st_28 rfl rfl rfl h1_3 (idx_lt hx1_4)) fun a hf => td_y hf rfl rfl rfl rfl hS (fun w hm => y_loadN (cs := [(.int .i64 (x1_1.params)), (.int .i64 (x1_1.regs)), v1_1]) Tryz.isAgg69 Tryz.sizeOf69 rfl rfl (hc1_1.mono hm.lez)) fun a hf => te_one (td_ef hf rfl rfl rfl rfl (ef_y hf (y_loadN (cs := [(.int .i64 (x1_2.params)), (.int .i64 (x1_2.regs)), v1_2]) Tryz.isAgg69 Tryz.sizeOf69 rfl rfl (hc1_2.mono hm.lez))) ?_)
    clear hf a; rintro _ _ a ⟨rfl, rfl⟩ hf
    refine ⟨fun _ => hS, ?_⟩
    refine te_one ?_
    obtain ⟨r1_1, hx1_5, hb0_1⟩ := bnd hb0_1
    refine td_ef hf rfl rfl rfl rfl (e_call hf rfl Tryz.call38 rfl (laws_eqCode_ok _ x1_1 v1_1 (hm.now h1_2) x1_2 v1_2 (hm.now h1_4) _ hx1_5)) ?_
    clear hf a; rintro v1_3 w1_1 a ho1_1 hf
    obtain ⟨rfl, hB⟩ := ho1_1
    replace hm := hm.below' hB; clear hB
    refine ⟨fun h => absurd h (by decide), ?_⟩
    refine td_p hf rfl rfl rfl rfl (fun w => y_not rfl rfl) fun a hf => ?_
    clear hS; refine td_end ?_
    refine x_then_n ?_
    rcases bcases (!(r1_1)) with h1_5 | h1_5
    ·
     replace hb0_1 := (ite_t h1_5).symm.trans hb0_1
     have h1_6 := bnot_t' h1_5
     refine cond_t hf rfl h1_5 (wp_seq (wp_region_lit (st_y hf rfl rfl rfl (y_assign rfl rfl) fun a hf => st_end (x_then_n (wp_ret (x_blk_ret (x_then_ret ?_)))))))
     refine x_then_ret (x_blk_ret (x_then_ret ?_))
     obtain rfl := Option.some.inj hb0_1
     obtain rfl := ho0_1 _ rfl
     replace hq := sum_r hq
     obtain rfl := Option.some.inj hq
     refine ret_tmp hf Tryz.results27 rfl ?_
     exact ⟨rfl, hm.below⟩
    ·
     replace hb0_1 := (ite_f h1_5).symm.trans hb0_1
     have h1_7 := bnot_f' h1_5
     refine cond_f hf rfl h1_5 (wp_skip (x_blk_n (x_then_n (wp_region_lit (st_y hf rfl rfl rfl (y_move rfl rfl) fun a hf => st_y hf rfl rfl rfl (y_add64 rfl rfl rfl (by omega) (by omega)) fun a hf => st_y hf rfl rfl rfl (y_assign rfl rfl) fun a hf => st_end ?_)))))
     refine x_then_n ?_
     obtain rfl := Option.some.inj hb0_1
     exact ⟨_, rfl, hf.sub ⟨rfl, rfl, rfl, trivial⟩, hm.pick [] (by decide) rfl⟩
   ·
    clear hf hm
    rintro i0_1 xs0_1 a w ⟨hf, hm⟩ hi0_1 hi0_2 rfl
    replace hq := sum_l hq
    refine wp_seq (wp_seq (wp_region_lit (st_y hf rfl rfl rfl (y_move rfl rfl) fun a hf => st_y hf rfl rfl rfl (y_move rfl rfl) fun a hf => st_y hf rfl rfl rfl (y_len_slice st_28.und rfl rfl) fun a hf => st_y hf rfl rfl rfl (y_lss rfl rfl rfl) fun a hf => st_end (x_then_n ?_))))
    refine cond_f hf rfl (decide_eq_false (by omega)) (wp_exit (x_then_exit (x_then_exit (x_blk_hit (x_then_n (wp_seq (wp_region_lit (st_y hf rfl rfl rfl (y_assign rfl rfl) fun a hf => ?_))))))))
    refine st_end (x_then_n (wp_ret ?_))
    obtain rfl := Option.some.inj hq
    refine ret_tmp hf Tryz.results27 rfl ?_
    exact ⟨rfl, hm.below⟩

theorem laws_eqUnit_ok (w0 : World) (a_ : Unit_) (v1 : Value) (h1 : GT.rep (hp w0) [v1] a_.codes) (b_ : Unit_) (v2 : Value) (h2 : GT.rep (hp w0) [v2] b_.codes) (r : Bool) (hq : laws_eqUnit a_ b_ = some r) :
    Con Tryz.prog 11 [(.agg #[v1]), (.agg #[v2])] w0 (fun v w' => v = (.bool (r)) ∧ Below w0.heap.size w0 w') := by
  unfold laws_eqUnit at hq
  refine con_body (l := [(0, (.agg #[v1])), (1, (.agg #[v2]))]) Tryz.func11 rfl Tryz.ntmps11 (Args.get ⟨rfl, rfl, trivial⟩) rfl ?_
  intro a hf
  have hm := Mem.start w0
  refine wp_seq (wp_region_lit (st_ef hf rfl rfl rfl (e_box hf hm rfl rfl rfl) ?_))
  clear hf a; rintro _ w0_1 a ⟨b0_1, rfl, hm⟩ hf
  refine st_ef hf rfl rfl rfl (e_box hf hm rfl rfl rfl) ?_
  clear hf a; rintro _ w0_2 a ⟨b0_2, rfl, hm⟩ hf
  refine st_y hf rfl rfl rfl (y_assign rfl rfl) fun a hf => st_end (x_then_n (wp_seq (wp_seq (wp_region_lit (st_y hf rfl rfl rfl (y_fieldAddr fo_30_0 rfl rfl) fun a hf => st_y hf rfl rfl rfl (y_load1 Tryz.isAgg28 rfl rfl (hm.blk_cell 1 rfl rfl)) fun a hf => st_y hf rfl rfl rfl (y_fieldAddr fo_30_0 rfl rfl) fun a hf => ?_)))))
  refine st_y hf rfl rfl rfl (y_load1 Tryz.isAgg28 rfl rfl (hm.blk_cell 0 rfl rfl)) fun a hf => ?_
  obtain ⟨r0_1, hx0_1, hq⟩ := bnd hq
  refine st_ef hf rfl rfl rfl (e_call hf rfl Tryz.call27 rfl (laws_eqCodeS_ok _ a_.codes v1 (hm.now h1) b_.codes v2 (hm.now h2) _ hx0_1)) ?_
  clear hf a; rintro v0_1 w0_3 a ho0_1 hf
  obtain ⟨rfl, hB⟩ := ho0_1
  replace hm := hm.below' hB; clear hB
  refine st_y hf rfl rfl rfl (y_not rfl rfl) fun a hf => st_end (x_then_n ?_)
  rcases bcases (!(r0_1)) with h0_1 | h0_1
  ·
   replace hq := (ite_t h0_1).symm.trans hq
   have h0_2 := bnot_t' h0_1
   refine cond_t hf rfl h0_1 (wp_seq (wp_region_lit (st_y hf rfl rfl rfl (y_assign rfl rfl) fun a hf => st_end (x_then_n (wp_ret (x_then_ret ?_))))))
   obtain rfl := Option.some.inj hq
   refine ret_tmp hf Tryz.results11 rfl ?_
   exact ⟨rfl, hm.below⟩
  ·
   replace hq := (ite_f h0_1).symm.trans hq
   have h0_3 := bnot_f' h0_1
   refine cond_f hf rfl h0_1 (wp_skip (x_then_n (wp_seq (wp_region_lit (st_y hf rfl rfl rfl (y_assign rfl rfl) fun a hf => st_end (x_then_n (wp_ret ?_)))))))
   obtain rfl := Option.some.inj hq
   refine ret_tmp hf Tryz.results11 rfl ?_
   exact ⟨rfl, hm.below⟩

theorem laws_markIntS_ok (w0 : World) (hz : Heap) (a_ : List Int) (v1 : Value) (k_ : Int) (hm0 : Mem w0 hz w0 [ow [v1] a_]) (r : Int × (List Int)) (hq : laws_markIntS a_ k_ = some r) :
    Con Tryz.prog 16 [v1, (.int .i64 (k_))] w0 (fun v w' => v = (.int .i64 (r.1)) ∧ Mem w0 hz w' [ow [v1] r.2]) := by
  unfold laws_markIntS at hq
  refine con_body (l := [(0, v1), (1, (.int .i64 (k_)))]) Tryz.func16 rfl Tryz.ntmps16 (Args.get ⟨rfl, rfl, trivial⟩) rfl ?_
  intro a hf
  have hm := hm0
  refine wp_seq (wp_region_lit (st_y hf rfl rfl rfl (y_assign rfl rfl) fun a hf => st_end (x_then_n (wp_seq (wp_seq (wp_region_lit (st_y hf rfl rfl rfl (y_assign rfl rfl) fun a hf => ?_)))))))
  refine st_end (x_then_n ?_)
  obtain ⟨p0_1, c0_1, he, hl0_1⟩ := ro_slice (hm.ow_rep 0 rfl)
  subst he
  refine wp_block ?_
  obtain ⟨r0_1, hl0_2, hq⟩ := bnd hq
  refine wp_forN _ (fun i1_1 xs1_1 a w => Fr 19 [(0, (.slice p0_1 a_.length c0_1)), (1, (.int .i64 (xs1_1.2))), (5, (.int .i64 (i1_1)))] a ∧ Mem w0 hz w [ow [(.slice p0_1 a_.length c0_1)] xs1_1.1]) (0) ((a_.length : Int)) hl0_2 ?_ ?_ ?_
  ·
   exact ⟨hf.sub ⟨rfl, rfl, rfl, trivial⟩, hm.pick [0] (by decide) rfl⟩
  ·
   clear hf hm
   rintro i1_1 xs1_1 a w ⟨hf, hm⟩ hi1_1 hi1_2 q0_1 hb0_1 ho0_1
   refine wp_seq (wp_seq (wp_region_lit (st_y hf rfl rfl rfl (y_move rfl rfl) fun a hf => st_y hf rfl rfl rfl (y_move rfl rfl) fun a hf => ?_)))
   have hl1_1 := rep_len (hm.ow_rep 0 rfl)
   refine st_y hf rfl rfl rfl (y_len_slice st_25.und rfl rfl) fun a hf => st_y hf rfl rfl rfl (y_lss rfl rfl rfl) fun a hf => st_end (x_then_n (cond_t hf rfl (decide_eq_true (by omega)) (wp_skip (x_then_n (wp_seq (wp_block ?_))))))
   refine wp_seq (wp_region_lit (st_y hf rfl rfl rfl (y_move rfl rfl) fun a hf => st_y hf rfl rfl rfl (y_move rfl rfl) fun a hf => st_y hf rfl rfl rfl (y_move rfl rfl) fun a hf => ?_))
   obtain ⟨x1_1, hx1_1, hb0_1⟩ := bnd hb0_1
   obtain ⟨h1_1, hx1_2⟩ := getI_some.1 hx1_1
   obtain ⟨b1_1, o1_1, c1_1, he⟩ := idx_form (hm.ow_rep 0 rfl) hx1_2
   simp only [Value.slice.injEq, Option.some.injEq] at he; obtain ⟨rfl, _, rfl⟩ := he
   have hL1_1 := rep_slice_len (hm.ow_rep 0 rfl)
   refine st_y hf rfl rfl rfl (y_indexAddr st_25 rfl rfl rfl h1_1 (idx_lt2 hx1_2 hL1_1)) fun a hf => st_ef0 hf rfl rfl (e_setElem (x1 := xs1_1.2) (j := 0) (vs := [(.int .i64 (xs1_1.2))]) 0 hf hm rfl hx1_2 rfl Tryz.sizeOf3 rfl rfl rfl (one_cons rfl one_nil) rfl rfl) ?_
   clear hf a; rintro _ w1_1 a hm hf
   have hx1_3 := List.getElem?_set_self (a := xs1_1.2) (idx_lt hx1_2)
   refine st_end (x_then_n (wp_region_lit (st_y hf rfl rfl rfl (y_move rfl rfl) fun a hf => st_y hf rfl rfl rfl (y_addw rfl rfl rfl) fun a hf => st_y hf rfl rfl rfl (y_assign rfl rfl) fun a hf => st_end (x_blk_n (x_then_n ?_)))))
   refine wp_region_lit (st_y hf rfl rfl rfl (y_move rfl rfl) fun a hf => st_y hf rfl rfl rfl (y_add64 rfl rfl rfl (by omega) (by omega)) fun a hf => st_y hf rfl rfl rfl (y_assign rfl rfl) fun a hf => st_end (x_then_n ?_))
   obtain rfl := Option.some.inj hb0_1
   exact ⟨_, rfl, hf.sub ⟨rfl, rfl, rfl, trivial⟩, hm.pick [0] (by decide) rfl⟩
  ·
   clear hf hm
   rintro i0_1 xs0_1 a w ⟨hf, hm⟩ hi0_1 hi0_2 rfl
   replace hq := sum_l hq
   refine wp_seq (wp_seq (wp_region_lit (st_y hf rfl rfl rfl (y_move rfl rfl) fun a hf => st_y hf rfl rfl rfl (y_move rfl rfl) fun a hf => ?_)))
   have hl0_3 := rep_len (hm.ow_rep 0 rfl)
   refine st_y hf rfl rfl rfl (y_len_slice st_25.und rfl rfl) fun a hf => st_y hf rfl rfl rfl (y_lss rfl rfl rfl) fun a hf => st_end (x_then_n (cond_f hf rfl (decide_eq_false (by omega)) (wp_exit (x_then_exit (x_then_exit (x_blk_hit ?_))))))
   refine x_then_n (wp_seq (wp_region_lit (st_y hf rfl rfl rfl (y_move rfl rfl) fun a hf => st_y hf rfl rfl rfl (y_assign rfl rfl) fun a hf => st_end (x_then_n (wp_ret ?_)))))
   obtain rfl := Option.some.inj hq
   refine ret_tmp hf Tryz.results16 rfl ?_
   exact ⟨rfl, hm.pick [0] (by decide) rfl⟩

theorem laws_markPhiS_ok (w0 : World) (hz : Heap) (a_ : List Phi_) (v1 : Value) (k_ : Int) (hm0 : Mem w0 hz w0 [ow [v1] a_]) (r : Int × (List Phi_)) (hq : laws_markPhiS a_ k_ = some r) :
    Con Tryz.prog 70 [v1, (.int .i64 (k_))] w0 (fun v w' => v = (.int .i64 (r.1)) ∧ Mem w0 hz w' [ow [v1] r.2]) := by
  unfold laws_markPhiS at hq
  refine con_body (l := [(0, v1), (1, (.int .i64 (k_)))]) Tryz.func70 rfl Tryz.ntmps70 (Args.get ⟨rfl, rfl, trivial⟩) rfl ?_
  intro a hf
  have hm := hm0
  refine wp_seq (wp_region_lit (st_y hf rfl rfl rfl (y_assign rfl rfl) fun a hf => st_end (x_then_n (wp_seq (wp_seq (wp_region_lit (st_y hf rfl rfl rfl (y_assign rfl rfl) fun a hf => ?_)))))))
  refine st_end (x_then_n ?_)
  obtain ⟨p0_1, c0_1, he, hl0_1⟩ := ro_slice (hm.ow_rep 0 rfl)
  subst he
  refine wp_block ?_
  obtain ⟨r0_1, hl0_2, hq⟩ := bnd hq
  refine wp_forN _ (fun i1_1 xs1_1 a w => Fr 27 [(0, (.slice p0_1 a_.length c0_1)), (1, (.int .i64 (xs1_1.2))), (5, (.int .i64 (i1_1)))] a ∧ Mem w0 hz w [ow [(.slice p0_1 a_.length c0_1)] xs1_1.1]) (0) ((a_.length : Int)) hl0_2 ?_ ?_ ?_
  ·
   exact ⟨hf.sub ⟨rfl, rfl, rfl, trivial⟩, hm.pick [0] (by decide) rfl⟩
  ·
   clear hf hm
   rintro i1_1 xs1_1 a w ⟨hf, hm⟩ hi1_1 hi1_2 q0_1 hb0_1 ho0_1
   refine wp_seq (wp_seq (wp_region_lit (st_y hf rfl rfl rfl (y_move rfl rfl) fun a hf => st_y hf rfl rfl rfl (y_move rfl rfl) fun a hf => ?_)))
   have hl1_1 := rep_len (hm.ow_rep 0 rfl)
   refine st_y hf rfl rfl rfl (y_len_slice st_83.und rfl rfl) fun a hf => st_y hf rfl rfl rfl (y_lss rfl rfl rfl) fun a hf => st_end (x_then_n (cond_t hf rfl (decide_eq_true (by omega)) (wp_skip (x_then_n (wp_seq (wp_block ?_))))))
   refine wp_seq (wp_region_lit (st_y hf rfl rfl rfl (y_move rfl rfl) fun a hf => st_y hf rfl rfl rfl (y_move rfl rfl) fun a hf => st_y hf rfl rfl rfl (y_move rfl rfl) fun a hf => ?_))
   obtain ⟨x1_1, hx1_1, hb0_1⟩ := bnd hb0_1
   obtain ⟨h1_1, hx1_2⟩ := getI_some.1 hx1_1
   obtain ⟨b1_1, o1_1, c1_1, he⟩ := idx_form' (hm.ow_rep 0 rfl) hx1_2
   simp only [Value.slice.injEq, Option.some.injEq] at he; obtain ⟨rfl, _, rfl⟩ := he
   obtain ⟨_, _, hc1_1, hr1_1⟩ := ro_get' (hm.ow_rep 0 rfl) hx1_2
   obtain ⟨_, _, rfl, rfl, h1_2⟩ := hr1_1
   obtain ⟨v1_1, rfl, -⟩ := id h1_2
   replace h1_2 : GT.rep (hp _) [v1_1] x1_1.args := h1_2
   replace hc1_1 : CellsAt (hp _) b1_1 (o1_1 + (i1_1).toNat * 2) [(.int .i64 (x1_1.to)), v1_1] := hc1_1
   have hL1_1 := rep_slice_len (hm.ow_rep 0 rfl)
   refine st_y hf rfl rfl rfl (y_indexAddr st_83 rfl rfl rfl h1_1 (idx_lt2 hx1_2 hL1_1)) fun a hf => st_y hf rfl rfl rfl (y_fieldAddr fo_102_0 rfl rfl) fun a hf => st_ef0 hf rfl rfl (e_setElemR (x1 := ((⟨xs1_1.2, x1_1.args⟩ : Phi_) : Phi_)) (j := 0) (vs := [(.int .i64 (xs1_1.2))]) 0 hf hm rfl hx1_2 hc1_1 rfl (fun F h ho => (fun _ => own_fst_map (α := Int) (β := (List Int)) (cs := [(.int .i64 (x1_1.to))]) (cs' := [(.int .i64 (xs1_1.2))]) (ds := [v1_1]) rfl (fun _ _ => Flat.own_iff.2 rfl)) F ho) rfl Tryz.sizeOf3 rfl rfl rfl (one_cons rfl one_nil) rfl) ?_
   clear hf a; rintro _ w1_1 a hm hf
   have hx1_3 := List.getElem?_set_self (a := ((⟨xs1_1.2, x1_1.args⟩ : Phi_) : Phi_)) (idx_lt hx1_2)
   refine st_end (x_then_n (wp_seq (wp_region_lit (st_y hf rfl rfl rfl (y_move rfl rfl) fun a hf => st_y hf rfl rfl rfl (y_addw rfl rfl rfl) fun a hf => st_y hf rfl rfl rfl (y_assign rfl rfl) fun a hf => st_end (x_then_n ?_)))))
   refine wp_region_lit (st_y hf rfl rfl rfl (y_move rfl rfl) fun a hf => st_y hf rfl rfl rfl (y_move rfl rfl) fun a hf => ?_)
   obtain ⟨_, _, hc1_2, hr1_2⟩ := ro_get' (hm.ow_rep 0 rfl) hx1_3
   obtain ⟨_, _, rfl, rfl, h1_3⟩ := hr1_2
   obtain ⟨v1_2, rfl, -⟩ := id h1_3
   replace h1_3 : GT.rep (hp _) [v1_2] x1_1.args := h1_3
   replace hc1_2 : CellsAt (hp _) b1_1 (o1_1 + (i1_1).toNat * 2) [(.int .i64 (xs1_1.2)), v1_2] := hc1_2
   have hL1_2 := rep_slice_len (hm.ow_rep 0 rfl)
   refine st_y hf rfl rfl rfl (y_indexAddr st_83 rfl rfl rfl h1_1 (idx_lt2 hx1_3 hL1_2)) fun a hf => st_y hf rfl rfl rfl (y_fieldAddr fo_102_1 rfl rfl) fun a hf => st_y hf rfl rfl rfl (y_load1 Tryz.isAgg25 rfl rfl (hc1_2.cell (j := 1) rfl)) fun a hf => st_y hf rfl rfl rfl (y_move rfl rfl) fun a hf => ?_
   replace hm : Mem w0 hz _ [ow [v1_2] x1_1.args, hole [(.slice (some ⟨b1_1, o1_1, none⟩) a_.length c0_1)] [v1_2] (fun (y : List Int) => ((xs1_1.1.set (i1_1).toNat (⟨xs1_1.2, x1_1.args⟩ : Phi_)) : List Phi_).set (i1_1).toNat (⟨xs1_1.2, y⟩ : Phi_))] := hm.open 0 rfl (foc_elem hx1_3 hc1_2 rfl (show FocH (α := Phi_) _ _ (⟨xs1_1.2, x1_1.args⟩ : Phi_) [v1_2] x1_1.args (fun y => (⟨xs1_1.2, y⟩ : Phi_)) from (foc_snd (α := Int) (β := (List Int)) (cs := [(.int .i64 (xs1_1.2))]) (ds := [v1_2]) (v := [v1_2]) (inner := x1_1.args) (x := x1_1.args) (z := xs1_1.2) (put := fun (y : List Int) => y) rfl (foc_id [v1_2] x1_1.args))))
   obtain ⟨r1_1, hx1_4, hb0_1⟩ := bnd hb0_1
   obtain ⟨hz1_1, hle, hm1, hsub, hk1_1⟩ := hm.take2 (L1 := [ow [v1_2] x1_1.args]) (L2 := [hole [(.slice (some ⟨b1_1, o1_1, none⟩) a_.length c0_1)] [v1_2] (fun (y : List Int) => ((xs1_1.1.set (i1_1).toNat (⟨xs1_1.2, x1_1.args⟩ : Phi_)) : List Phi_).set (i1_1).toNat (⟨xs1_1.2, y⟩ : Phi_))]) [0] [1] (by decide) rfl rfl
   refine st_ef hf rfl rfl rfl (e_call hf rfl Tryz.call16 rfl (laws_markIntS_ok _ hz1_1 x1_1.args v1_2 (w64 (xs1_1.2 + 1)) hm1  _ hx1_4)) ?_
   clear hf a; rintro v1_3 w1_2 a ho1_1 hf
   obtain ⟨rfl, hB⟩ := ho1_1
   replace hm := hk1_1 _ _ hB; clear hB
   replace hm := (hm.shut 1 0 (by decide) rfl rfl).pick (L' := [ow [(.slice (some ⟨b1_1, o1_1, none⟩) a_.length c0_1)] ((xs1_1.1.set (i1_1).toNat (⟨xs1_1.2, x1_1.args⟩ : Phi_)).set (i1_1).toNat (⟨xs1_1.2, r1_1.2⟩ : Phi_))]) [1] (by decide) rfl
   refine st_y hf rfl rfl rfl (y_assign rfl rfl) fun a hf => st_end (x_blk_n (x_then_n (wp_region_lit (st_y hf rfl rfl rfl (y_move rfl rfl) fun a hf => st_y hf rfl rfl rfl (y_add64 rfl rfl rfl (by omega) (by omega)) fun a hf => st_y hf rfl rfl rfl (y_assign rfl rfl) fun a hf => st_end ?_))))
   refine x_then_n ?_
   obtain rfl := Option.some.inj hb0_1
   exact ⟨_, rfl, hf.sub ⟨rfl, rfl, rfl, trivial⟩, hm.pick [0] (by decide) rfl⟩
  ·
   clear hf hm
   rintro i0_1 xs0_1 a w ⟨hf, hm⟩ hi0_1 hi0_2 rfl
   replace hq := sum_l hq
   refine wp_seq (wp_seq (wp_region_lit (st_y hf rfl rfl rfl (y_move rfl rfl) fun a hf => st_y hf rfl rfl rfl (y_move rfl rfl) fun a hf => ?_)))
   have hl0_3 := rep_len (hm.ow_rep 0 rfl)
   refine st_y hf rfl rfl rfl (y_len_slice st_83.und rfl rfl) fun a hf => st_y hf rfl rfl rfl (y_lss rfl rfl rfl) fun a hf => st_end (x_then_n (cond_f hf rfl (decide_eq_false (by omega)) (wp_exit (x_then_exit (x_then_exit (x_blk_hit ?_))))))
   refine x_then_n (wp_seq (wp_region_lit (st_y hf rfl rfl rfl (y_move rfl rfl) fun a hf => st_y hf rfl rfl rfl (y_assign rfl rfl) fun a hf => st_end (x_then_n (wp_ret ?_)))))
   obtain rfl := Option.some.inj hq
   refine ret_tmp hf Tryz.results70 rfl ?_
   exact ⟨rfl, hm.pick [0] (by decide) rfl⟩

theorem laws_markInsS_ok (w0 : World) (hz : Heap) (a_ : List Ins_) (v1 : Value) (k_ : Int) (hm0 : Mem w0 hz w0 [ow [v1] a_]) (r : Int × (List Ins_)) (hq : laws_markInsS a_ k_ = some r) :
    Con Tryz.prog 71 [v1, (.int .i64 (k_))] w0 (fun v w' => v = (.int .i64 (r.1)) ∧ Mem w0 hz w' [ow [v1] r.2]) := by
  unfold laws_markInsS at hq
  refine con_body (l := [(0, v1), (1, (.int .i64 (k_)))]) Tryz.func71 rfl Tryz.ntmps71 (Args.get ⟨rfl, rfl, trivial⟩) rfl ?_
  intro a hf
  have hm := hm0
  refine wp_seq (wp_region_lit (st_y hf rfl rfl rfl (y_assign rfl rfl) fun a hf => st_end (x_then_n (wp_seq (wp_seq (wp_region_lit (st_y hf rfl rfl rfl (y_assign rfl rfl) fun a hf => ?_)))))))
  refine st_end (x_then_n ?_)
  obtain ⟨p0_1, c0_1, he, hl0_1⟩ := ro_slice (hm.ow_rep 0 rfl)
  subst he
  refine wp_block ?_
  obtain ⟨r0_1, hl0_2, hq⟩ := bnd hq
  refine wp_forN _ (fun i1_1 xs1_1 a w => Fr 41 [(0, (.slice p0_1 a_.length c0_1)), (1, (.int .i64 (xs1_1.2))), (5, (.int .i64 (i1_1)))] a ∧ Mem w0 hz w [ow [(.slice p0_1 a_.length c0_1)] xs1_1.1]) (0) ((a_.length : Int)) hl0_2 ?_ ?_ ?_
  ·
   exact ⟨hf.sub ⟨rfl, rfl, rfl, trivial⟩, hm.pick [0] (by decide) rfl⟩
  ·
   clear hf hm
   rintro i1_1 xs1_1 a w ⟨hf, hm⟩ hi1_1 hi1_2 q0_1 hb0_1 ho0_1
   refine wp_seq (wp_seq (wp_region_lit (st_y hf rfl rfl rfl (y_move rfl rfl) fun a hf => st_y hf rfl rfl rfl (y_move rfl rfl) fun a hf => ?_)))
   have hl1_1 := rep_len (hm.ow_rep 0 rfl)
   refine st_y hf rfl rfl rfl (y_len_slice st_84.und rfl rfl) fun a hf => st_y hf rfl rfl rfl (y_lss rfl rfl rfl) fun a hf => st_end (x_then_n (cond_t hf rfl (decide_eq_true (by omega)) (wp_skip (x_then_n (wp_seq (wp_block ?_))))))
   refine wp_seq (wp_region_lit (st_y hf rfl rfl rfl (y_move rfl rfl) fun a hf => st_y hf rfl rfl rfl (y_move rfl rfl) fun a hf => st_y hf rfl rfl rfl (y_move rfl rfl) fun a hf => ?_))
   obtain ⟨x1_1, hx1_1, hb0_1⟩ := bnd hb0_1
   obtain ⟨h1_1, hx1_2⟩ := getI_some.1 hx1_1
   obtain ⟨b1_1, o1_1, c1_1, he⟩ := idx_form' (hm.ow_rep 0 rfl) hx1_2
   simp only [Value.slice.injEq, Option.some.injEq] at he; obtain ⟨rfl, _, rfl⟩ := he
   obtain ⟨_, _, hc1_1, hr1_1⟩ := ro_get' (hm.ow_rep 0 rfl) hx1_2
   obtain ⟨_, _, rfl, rfl, _, _, rfl, rfl, _, _, rfl, h1_2, rfl⟩ := hr1_1
   obtain ⟨v1_1, rfl, -⟩ := id h1_2
   replace h1_2 : GT.rep (hp _) [v1_1] x1_1.args := h1_2
   replace hc1_1 : CellsAt (hp _) b1_1 (o1_1 + (i1_1).toNat * 4) [(.int .i64 (x1_1.op)), (.int .i64 (x1_1.to)), v1_1, (.int .i64 (x1_1.n_))] := hc1_1
   have hL1_1 := rep_slice_len (hm.ow_rep 0 rfl)
   refine st_y hf rfl rfl rfl (y_indexAddr st_84 rfl rfl rfl h1_1 (idx_lt2 hx1_2 hL1_1)) fun a hf => st_y hf rfl rfl rfl (y_fieldAddr fo_91_0 rfl rfl) fun a hf => st_ef0 hf rfl rfl (e_setElemR (x1 := ((⟨xs1_1.2, x1_1.to, x1_1.args, x1_1.n_⟩ : Ins_) : Ins_)) (j := 0) (vs := [(.int .i64 (xs1_1.2))]) 0 hf hm rfl hx1_2 hc1_1 rfl (fun F h ho => (fun _ => own_fst_map (α := Int) (β := Int × (List Int) × Int) (cs := [(.int .i64 (x1_1.op))]) (cs' := [(.int .i64 (xs1_1.2))]) (ds := [(.int .i64 (x1_1.to)), v1_1, (.int .i64 (x1_1.n_))]) rfl (fun _ _ => Flat.own_iff.2 rfl)) F ho) rfl Tryz.sizeOf3 rfl rfl rfl (one_cons rfl one_nil) rfl) ?_
   clear hf a; rintro _ w1_1 a hm hf
   have hx1_3 := List.getElem?_set_self (a := ((⟨xs1_1.2, x1_1.to, x1_1.args, x1_1.n_⟩ : Ins_) : Ins_)) (idx_lt hx1_2)
   refine st_end (x_then_n (wp_seq (wp_region_lit (st_y hf rfl rfl rfl (y_move rfl rfl) fun a hf => st_y hf rfl rfl rfl (y_addw rfl rfl rfl) fun a hf => st_y hf rfl rfl rfl (y_assign rfl rfl) fun a hf => st_end (x_then_n ?_)))))
   refine wp_seq (wp_region_lit (st_y hf rfl rfl rfl (y_move rfl rfl) fun a hf => st_y hf rfl rfl rfl (y_move rfl rfl) fun a hf => st_y hf rfl rfl rfl (y_move rfl rfl) fun a hf => ?_))
   obtain ⟨_, _, hc1_2, hr1_2⟩ := ro_get' (hm.ow_rep 0 rfl) hx1_3
   obtain ⟨_, _, rfl, rfl, _, _, rfl, rfl, _, _, rfl, h1_3, rfl⟩ := hr1_2
   obtain ⟨v1_2, rfl, -⟩ := id h1_3
   replace h1_3 : GT.rep (hp _) [v1_2] x1_1.args := h1_3
   replace hc1_2 : CellsAt (hp _) b1_1 (o1_1 + (i1_1).toNat * 4) [(.int .i64 (xs1_1.2)), (.int .i64 (x1_1.to)), v1_2, (.int .i64 (x1_1.n_))] := hc1_2
   have hL1_2 := rep_slice_len (hm.ow_rep 0 rfl)
   refine st_y hf rfl rfl rfl (y_indexAddr st_84 rfl rfl rfl h1_1 (idx_lt2 hx1_3 hL1_2)) fun a hf => st_y hf rfl rfl rfl (y_fieldAddr fo_91_1 rfl rfl) fun a hf => st_ef0 hf rfl rfl (e_setElemR (x1 := ((⟨xs1_1.2, w64 (xs1_1.2 + 1), x1_1.args, x1_1.n_⟩ : Ins_) : Ins_)) (j := 1) (vs := [(.int .i64 (w64 (xs1_1.2 + 1)))]) 0 hf hm rfl hx1_3 hc1_2 rfl (fun F h ho => (fun _ => own_snd_map (α := Int) (β := Int × (List Int) × Int) (cs := [(.int .i64 (xs1_1.2))]) (ds := [(.int .i64 (x1_1.to)), v1_2, (.int .i64 (x1_1.n_))]) (ds' := [(.int .i64 (w64 (xs1_1.2 + 1))), v1_2, (.int .i64 (x1_1.n_))]) rfl (fun _ => own_fst_map (α := Int) (β := (List Int) × Int) (cs := [(.int .i64 (x1_1.to))]) (cs' := [(.int .i64 (w64 (xs1_1.2 + 1)))]) (ds := [v1_2, (.int .i64 (x1_1.n_))]) rfl (fun _ _ => Flat.own_iff.2 rfl))) F ho) rfl Tryz.sizeOf3 rfl rfl rfl (one_cons rfl one_nil) rfl) ?_
   clear hf a; rintro _ w1_2 a hm hf
   have hx1_4 := List.getElem?_set_self (a := ((⟨xs1_1.2, w64 (xs1_1.2 + 1), x1_1.args, x1_1.n_⟩ : Ins_) : Ins_)) (idx_lt hx1_3)
   refine st_end (x_then_n (wp_seq (wp_region_lit (st_y hf rfl rfl rfl (y_move rfl rfl) fun a hf => st_y hf rfl rfl rfl (y_addw rfl rfl rfl) fun a hf => st_y hf rfl rfl rfl (y_assign rfl rfl) fun a hf => st_end (x_then_n ?_)))))
   refine wp_seq (wp_region_lit (st_y hf rfl rfl rfl (y_move rfl rfl) fun a hf => st_y hf rfl rfl rfl (y_move rfl rfl) fun a hf => ?_))
   obtain ⟨_, _, hc1_3, hr1_3⟩ := ro_get' (hm.ow_rep 0 rfl) hx1_4
   obtain ⟨_, _, rfl, rfl, _, _, rfl, rfl, _, _, rfl, h1_4, rfl⟩ := hr1_3
   obtain ⟨v1_3, rfl, -⟩ := id h1_4
   replace h1_4 : GT.rep (hp _) [v1_3] x1_1.args := h1_4
   replace hc1_3 : CellsAt (hp _) b1_1 (o1_1 + (i1_1).toNat * 4) [(.int .i64 (xs1_1.2)), (.int .i64 (w64 (xs1_1.2 + 1))), v1_3, (.int .i64 (x1_1.n_))] := hc1_3
   have hL1_3 := rep_slice_len (hm.ow_rep 0 rfl)
   refine st_y hf rfl rfl rfl (y_indexAddr st_84 rfl rfl rfl h1_1 (idx_lt2 hx1_4 hL1_3)) fun a hf => st_y hf rfl rfl rfl (y_fieldAddr fo_91_2 rfl rfl) fun a hf => st_y hf rfl rfl rfl (y_load1 Tryz.isAgg25 rfl rfl (hc1_3.cell (j := 2) rfl)) fun a hf => st_y hf rfl rfl rfl (y_move rfl rfl) fun a hf => ?_
   replace hm : Mem w0 hz _ [ow [v1_3] x1_1.args, hole [(.slice (some ⟨b1_1, o1_1, none⟩) a_.length c0_1)] [v1_3] (fun (y : List Int) => (((xs1_1.1.set (i1_1).toNat (⟨xs1_1.2, x1_1.to, x1_1.args, x1_1.n_⟩ : Ins_)).set (i1_1).toNat (⟨xs1_1.2, w64 (xs1_1.2 + 1), x1_1.args, x1_1.n_⟩ : Ins_)) : List Ins_).set (i1_1).toNat (⟨xs1_1.2, w64 (xs1_1.2 + 1), y, x1_1.n_⟩ : Ins_))] := hm.open 0 rfl (foc_elem hx1_4 hc1_3 rfl (show FocH (α := Ins_) _ _ (⟨xs1_1.2, w64 (xs1_1.2 + 1), x1_1.args, x1_1.n_⟩ : Ins_) [v1_3] x1_1.args (fun y => (⟨xs1_1.2, w64 (xs1_1.2 + 1), y, x1_1.n_⟩ : Ins_)) from (foc_snd (α := Int) (β := Int × (List Int) × Int) (cs := [(.int .i64 (xs1_1.2))]) (ds := [(.int .i64 (w64 (xs1_1.2 + 1))), v1_3, (.int .i64 (x1_1.n_))]) (v := [v1_3]) (inner := x1_1.args) (x := (w64 (xs1_1.2 + 1), x1_1.args, x1_1.n_)) (z := xs1_1.2) (put := fun (y : List Int) => (w64 (xs1_1.2 + 1), y, x1_1.n_)) rfl (foc_snd (α := Int) (β := (List Int) × Int) (cs := [(.int .i64 (w64 (xs1_1.2 + 1)))]) (ds := [v1_3, (.int .i64 (x1_1.n_))]) (v := [v1_3]) (inner := x1_1.args) (x := (x1_1.args, x1_1.n_)) (z := w64 (xs1_1.2 + 1)) (put := fun (y : List Int) => (y, x1_1.n_)) rfl (foc_fst (α := List Int) (β := Int) (cs := [v1_3]) (ds := [(.int .i64 (x1_1.n_))]) (v := [v1_3]) (inner := x1_1.args) (x := x1_1.args) (z := x1_1.n_) (put := fun (y : List Int) => y) rfl (foc_id [v1_3] x1_1.args))))))
   obtain ⟨r1_1, hx1_5, hb0_1⟩ := bnd hb0_1
   obtain ⟨hz1_1, hle, hm1, hsub, hk1_1⟩ := hm.take2 (L1 := [ow [v1_3] x1_1.args]) (L2 := [hole [(.slice (some ⟨b1_1, o1_1, none⟩) a_.length c0_1)] [v1_3] (fun (y : List Int) => (((xs1_1.1.set (i1_1).toNat (⟨xs1_1.2, x1_1.to, x1_1.args, x1_1.n_⟩ : Ins_)).set (i1_1).toNat (⟨xs1_1.2, w64 (xs1_1.2 + 1), x1_1.args, x1_1.n_⟩ : Ins_)) : List Ins_).set (i1_1).toNat (⟨xs1_1.2, w64 (xs1_1.2 + 1), y, x1_1.n_⟩ : Ins_))]) [0] [1] (by decide) rfl rfl
   refine st_ef hf rfl rfl rfl (e_call hf rfl Tryz.call16 rfl (laws_markIntS_ok _ hz1_1 x1_1.args v1_3 (w64 ((w64 (xs1_1.2 + 1)) + 1)) hm1  _ hx1_5)) ?_
   clear hf a; rintro v1_4 w1_3 a ho1_1 hf
   obtain ⟨rfl, hB⟩ := ho1_1
   replace hm := hk1_1 _ _ hB; clear hB
   replace hm := (hm.shut 1 0 (by decide) rfl rfl).pick (L' := [ow [(.slice (some ⟨b1_1, o1_1, none⟩) a_.length c0_1)] (((xs1_1.1.set (i1_1).toNat (⟨xs1_1.2, x1_1.to, x1_1.args, x1_1.n_⟩ : Ins_)).set (i1_1).toNat (⟨xs1_1.2, w64 (xs1_1.2 + 1), x1_1.args, x1_1.n_⟩ : Ins_)).set (i1_1).toNat (⟨xs1_1.2, w64 (xs1_1.2 + 1), r1_1.2, x1_1.n_⟩ : Ins_))]) [1] (by decide) rfl
   refine st_y hf rfl rfl rfl (y_assign rfl rfl) fun a hf => st_end (x_then_n (wp_seq (wp_region_lit (st_y hf rfl rfl rfl (y_move rfl rfl) fun a hf => st_y hf rfl rfl rfl (y_move rfl rfl) fun a hf => st_y hf rfl rfl rfl (y_move rfl rfl) fun a hf => ?_))))
   obtain ⟨x1_2, hx1_6, hb0_1⟩ := bnd hb0_1
   obtain ⟨h1_5, hx1_7⟩ := getI_some.1 hx1_6
   obtain ⟨_, _, hc1_4, hr1_4⟩ := ro_get' (hm.ow_rep 0 rfl) hx1_7
   obtain ⟨_, _, rfl, rfl, _, _, rfl, rfl, _, _, rfl, h1_6, rfl⟩ := hr1_4
   obtain ⟨v1_5, rfl, -⟩ := id h1_6
   replace h1_6 : GT.rep (hp _) [v1_5] x1_2.args := h1_6
   replace hc1_4 : CellsAt (hp _) b1_1 (o1_1 + (i1_1).toNat * 4) [(.int .i64 (x1_2.op)), (.int .i64 (x1_2.to)), v1_5, (.int .i64 (x1_2.n_))] := hc1_4
   have hL1_4 := rep_slice_len (hm.ow_rep 0 rfl)
   refine st_y hf rfl rfl rfl (y_indexAddr st_84 rfl rfl rfl h1_5 (idx_lt2 hx1_7 hL1_4)) fun a hf => st_y hf rfl rfl rfl (y_fieldAddr fo_91_3 rfl rfl) fun a hf => st_ef0 hf rfl rfl (e_setElemR (x1 := ((⟨x1_2.op, x1_2.to, x1_2.args, r1_1.1⟩ : Ins_) : Ins_)) (j := 3) (vs := [(.int .i64 (r1_1.1))]) 0 hf hm rfl hx1_7 hc1_4 rfl (fun F h ho => (fun _ => own_snd_map (α := Int) (β := Int × (List Int) × Int) (cs := [(.int .i64 (x1_2.op))]) (ds := [(.int .i64 (x1_2.to)), v1_5, (.int .i64 (x1_2.n_))]) (ds' := [(.int .i64 (x1_2.to)), v1_5, (.int .i64 (r1_1.1))]) rfl (fun _ => own_snd_map (α := Int) (β := (List Int) × Int) (cs := [(.int .i64 (x1_2.to))]) (ds := [v1_5, (.int .i64 (x1_2.n_))]) (ds' := [v1_5, (.int .i64 (r1_1.1))]) rfl (fun _ => own_snd_map (α := List Int) (β := Int) (cs := [v1_5]) (ds := [(.int .i64 (x1_2.n_))]) (ds' := [(.int .i64 (r1_1.1))]) rfl (fun _ _ => Flat.own_iff.2 rfl)))) F ho) rfl Tryz.sizeOf3 rfl rfl rfl (one_cons rfl one_nil) rfl) ?_
   clear hf a; rintro _ w1_4 a hm hf
   have hx1_8 := List.getElem?_set_self (a := ((⟨x1_2.op, x1_2.to, x1_2.args, r1_1.1⟩ : Ins_) : Ins_)) (idx_lt hx1_7)
   refine st_end (x_then_n (wp_region_lit (st_y hf rfl rfl rfl (y_move rfl rfl) fun a hf => st_y hf rfl rfl rfl (y_addw rfl rfl rfl) fun a hf => st_y hf rfl rfl rfl (y_assign rfl rfl) fun a hf => st_end (x_blk_n (x_then_n ?_)))))
   refine wp_region_lit (st_y hf rfl rfl rfl (y_move rfl rfl) fun a hf => st_y hf rfl rfl rfl (y_add64 rfl rfl rfl (by omega) (by omega)) fun a hf => st_y hf rfl rfl rfl (y_assign rfl rfl) fun a hf => st_end (x_then_n ?_))
   obtain rfl := Option.some.inj hb0_1
   exact ⟨_, rfl, hf.sub ⟨rfl, rfl, rfl, trivial⟩, hm.pick [0] (by decide) rfl⟩
  ·
   clear hf hm
   rintro i0_1 xs0_1 a w ⟨hf, hm⟩ hi0_1 hi0_2 rfl
   replace hq := sum_l hq
   refine wp_seq (wp_seq (wp_region_lit (st_y hf rfl rfl rfl (y_move rfl rfl) fun a hf => st_y hf rfl rfl rfl (y_move rfl rfl) fun a hf => ?_)))
   have hl0_3 := rep_len (hm.ow_rep 0 rfl)
   refine st_y hf rfl rfl rfl (y_len_slice st_84.und rfl rfl) fun a hf => st_y hf rfl rfl rfl (y_lss rfl rfl rfl) fun a hf => st_end (x_then_n (cond_f hf rfl (decide_eq_false (by omega)) (wp_exit (x_then_exit (x_then_exit (x_blk_hit ?_))))))
   refine x_then_n (wp_seq (wp_region_lit (st_y hf rfl rfl rfl (y_move rfl rfl) fun a hf => st_y hf rfl rfl rfl (y_assign rfl rfl) fun a hf => st_end (x_then_n (wp_ret ?_)))))
   obtain rfl := Option.some.inj hq
   refine ret_tmp hf Tryz.results71 rfl ?_
   exact ⟨rfl, hm.pick [0] (by decide) rfl⟩

theorem laws_markBlockS_ok (w0 : World) (hz : Heap) (a_ : List Block_) (v1 : Value) (k_ : Int) (hm0 : Mem w0 hz w0 [ow [v1] a_]) (r : Int × (List Block_)) (hq : laws_markBlockS a_ k_ = some r) :
    Con Tryz.prog 50 [v1, (.int .i64 (k_))] w0 (fun v w' => v = (.int .i64 (r.1)) ∧ Mem w0 hz w' [ow [v1] r.2]) := by
  unfold laws_markBlockS at hq
  refine con_body (l := [(0, v1), (1, (.int .i64 (k_)))]) Tryz.func50 rfl Tryz.ntmps50 (Args.get ⟨rfl, rfl, trivial⟩) rfl ?_
  intro a hf
  have hm := hm0
  refine wp_seq (wp_region_lit (st_y hf rfl rfl rfl (y_assign rfl rfl) fun a hf => st_end (x_then_n (wp_seq (wp_seq (wp_region_lit (st_y hf rfl rfl rfl (y_assign rfl rfl) fun a hf => ?_)))))))
  refine st_end (x_then_n ?_)
  obtain ⟨p0_1, c0_1, he, hl0_1⟩ := ro_slice (hm.ow_rep 0 rfl)
  subst he
  refine wp_block ?_
  obtain ⟨r0_1, hl0_2, hq⟩ := bnd hq
  refine wp_forN _ (fun i1_1 xs1_1 a w => Fr 48 [(0, (.slice p0_1 a_.length c0_1)), (1, (.int .i64 (xs1_1.2))), (5, (.int .i64 (i1_1)))] a ∧ Mem w0 hz w [ow [(.slice p0_1 a_.length c0_1)] xs1_1.1]) (0) ((a_.length : Int)) hl0_2 ?_ ?_ ?_
  ·
   exact ⟨hf.sub ⟨rfl, rfl, rfl, trivial⟩, hm.pick [0] (by decide) rfl⟩
  ·
   clear hf hm
   rintro i1_1 xs1_1 a w ⟨hf, hm⟩ hi1_1 hi1_2 q0_1 hb0_1 ho0_1
   refine wp_seq (wp_seq (wp_region_lit (st_y hf rfl rfl rfl (y_move rfl rfl) fun a hf => st_y hf rfl rfl rfl (y_move rfl rfl) fun a hf => ?_)))
   have hl1_1 := rep_len (hm.ow_rep 0 rfl)
   refine st_y hf rfl rfl rfl (y_len_slice st_67.und rfl rfl) fun a hf => st_y hf rfl rfl rfl (y_lss rfl rfl rfl) fun a hf => st_end (x_then_n (cond_t hf rfl (decide_eq_true (by omega)) (wp_skip (x_then_n (wp_seq (wp_block ?_))))))
   refine wp_seq (wp_region_lit (st_y hf rfl rfl rfl (y_move rfl rfl) fun a hf => st_y hf rfl rfl rfl (y_move rfl rfl) fun a hf => ?_))
   obtain ⟨x1_1, hx1_1, hb0_1⟩ := bnd hb0_1
   obtain ⟨h1_1, hx1_2⟩ := getI_some.1 hx1_1
   obtain ⟨b1_1, o1_1, c1_1, he⟩ := idx_form' (hm.ow_rep 0 rfl) hx1_2
   simp only [Value.slice.injEq, Option.some.injEq] at he; obtain ⟨rfl, _, rfl⟩ := he
   obtain ⟨_, _, hc1_1, hr1_1⟩ := ro_get' (hm.ow_rep 0 rfl) hx1_2
   obtain ⟨_, _, rfl, h1_2, _, _, rfl, h1_3, _, _, rfl, rfl, _, _, rfl, rfl, h1_4⟩ := hr1_1
   obtain ⟨v1_1, rfl, -⟩ := id h1_2
   replace h1_2 : GT.rep (hp _) [v1_1] x1_1.phis := h1_2
   obtain ⟨v1_2, rfl, -⟩ := id h1_3
   replace h1_3 : GT.rep (hp _) [v1_2] x1_1.ins := h1_3
   obtain ⟨v1_3, rfl, -⟩ := id h1_4
   replace h1_4 : GT.rep (hp _) [v1_3] x1_1.next_ := h1_4
   replace hc1_1 : CellsAt (hp _) b1_1 (o1_1 + (i1_1).toNat * 5) [v1_1, v1_2, (.int .i64 (x1_1.jump)), (.int .i64 (x1_1.on)), v1_3] := hc1_1
   have hL1_1 := rep_slice_len (hm.ow_rep 0 rfl)
   refine st_y hf rfl rfl rfl (y_indexAddr st_67 rfl rfl rfl h1_1 (idx_lt2 hx1_2 hL1_1)) fun a hf => st_y hf rfl rfl rfl (y_fieldAddr fo_86_0 rfl rfl) fun a hf => st_y hf rfl rfl rfl (y_load1 Tryz.isAgg83 rfl rfl (hc1_1.cell (j := 0) rfl)) fun a hf => st_y hf rfl rfl rfl (y_move rfl rfl) fun a hf => ?_
   replace hm : Mem w0 hz _ [ow [v1_1] x1_1.phis, hole [(.slice (some ⟨b1_1, o1_1, none⟩) a_.length c0_1)] [v1_1] (fun (y : List Phi_) => (xs1_1.1 : List Block_).set (i1_1).toNat (⟨y, x1_1.ins, x1_1.jump, x1_1.on, x1_1.next_⟩ : Block_))] := hm.open 0 rfl (foc_elem hx1_2 hc1_1 rfl (show FocH (α := Block_) _ _ x1_1 [v1_1] x1_1.phis (fun y => (⟨y, x1_1.ins, x1_1.jump, x1_1.on, x1_1.next_⟩ : Block_)) from (foc_fst (α := List Phi_) (β := (List Ins_) × Int × Int × (List Int)) (cs := [v1_1]) (ds := [v1_2, (.int .i64 (x1_1.jump)), (.int .i64 (x1_1.on)), v1_3]) (v := [v1_1]) (inner := x1_1.phis) (x := x1_1.phis) (z := (x1_1.ins, x1_1.jump, x1_1.on, x1_1.next_)) (put := fun (y : List Phi_) => y) rfl (foc_id [v1_1] x1_1.phis))))
   obtain ⟨r1_1, hx1_3, hb0_1⟩ := bnd hb0_1
   obtain ⟨hz1_1, hle, hm1, hsub, hk1_1⟩ := hm.take2 (L1 := [ow [v1_1] x1_1.phis]) (L2 := [hole [(.slice (some ⟨b1_1, o1_1, none⟩) a_.length c0_1)] [v1_1] (fun (y : List Phi_) => (xs1_1.1 : List Block_).set (i1_1).toNat (⟨y, x1_1.ins, x1_1.jump, x1_1.on, x1_1.next_⟩ : Block_))]) [0] [1] (by decide) rfl rfl
   refine st_ef hf rfl rfl rfl (e_call hf rfl Tryz.call70 rfl (laws_markPhiS_ok _ hz1_1 x1_1.phis v1_1 xs1_1.2 hm1  _ hx1_3)) ?_
   clear hf a; rintro v1_4 w1_1 a ho1_1 hf
   obtain ⟨rfl, hB⟩ := ho1_1
   replace hm := hk1_1 _ _ hB; clear hB
   replace hm := (hm.shut 1 0 (by decide) rfl rfl).pick (L' := [ow [(.slice (some ⟨b1_1, o1_1, none⟩) a_.length c0_1)] (xs1_1.1.set (i1_1).toNat (⟨r1_1.2, x1_1.ins, x1_1.jump, x1_1.on, x1_1.next_⟩ : Block_))]) [1] (by decide) rfl
   refine st_y hf rfl rfl rfl (y_assign rfl rfl) fun a hf => st_end (x_then_n (wp_seq (wp_region_lit (st_y hf rfl rfl rfl (y_move rfl rfl) fun a hf => st_y hf rfl rfl rfl (y_move rfl rfl) fun a hf => ?_))))
   obtain ⟨x1_2, hx1_4, hb0_1⟩ := bnd hb0_1
   obtain ⟨h1_5, hx1_5⟩ := getI_some.1 hx1_4
   obtain ⟨_, _, hc1_2, hr1_2⟩ := ro_get' (hm.ow_rep 0 rfl) hx1_5
   obtain ⟨_, _, rfl, h1_6, _, _, rfl, h1_7, _, _, rfl, rfl, _, _, rfl, rfl, h1_8⟩ := hr1_2
   obtain ⟨v1_5, rfl, -⟩ := id h1_6
   replace h1_6 : GT.rep (hp _) [v1_5] x1_2.phis := h1_6
   obtain ⟨v1_6, rfl, -⟩ := id h1_7
   replace h1_7 : GT.rep (hp _) [v1_6] x1_2.ins := h1_7
   obtain ⟨v1_7, rfl, -⟩ := id h1_8
   replace h1_8 : GT.rep (hp _) [v1_7] x1_2.next_ := h1_8
   replace hc1_2 : CellsAt (hp _) b1_1 (o1_1 + (i1_1).toNat * 5) [v1_5, v1_6, (.int .i64 (x1_2.jump)), (.int .i64 (x1_2.on)), v1_7] := hc1_2
   have hL1_2 := rep_slice_len (hm.ow_rep 0 rfl)
   refine st_y hf rfl rfl rfl (y_indexAddr st_67 rfl rfl rfl h1_5 (idx_lt2 hx1_5 hL1_2)) fun a hf => st_y hf rfl rfl rfl (y_fieldAddr fo_86_1 rfl rfl) fun a hf => st_y hf rfl rfl rfl (y_load1 Tryz.isAgg84 rfl rfl (hc1_2.cell (j := 1) rfl)) fun a hf => st_y hf rfl rfl rfl (y_move rfl rfl) fun a hf => ?_
   replace hm : Mem w0 hz _ [ow [v1_6] x1_2.ins, hole [(.slice (some ⟨b1_1, o1_1, none⟩) a_.length c0_1)] [v1_6] (fun (y : List Ins_) => ((xs1_1.1.set (i1_1).toNat (⟨r1_1.2, x1_1.ins, x1_1.jump, x1_1.on, x1_1.next_⟩ : Block_)) : List Block_).set (i1_1).toNat (⟨x1_2.phis, y, x1_2.jump, x1_2.on, x1_2.next_⟩ : Block_))] := hm.open 0 rfl (foc_elem hx1_5 hc1_2 rfl (show FocH (α := Block_) _ _ x1_2 [v1_6] x1_2.ins (fun y => (⟨x1_2.phis, y, x1_2.jump, x1_2.on, x1_2.next_⟩ : Block_)) from (foc_snd (α := List Phi_) (β := (List Ins_) × Int × Int × (List Int)) (cs := [v1_5]) (ds := [v1_6, (.int .i64 (x1_2.jump)), (.int .i64 (x1_2.on)), v1_7]) (v := [v1_6]) (inner := x1_2.ins) (x := (x1_2.ins, x1_2.jump, x1_2.on, x1_2.next_)) (z := x1_2.phis) (put := fun (y : List Ins_) => (y, x1_2.jump, x1_2.on, x1_2.next_)) rfl (foc_fst (α := List Ins_) (β := Int × Int × (List Int)) (cs := [v1_6]) (ds := [(.int .i64 (x1_2.jump)), (.int .i64 (x1_2.on)), v1_7]) (v := [v1_6]) (inner := x1_2.ins) (x := x1_2.ins) (z := (x1_2.jump, x1_2.on, x1_2.next_)) (put := fun (y : List Ins_) => y) rfl (foc_id [v1_6] x1_2.ins)))))
   obtain ⟨r1_2, hx1_6, hb0_1⟩ := bnd hb0_1
   obtain ⟨hz1_3, hle, hm1, hsub, hk1_2⟩ := hm.take2 (L1 := [ow [v1_6] x1_2.ins]) (L2 := [hole [(.slice (some ⟨b1_1, o1_1, none⟩) a_.length c0_1)] [v1_6] (fun (y : List Ins_) => ((xs1_1.1.set (i1_1).toNat (⟨r1_1.2, x1_1.ins, x1_1.jump, x1_1.on, x1_1.next_⟩ : Block_)) : List Block_).set (i1_1).toNat (⟨x1_2.phis, y, x1_2.jump, x1_2.on, x1_2.next_⟩ : Block_))]) [0] [1] (by decide) rfl rfl
   refine st_ef hf rfl rfl rfl (e_call hf rfl Tryz.call71 rfl (laws_markInsS_ok _ hz1_3 x1_2.ins v1_6 r1_1.1 hm1  _ hx1_6)) ?_
   clear hf a; rintro v1_8 w1_2 a ho1_2 hf
   obtain ⟨rfl, hB⟩ := ho1_2
   replace hm := hk1_2 _ _ hB; clear hB
   replace hm := (hm.shut 1 0 (by decide) rfl rfl).pick (L' := [ow [(.slice (some ⟨b1_1, o1_1, none⟩) a_.length c0_1)] ((xs1_1.1.set (i1_1).toNat (⟨r1_1.2, x1_1.ins, x1_1.jump, x1_1.on, x1_1.next_⟩ : Block_)).set (i1_1).toNat (⟨x1_2.phis, r1_2.2, x1_2.jump, x1_2.on, x1_2.next_⟩ : Block_))]) [1] (by decide) rfl
   refine st_y hf rfl rfl rfl (y_assign rfl rfl) fun a hf => st_end (x_then_n (wp_seq (wp_region_lit (st_y hf rfl rfl rfl (y_move rfl rfl) fun a hf => st_y hf rfl rfl rfl (y_move rfl rfl) fun a hf => st_y hf rfl rfl rfl (y_move rfl rfl) fun a hf => ?_))))
   obtain ⟨x1_3, hx1_7, hb0_1⟩ := bnd hb0_1
   obtain ⟨h1_9, hx1_8⟩ := getI_some.1 hx1_7
   obtain ⟨_, _, hc1_3, hr1_3⟩ := ro_get' (hm.ow_rep 0 rfl) hx1_8
   obtain ⟨_, _, rfl, h1_10, _, _, rfl, h1_11, _, _, rfl, rfl, _, _, rfl, rfl, h1_12⟩ := hr1_3
   obtain ⟨v1_9, rfl, -⟩ := id h1_10
   replace h1_10 : GT.rep (hp _) [v1_9] x1_3.phis := h1_10
   obtain ⟨v1_10, rfl, -⟩ := id h1_11
   replace h1_11 : GT.rep (hp _) [v1_10] x1_3.ins := h1_11
   obtain ⟨v1_11, rfl, -⟩ := id h1_12
   replace h1_12 : GT.rep (hp _) [v1_11] x1_3.next_ := h1_12
   replace hc1_3 : CellsAt (hp _) b1_1 (o1_1 + (i1_1).toNat * 5) [v1_9, v1_10, (.int .i64 (x1_3.jump)), (.int .i64 (x1_3.on)), v1_11] := hc1_3
   have hL1_3 := rep_slice_len (hm.ow_rep 0 rfl)
   refine st_y hf rfl rfl rfl (y_indexAddr st_67 rfl rfl rfl h1_9 (idx_lt2 hx1_8 hL1_3)) fun a hf => st_y hf rfl rfl rfl (y_fieldAddr fo_86_2 rfl rfl) fun a hf => st_ef0 hf rfl rfl (e_setElemR (x1 := ((⟨x1_3.phis, x1_3.ins, r1_2.1, x1_3.on, x1_3.next_⟩ : Block_) : Block_)) (j := 2) (vs := [(.int .i64 (r1_2.1))]) 0 hf hm rfl hx1_8 hc1_3 rfl (fun F h ho => (fun _ => own_snd_map (α := List Phi_) (β := (List Ins_) × Int × Int × (List Int)) (cs := [v1_9]) (ds := [v1_10, (.int .i64 (x1_3.jump)), (.int .i64 (x1_3.on)), v1_11]) (ds' := [v1_10, (.int .i64 (r1_2.1)), (.int .i64 (x1_3.on)), v1_11]) rfl (fun _ => own_snd_map (α := List Ins_) (β := Int × Int × (List Int)) (cs := [v1_10]) (ds := [(.int .i64 (x1_3.jump)), (.int .i64 (x1_3.on)), v1_11]) (ds' := [(.int .i64 (r1_2.1)), (.int .i64 (x1_3.on)), v1_11]) rfl (fun _ => own_fst_map (α := Int) (β := Int × (List Int)) (cs := [(.int .i64 (x1_3.jump))]) (cs' := [(.int .i64 (r1_2.1))]) (ds := [(.int .i64 (x1_3.on)), v1_11]) rfl (fun _ _ => Flat.own_iff.2 rfl)))) F ho) rfl Tryz.sizeOf3 rfl rfl rfl (one_cons rfl one_nil) rfl) ?_
   clear hf a; rintro _ w1_3 a hm hf
   have hx1_9 := List.getElem?_set_self (a := ((⟨x1_3.phis, x1_3.ins, r1_2.1, x1_3.on, x1_3.next_⟩ : Block_) : Block_)) (idx_lt hx1_8)
   refine st_end (x_then_n (wp_seq (wp_region_lit (st_y hf rfl rfl rfl (y_move rfl rfl) fun a hf => st_y hf rfl rfl rfl (y_addw rfl rfl rfl) fun a hf => st_y hf rfl rfl rfl (y_assign rfl rfl) fun a hf => st_end (x_then_n ?_)))))
   refine wp_seq (wp_region_lit (st_y hf rfl rfl rfl (y_move rfl rfl) fun a hf => st_y hf rfl rfl rfl (y_move rfl rfl) fun a hf => st_y hf rfl rfl rfl (y_move rfl rfl) fun a hf => ?_))
   obtain ⟨_, _, hc1_4, hr1_4⟩ := ro_get' (hm.ow_rep 0 rfl) hx1_9
   obtain ⟨_, _, rfl, h1_13, _, _, rfl, h1_14, _, _, rfl, rfl, _, _, rfl, rfl, h1_15⟩ := hr1_4
   obtain ⟨v1_12, rfl, -⟩ := id h1_13
   replace h1_13 : GT.rep (hp _) [v1_12] x1_3.phis := h1_13
   obtain ⟨v1_13, rfl, -⟩ := id h1_14
   replace h1_14 : GT.rep (hp _) [v1_13] x1_3.ins := h1_14
   obtain ⟨v1_14, rfl, -⟩ := id h1_15
   replace h1_15 : GT.rep (hp _) [v1_14] x1_3.next_ := h1_15
   replace hc1_4 : CellsAt (hp _) b1_1 (o1_1 + (i1_1).toNat * 5) [v1_12, v1_13, (.int .i64 (r1_2.1)), (.int .i64 (x1_3.on)), v1_14] := hc1_4
   have hL1_4 := rep_slice_len (hm.ow_rep 0 rfl)
   refine st_y hf rfl rfl rfl (y_indexAddr st_67 rfl rfl rfl h1_9 (idx_lt2 hx1_9 hL1_4)) fun a hf => st_y hf rfl rfl rfl (y_fieldAddr fo_86_3 rfl rfl) fun a hf => st_ef0 hf rfl rfl (e_setElemR (x1 := ((⟨x1_3.phis, x1_3.ins, r1_2.1, w64 (r1_2.1 + 1), x1_3.next_⟩ : Block_) : Block_)) (j := 3) (vs := [(.int .i64 (w64 (r1_2.1 + 1)))]) 0 hf hm rfl hx1_9 hc1_4 rfl (fun F h ho => (fun _ => own_snd_map (α := List Phi_) (β := (List Ins_) × Int × Int × (List Int)) (cs := [v1_12]) (ds := [v1_13, (.int .i64 (r1_2.1)), (.int .i64 (x1_3.on)), v1_14]) (ds' := [v1_13, (.int .i64 (r1_2.1)), (.int .i64 (w64 (r1_2.1 + 1))), v1_14]) rfl (fun _ => own_snd_map (α := List Ins_) (β := Int × Int × (List Int)) (cs := [v1_13]) (ds := [(.int .i64 (r1_2.1)), (.int .i64 (x1_3.on)), v1_14]) (ds' := [(.int .i64 (r1_2.1)), (.int .i64 (w64 (r1_2.1 + 1))), v1_14]) rfl (fun _ => own_snd_map (α := Int) (β := Int × (List Int)) (cs := [(.int .i64 (r1_2.1))]) (ds := [(.int .i64 (x1_3.on)), v1_14]) (ds' := [(.int .i64 (w64 (r1_2.1 + 1))), v1_14]) rfl (fun _ => own_fst_map (α := Int) (β := (List Int)) (cs := [(.int .i64 (x1_3.on))]) (cs' := [(.int .i64 (w64 (r1_2.1 + 1)))]) (ds := [v1_14]) rfl (fun _ _ => Flat.own_iff.2 rfl))))) F ho) rfl Tryz.sizeOf3 rfl rfl rfl (one_cons rfl one_nil) rfl) ?_
   clear hf a; rintro _ w1_4 a hm hf
   have hx1_10 := List.getElem?_set_self (a := ((⟨x1_3.phis, x1_3.ins, r1_2.1, w64 (r1_2.1 + 1), x1_3.next_⟩ : Block_) : Block_)) (idx_lt hx1_9)
   refine st_end (x_then_n (wp_seq (wp_region_lit (st_y hf rfl rfl rfl (y_move rfl rfl) fun a hf => st_y hf rfl rfl rfl (y_addw rfl rfl rfl) fun a hf => st_y hf rfl rfl rfl (y_assign rfl rfl) fun a hf => st_end (x_then_n ?_)))))
   refine wp_region_lit (st_y hf rfl rfl rfl (y_move rfl rfl) fun a hf => st_y hf rfl rfl rfl (y_move rfl rfl) fun a hf => ?_)
   obtain ⟨_, _, hc1_5, hr1_5⟩ := ro_get' (hm.ow_rep 0 rfl) hx1_10
   obtain ⟨_, _, rfl, h1_16, _, _, rfl, h1_17, _, _, rfl, rfl, _, _, rfl, rfl, h1_18⟩ := hr1_5
   obtain ⟨v1_15, rfl, -⟩ := id h1_16
   replace h1_16 : GT.rep (hp _) [v1_15] x1_3.phis := h1_16
   obtain ⟨v1_16, rfl, -⟩ := id h1_17
   replace h1_17 : GT.rep (hp _) [v1_16] x1_3.ins := h1_17
   obtain ⟨v1_17, rfl, -⟩ := id h1_18
   replace h1_18 : GT.rep (hp _) [v1_17] x1_3.next_ := h1_18
   replace hc1_5 : CellsAt (hp _) b1_1 (o1_1 + (i1_1).toNat * 5) [v1_15, v1_16, (.int .i64 (r1_2.1)), (.int .i64 (w64 (r1_2.1 + 1))), v1_17] := hc1_5
   have hL1_5 := rep_slice_len (hm.ow_rep 0 rfl)
   refine st_y hf rfl rfl rfl (y_indexAddr st_67 rfl rfl rfl h1_9 (idx_lt2 hx1_10 hL1_5)) fun a hf => st_y hf rfl rfl rfl (y_fieldAddr fo_86_4 rfl rfl) fun a hf => st_y hf rfl rfl rfl (y_load1 Tryz.isAgg25 rfl rfl (hc1_5.cell (j := 4) rfl)) fun a hf => st_y hf rfl rfl rfl (y_move rfl rfl) fun a hf => ?_
   replace hm : Mem w0 hz _ [ow [v1_17] x1_3.next_, hole [(.slice (some ⟨b1_1, o1_1, none⟩) a_.length c0_1)] [v1_17] (fun (y : List Int) => (((((xs1_1.1.set (i1_1).toNat (⟨r1_1.2, x1_1.ins, x1_1.jump, x1_1.on, x1_1.next_⟩ : Block_)).set (i1_1).toNat (⟨x1_2.phis, r1_2.2, x1_2.jump, x1_2.on, x1_2.next_⟩ : Block_)).set (i1_1).toNat (⟨x1_3.phis, x1_3.ins, r1_2.1, x1_3.on, x1_3.next_⟩ : Block_)).set (i1_1).toNat (⟨x1_3.phis, x1_3.ins, r1_2.1, w64 (r1_2.1 + 1), x1_3.next_⟩ : Block_)) : List Block_).set (i1_1).toNat (⟨x1_3.phis, x1_3.ins, r1_2.1, w64 (r1_2.1 + 1), y⟩ : Block_))] := hm.open 0 rfl (foc_elem hx1_10 hc1_5 rfl (show FocH (α := Block_) _ _ (⟨x1_3.phis, x1_3.ins, r1_2.1, w64 (r1_2.1 + 1), x1_3.next_⟩ : Block_) [v1_17] x1_3.next_ (fun y => (⟨x1_3.phis, x1_3.ins, r1_2.1, w64 (r1_2.1 + 1), y⟩ : Block_)) from (foc_snd (α := List Phi_) (β := (List Ins_) × Int × Int × (List Int)) (cs := [v1_15]) (ds := [v1_16, (.int .i64 (r1_2.1)), (.int .i64 (w64 (r1_2.1 + 1))), v1_17]) (v := [v1_17]) (inner := x1_3.next_) (x := (x1_3.ins, r1_2.1, w64 (r1_2.1 + 1), x1_3.next_)) (z := x1_3.phis) (put := fun (y : List Int) => (x1_3.ins, r1_2.1, w64 (r1_2.1 + 1), y)) rfl (foc_snd (α := List Ins_) (β := Int × Int × (List Int)) (cs := [v1_16]) (ds := [(.int .i64 (r1_2.1)), (.int .i64 (w64 (r1_2.1 + 1))), v1_17]) (v := [v1_17]) (inner := x1_3.next_) (x := (r1_2.1, w64 (r1_2.1 + 1), x1_3.next_)) (z := x1_3.ins) (put := fun (y : List Int) => (r1_2.1, w64 (r1_2.1 + 1), y)) rfl (foc_snd (α := Int) (β := Int × (List Int)) (cs := [(.int .i64 (r1_2.1))]) (ds := [(.int .i64 (w64 (r1_2.1 + 1))), v1_17]) (v := [v1_17]) (inner := x1_3.next_) (x := (w64 (r1_2.1 + 1), x1_3.next_)) (z := r1_2.1) (put := fun (y : List Int) => (w64 (r1_2.1 + 1), y)) rfl (foc_snd (α := Int) (β := (List Int)) (cs := [(.int .i64 (w64 (r1_2.1 + 1)))]) (ds := [v1_17]) (v := [v1_17]) (inner := x1_3.next_) (x := x1_3.next_) (z := w64 (r1_2.1 + 1)) (put := fun (y : List Int) => y) rfl (foc_id [v1_17] x1_3.next_)))))))
   obtain ⟨r1_3, hx1_11, hb0_1⟩ := bnd hb0_1
   obtain ⟨hz1_5, hle, hm1, hsub, hk1_3⟩ := hm.take2 (L1 := [ow [v1_17] x1_3.next_]) (L2 := [hole [(.slice (some ⟨b1_1, o1_1, none⟩) a_.length c0_1)] [v1_17] (fun (y : List Int) => (((((xs1_1.1.set (i1_1).toNat (⟨r1_1.2, x1_1.ins, x1_1.jump, x1_1.on, x1_1.next_⟩ : Block_)).set (i1_1).toNat (⟨x1_2.phis, r1_2.2, x1_2.jump, x1_2.on, x1_2.next_⟩ : Block_)).set (i1_1).toNat (⟨x1_3.phis, x1_3.ins, r1_2.1, x1_3.on, x1_3.next_⟩ : Block_)).set (i1_1).toNat (⟨x1_3.phis, x1_3.ins, r1_2.1, w64 (r1_2.1 + 1), x1_3.next_⟩ : Block_)) : List Block_).set (i1_1).toNat (⟨x1_3.phis, x1_3.ins, r1_2.1, w64 (r1_2.1 + 1), y⟩ : Block_))]) [0] [1] (by decide) rfl rfl
   refine st_ef hf rfl rfl rfl (e_call hf rfl Tryz.call16 rfl (laws_markIntS_ok _ hz1_5 x1_3.next_ v1_17 (w64 ((w64 (r1_2.1 + 1)) + 1)) hm1  _ hx1_11)) ?_
   clear hf a; rintro v1_18 w1_5 a ho1_3 hf
   obtain ⟨rfl, hB⟩ := ho1_3
   replace hm := hk1_3 _ _ hB; clear hB
   replace hm := (hm.shut 1 0 (by decide) rfl rfl).pick (L' := [ow [(.slice (some ⟨b1_1, o1_1, none⟩) a_.length c0_1)] (((((xs1_1.1.set (i1_1).toNat (⟨r1_1.2, x1_1.ins, x1_1.jump, x1_1.on, x1_1.next_⟩ : Block_)).set (i1_1).toNat (⟨x1_2.phis, r1_2.2, x1_2.jump, x1_2.on, x1_2.next_⟩ : Block_)).set (i1_1).toNat (⟨x1_3.phis, x1_3.ins, r1_2.1, x1_3.on, x1_3.next_⟩ : Block_)).set (i1_1).toNat (⟨x1_3.phis, x1_3.ins, r1_2.1, w64 (r1_2.1 + 1), x1_3.next_⟩ : Block_)).set (i1_1).toNat (⟨x1_3.phis, x1_3.ins, r1_2.1, w64 (r1_2.1 + 1), r1_3.2⟩ : Block_))]) [1] (by decide) rfl
   refine st_y hf rfl rfl rfl (y_assign rfl rfl) fun a hf => st_end (x_blk_n (x_then_n (wp_region_lit (st_y hf rfl rfl rfl (y_move rfl rfl) fun a hf => st_y hf rfl rfl rfl (y_add64 rfl rfl rfl (by omega) (by omega)) fun a hf => st_y hf rfl rfl rfl (y_assign rfl rfl) fun a hf => st_end ?_))))
   refine x_then_n ?_
   obtain rfl := Option.some.inj hb0_1
   exact ⟨_, rfl, hf.sub ⟨rfl, rfl, rfl, trivial⟩, hm.pick [0] (by decide) rfl⟩
  ·
   clear hf hm
   rintro i0_1 xs0_1 a w ⟨hf, hm⟩ hi0_1 hi0_2 rfl
   replace hq := sum_l hq
   refine wp_seq (wp_seq (wp_region_lit (st_y hf rfl rfl rfl (y_move rfl rfl) fun a hf => st_y hf rfl rfl rfl (y_move rfl rfl) fun a hf => ?_)))
   have hl0_3 := rep_len (hm.ow_rep 0 rfl)
   refine st_y hf rfl rfl rfl (y_len_slice st_67.und rfl rfl) fun a hf => st_y hf rfl rfl rfl (y_lss rfl rfl rfl) fun a hf => st_end (x_then_n (cond_f hf rfl (decide_eq_false (by omega)) (wp_exit (x_then_exit (x_then_exit (x_blk_hit ?_))))))
   refine x_then_n (wp_seq (wp_region_lit (st_y hf rfl rfl rfl (y_move rfl rfl) fun a hf => st_y hf rfl rfl rfl (y_assign rfl rfl) fun a hf => st_end (x_then_n (wp_ret ?_)))))
   obtain rfl := Option.some.inj hq
   refine ret_tmp hf Tryz.results50 rfl ?_
   exact ⟨rfl, hm.pick [0] (by decide) rfl⟩

theorem laws_markCodeS_ok (w0 : World) (hz : Heap) (a_ : List Code_) (v1 : Value) (k_ : Int) (hm0 : Mem w0 hz w0 [ow [v1] a_]) (r : Int × (List Code_)) (hq : laws_markCodeS a_ k_ = some r) :
    Con Tryz.prog 33 [v1, (.int .i64 (k_))] w0 (fun v w' => v = (.int .i64 (r.1)) ∧ Mem w0 hz w' [ow [v1] r.2]) := by
  unfold laws_markCodeS at hq
  refine con_body (l := [(0, v1), (1, (.int .i64 (k_)))]) Tryz.func33 rfl Tryz.ntmps33 (Args.get ⟨rfl, rfl, trivial⟩) rfl ?_
  intro a hf
  have hm := hm0
  refine wp_seq (wp_region_lit (st_y hf rfl rfl rfl (y_assign rfl rfl) fun a hf => st_end (x_then_n (wp_seq (wp_seq (wp_region_lit (st_y hf rfl rfl rfl (y_assign rfl rfl) fun a hf => ?_)))))))
  refine st_end (x_then_n ?_)
  obtain ⟨p0_1, c0_1, he, hl0_1⟩ := ro_slice (hm.ow_rep 0 rfl)
  subst he
  refine wp_block ?_
  obtain ⟨r0_1, hl0_2, hq⟩ := bnd hq
  refine wp_forN _ (fun i1_1 xs1_1 a w => Fr 34 [(0, (.slice p0_1 a_.length c0_1)), (1, (.int .i64 (xs1_1.2))), (5, (.int .i64 (i1_1)))] a ∧ Mem w0 hz w [ow [(.slice p0_1 a_.length c0_1)] xs1_1.1]) (0) ((a_.length : Int)) hl0_2 ?_ ?_ ?_
  ·
   exact ⟨hf.sub ⟨rfl, rfl, rfl, trivial⟩, hm.pick [0] (by decide) rfl⟩
  ·
   clear hf hm
   rintro i1_1 xs1_1 a w ⟨hf, hm⟩ hi1_1 hi1_2 q0_1 hb0_1 ho0_1
   refine wp_seq (wp_seq (wp_region_lit (st_y hf rfl rfl rfl (y_move rfl rfl) fun a hf => st_y hf rfl rfl rfl (y_move rfl rfl) fun a hf => ?_)))
   have hl1_1 := rep_len (hm.ow_rep 0 rfl)
   refine st_y hf rfl rfl rfl (y_len_slice st_28.und rfl rfl) fun a hf => st_y hf rfl rfl rfl (y_lss rfl rfl rfl) fun a hf => st_end (x_then_n (cond_t hf rfl (decide_eq_true (by omega)) (wp_skip (x_then_n (wp_seq (wp_block ?_))))))
   refine wp_seq (wp_region_lit (st_y hf rfl rfl rfl (y_move rfl rfl) fun a hf => st_y hf rfl rfl rfl (y_move rfl rfl) fun a hf => st_y hf rfl rfl rfl (y_move rfl rfl) fun a hf => ?_))
   obtain ⟨x1_1, hx1_1, hb0_1⟩ := bnd hb0_1
   obtain ⟨h1_1, hx1_2⟩ := getI_some.1 hx1_1
   obtain ⟨b1_1, o1_1, c1_1, he⟩ := idx_form' (hm.ow_rep 0 rfl) hx1_2
   simp only [Value.slice.injEq, Option.some.injEq] at he; obtain ⟨rfl, _, rfl⟩ := he
   obtain ⟨_, _, hc1_1, hr1_1⟩ := ro_get' (hm.ow_rep 0 rfl) hx1_2
   obtain ⟨_, _, rfl, rfl, _, _, rfl, rfl, h1_2⟩ := hr1_1
   obtain ⟨v1_1, rfl, -⟩ := id h1_2
   replace h1_2 : GT.rep (hp _) [v1_1] x1_1.blocks := h1_2
   replace hc1_1 : CellsAt (hp _) b1_1 (o1_1 + (i1_1).toNat * 3) [(.int .i64 (x1_1.params)), (.int .i64 (x1_1.regs)), v1_1] := hc1_1
   have hL1_1 := rep_slice_len (hm.ow_rep 0 rfl)
   refine st_y hf rfl rfl rfl (y_indexAddr st_28 rfl rfl rfl h1_1 (idx_lt2 hx1_2 hL1_1)) fun a hf => st_y hf rfl rfl rfl (y_fieldAddr fo_69_0 rfl rfl) fun a hf => st_ef0 hf rfl rfl (e_setElemR (x1 := ((⟨xs1_1.2, x1_1.regs, x1_1.blocks⟩ : Code_) : Code_)) (j := 0) (vs := [(.int .i64 (xs1_1.2))]) 0 hf hm rfl hx1_2 hc1_1 rfl (fun F h ho => (fun _ => own_fst_map (α := Int) (β := Int × (List Block_)) (cs := [(.int .i64 (x1_1.params))]) (cs' := [(.int .i64 (xs1_1.2))]) (ds := [(.int .i64 (x1_1.regs)), v1_1]) rfl (fun _ _ => Flat.own_iff.2 rfl)) F ho) rfl Tryz.sizeOf3 rfl rfl rfl (one_cons rfl one_nil) rfl) ?_
   clear hf a; rintro _ w1_1 a hm hf
   have hx1_3 := List.getElem?_set_self (a := ((⟨xs1_1.2, x1_1.regs, x1_1.blocks⟩ : Code_) : Code_)) (idx_lt hx1_2)
   refine st_end (x_then_n (wp_seq (wp_region_lit (st_y hf rfl rfl rfl (y_move rfl rfl) fun a hf => st_y hf rfl rfl rfl (y_addw rfl rfl rfl) fun a hf => st_y hf rfl rfl rfl (y_assign rfl rfl) fun a hf => st_end (x_then_n ?_)))))
   refine wp_seq (wp_region_lit (st_y hf rfl rfl rfl (y_move rfl rfl) fun a hf => st_y hf rfl rfl rfl (y_move rfl rfl) fun a hf => st_y hf rfl rfl rfl (y_move rfl rfl) fun a hf => ?_))
   obtain ⟨_, _, hc1_2, hr1_2⟩ := ro_get' (hm.ow_rep 0 rfl) hx1_3
   obtain ⟨_, _, rfl, rfl, _, _, rfl, rfl, h1_3⟩ := hr1_2
   obtain ⟨v1_2, rfl, -⟩ := id h1_3
   replace h1_3 : GT.rep (hp _) [v1_2] x1_1.blocks := h1_3
   replace hc1_2 : CellsAt (hp _) b1_1 (o1_1 + (i1_1).toNat * 3) [(.int .i64 (xs1_1.2)), (.int .i64 (x1_1.regs)), v1_2] := hc1_2
   have hL1_2 := rep_slice_len (hm.ow_rep 0 rfl)
   refine st_y hf rfl rfl rfl (y_indexAddr st_28 rfl rfl rfl h1_1 (idx_lt2 hx1_3 hL1_2)) fun a hf => st_y hf rfl rfl rfl (y_fieldAddr fo_69_1 rfl rfl) fun a hf => st_ef0 hf rfl rfl (e_setElemR (x1 := ((⟨xs1_1.2, w64 (xs1_1.2 + 1), x1_1.blocks⟩ : Code_) : Code_)) (j := 1) (vs := [(.int .i64 (w64 (xs1_1.2 + 1)))]) 0 hf hm rfl hx1_3 hc1_2 rfl (fun F h ho => (fun _ => own_snd_map (α := Int) (β := Int × (List Block_)) (cs := [(.int .i64 (xs1_1.2))]) (ds := [(.int .i64 (x1_1.regs)), v1_2]) (ds' := [(.int .i64 (w64 (xs1_1.2 + 1))), v1_2]) rfl (fun _ => own_fst_map (α := Int) (β := (List Block_)) (cs := [(.int .i64 (x1_1.regs))]) (cs' := [(.int .i64 (w64 (xs1_1.2 + 1)))]) (ds := [v1_2]) rfl (fun _ _ => Flat.own_iff.2 rfl))) F ho) rfl Tryz.sizeOf3 rfl rfl rfl (one_cons rfl one_nil) rfl) ?_
   clear hf a; rintro _ w1_2 a hm hf
   have hx1_4 := List.getElem?_set_self (a := ((⟨xs1_1.2, w64 (xs1_1.2 + 1), x1_1.blocks⟩ : Code_) : Code_)) (idx_lt hx1_3)
   refine st_end (x_then_n (wp_seq (wp_region_lit (st_y hf rfl rfl rfl (y_move rfl rfl) fun a hf => st_y hf rfl rfl rfl (y_addw rfl rfl rfl) fun a hf => st_y hf rfl rfl rfl (y_assign rfl rfl) fun a hf => st_end (x_then_n ?_)))))
   refine wp_region_lit (st_y hf rfl rfl rfl (y_move rfl rfl) fun a hf => st_y hf rfl rfl rfl (y_move rfl rfl) fun a hf => ?_)
   obtain ⟨_, _, hc1_3, hr1_3⟩ := ro_get' (hm.ow_rep 0 rfl) hx1_4
   obtain ⟨_, _, rfl, rfl, _, _, rfl, rfl, h1_4⟩ := hr1_3
   obtain ⟨v1_3, rfl, -⟩ := id h1_4
   replace h1_4 : GT.rep (hp _) [v1_3] x1_1.blocks := h1_4
   replace hc1_3 : CellsAt (hp _) b1_1 (o1_1 + (i1_1).toNat * 3) [(.int .i64 (xs1_1.2)), (.int .i64 (w64 (xs1_1.2 + 1))), v1_3] := hc1_3
   have hL1_3 := rep_slice_len (hm.ow_rep 0 rfl)
   refine st_y hf rfl rfl rfl (y_indexAddr st_28 rfl rfl rfl h1_1 (idx_lt2 hx1_4 hL1_3)) fun a hf => st_y hf rfl rfl rfl (y_fieldAddr fo_69_2 rfl rfl) fun a hf => st_y hf rfl rfl rfl (y_load1 Tryz.isAgg67 rfl rfl (hc1_3.cell (j := 2) rfl)) fun a hf => st_y hf rfl rfl rfl (y_move rfl rfl) fun a hf => ?_
   replace hm : Mem w0 hz _ [ow [v1_3] x1_1.blocks, hole [(.slice (some ⟨b1_1, o1_1, none⟩) a_.length c0_1)] [v1_3] (fun (y : List Block_) => (((xs1_1.1.set (i1_1).toNat (⟨xs1_1.2, x1_1.regs, x1_1.blocks⟩ : Code_)).set (i1_1).toNat (⟨xs1_1.2, w64 (xs1_1.2 + 1), x1_1.blocks⟩ : Code_)) : List Code_).set (i1_1).toNat (⟨xs1_1.2, w64 (xs1_1.2 + 1), y⟩ : Code_))] := hm.open 0 rfl (foc_elem hx1_4 hc1_3 rfl (show FocH (α := Code_) _ _ (⟨xs1_1.2, w64 (xs1_1.2 + 1), x1_1.blocks⟩ : Code_) [v1_3] x1_1.blocks (fun y => (⟨xs1_1.2, w64 (xs1_1.2 + 1), y⟩ : Code_)) from (foc_snd (α := Int) (β := Int × (List Block_)) (cs := [(.int .i64 (xs1_1.2))]) (ds := [(.int .i64 (w64 (xs1_1.2 + 1))), v1_3]) (v := [v1_3]) (inner := x1_1.blocks) (x := (w64 (xs1_1.2 + 1), x1_1.blocks)) (z := xs1_1.2) (put := fun (y : List Block_) => (w64 (xs1_1.2 + 1), y)) rfl (foc_snd (α := Int) (β := (List Block_)) (cs := [(.int .i64 (w64 (xs1_1.2 + 1)))]) (ds := [v1_3]) (v := [v1_3]) (inner := x1_1.blocks) (x := x1_1.blocks) (z := w64 (xs1_1.2 + 1)) (put := fun (y : List Block_) => y) rfl (foc_id [v1_3] x1_1.blocks)))))
   obtain ⟨r1_1, hx1_5, hb0_1⟩ := bnd hb0_1
   obtain ⟨hz1_1, hle, hm1, hsub, hk1_1⟩ := hm.take2 (L1 := [ow [v1_3] x1_1.blocks]) (L2 := [hole [(.slice (some ⟨b1_1, o1_1, none⟩) a_.length c0_1)] [v1_3] (fun (y : List Block_) => (((xs1_1.1.set (i1_1).toNat (⟨xs1_1.2, x1_1.regs, x1_1.blocks⟩ : Code_)).set (i1_1).toNat (⟨xs1_1.2, w64 (xs1_1.2 + 1), x1_1.blocks⟩ : Code_)) : List Code_).set (i1_1).toNat (⟨xs1_1.2, w64 (xs1_1.2 + 1), y⟩ : Code_))]) [0] [1] (by decide) rfl rfl
   refine st_ef hf rfl rfl rfl (e_call hf rfl Tryz.call50 rfl (laws_markBlockS_ok _ hz1_1 x1_1.blocks v1_3 (w64 ((w64 (xs1_1.2 + 1)) + 1)) hm1  _ hx1_5)) ?_
   clear hf a; rintro v1_4 w1_3 a ho1_1 hf
   obtain ⟨rfl, hB⟩ := ho1_1
   replace hm := hk1_1 _ _ hB; clear hB
   replace hm := (hm.shut 1 0 (by decide) rfl rfl).pick (L' := [ow [(.slice (some ⟨b1_1, o1_1, none⟩) a_.length c0_1)] (((xs1_1.1.set (i1_1).toNat (⟨xs1_1.2, x1_1.regs, x1_1.blocks⟩ : Code_)).set (i1_1).toNat (⟨xs1_1.2, w64 (xs1_1.2 + 1), x1_1.blocks⟩ : Code_)).set (i1_1).toNat (⟨xs1_1.2, w64 (xs1_1.2 + 1), r1_1.2⟩ : Code_))]) [1] (by decide) rfl
   refine st_y hf rfl rfl rfl (y_assign rfl rfl) fun a hf => st_end (x_blk_n (x_then_n (wp_region_lit (st_y hf rfl rfl rfl (y_move rfl rfl) fun a hf => st_y hf rfl rfl rfl (y_add64 rfl rfl rfl (by omega) (by omega)) fun a hf => st_y hf rfl rfl rfl (y_assign rfl rfl) fun a hf => st_end ?_))))
   refine x_then_n ?_
   obtain rfl := Option.some.inj hb0_1
   exact ⟨_, rfl, hf.sub ⟨rfl, rfl, rfl, trivial⟩, hm.pick [0] (by decide) rfl⟩
  ·
   clear hf hm
   rintro i0_1 xs0_1 a w ⟨hf, hm⟩ hi0_1 hi0_2 rfl
   replace hq := sum_l hq
   refine wp_seq (wp_seq (wp_region_lit (st_y hf rfl rfl rfl (y_move rfl rfl) fun a hf => st_y hf rfl rfl rfl (y_move rfl rfl) fun a hf => ?_)))
   have hl0_3 := rep_len (hm.ow_rep 0 rfl)
   refine st_y hf rfl rfl rfl (y_len_slice st_28.und rfl rfl) fun a hf => st_y hf rfl rfl rfl (y_lss rfl rfl rfl) fun a hf => st_end (x_then_n (cond_f hf rfl (decide_eq_false (by omega)) (wp_exit (x_then_exit (x_then_exit (x_blk_hit ?_))))))
   refine x_then_n (wp_seq (wp_region_lit (st_y hf rfl rfl rfl (y_move rfl rfl) fun a hf => st_y hf rfl rfl rfl (y_assign rfl rfl) fun a hf => st_end (x_then_n (wp_ret ?_)))))
   obtain rfl := Option.some.inj hq
   refine ret_tmp hf Tryz.results33 rfl ?_
   exact ⟨rfl, hm.pick [0] (by decide) rfl⟩

theorem laws_markUnit_ok (w0 : World) (hz : Heap) (a_ : Unit_) (v1 : Value) (k_ : Int) (hm0 : Mem w0 hz w0 [ow [v1] a_.codes]) (r : Int × (List Code_)) (hq : laws_markUnit a_ k_ = some r) :
    Con Tryz.prog 15 [(.agg #[v1]), (.int .i64 (k_))] w0 (fun v w' => v = (.int .i64 (r.1)) ∧ Mem w0 hz w' [ow [v1] r.2]) := by
  unfold laws_markUnit at hq
  refine con_body (l := [(0, (.agg #[v1])), (1, (.int .i64 (k_)))]) Tryz.func15 rfl Tryz.ntmps15 (Args.get ⟨rfl, rfl, trivial⟩) rfl ?_
  intro a hf
  have hm := hm0
  refine wp_seq (wp_region_lit (st_ef hf rfl rfl rfl (e_box hf hm rfl rfl rfl) ?_))
  clear hf a; rintro _ w0_1 a ⟨b0_1, rfl, hm⟩ hf
  refine st_y hf rfl rfl rfl (y_assign rfl rfl) fun a hf => st_end (x_then_n (wp_seq (wp_region_lit (st_y hf rfl rfl rfl (y_fieldAddr fo_30_0 rfl rfl) fun a hf => st_y hf rfl rfl rfl (y_load1 Tryz.isAgg28 rfl rfl (hm.blk_cell 0 rfl rfl)) fun a hf => st_y hf rfl rfl rfl (y_move rfl rfl) fun a hf => ?_))))
  obtain ⟨r0_1, hx0_1, hq⟩ := bnd hq
  obtain ⟨hz0_1, hle, hm1, hsub, hk0_1⟩ := hm.take2 (L1 := [ow [v1] a_.codes]) (L2 := [blk b0_1 [v1] 30]) [1] [0] (by decide) rfl rfl
  refine st_ef hf rfl rfl rfl (e_call hf rfl Tryz.call33 rfl (laws_markCodeS_ok _ hz0_1 a_.codes v1 k_ hm1  _ hx0_1)) ?_
  clear hf a; rintro v0_1 w0_2 a ho0_1 hf
  obtain ⟨rfl, hB⟩ := ho0_1
  replace hm := hk0_1 _ _ hB; clear hB
  refine st_y hf rfl rfl rfl (y_assign rfl rfl) fun a hf => st_end (x_then_n (wp_seq (wp_region_lit (st_y hf rfl rfl rfl (y_move rfl rfl) fun a hf => st_y hf rfl rfl rfl (y_assign rfl rfl) fun a hf => st_end (x_then_n ?_)))))
  refine wp_ret ?_
  obtain rfl := Option.some.inj hq
  refine ret_tmp hf Tryz.results15 rfl ?_
  exact ⟨rfl, hm.pick [0] (by decide) rfl⟩

theorem laws_heldIntS_ok (w0 : World) (a_ : List Int) (v1 : Value) (h1 : GT.rep (hp w0) [v1] a_) (k_ : Int) (r : Int) (hq : laws_heldIntS a_ k_ = some r) :
    Con Tryz.prog 17 [v1, (.int .i64 (k_))] w0 (fun v w' => v = (.int .i64 (r)) ∧ Below w0.heap.size w0 w') := by
  unfold laws_heldIntS at hq
  refine con_body (l := [(0, v1), (1, (.int .i64 (k_)))]) Tryz.func17 rfl Tryz.ntmps17 (Args.get ⟨rfl, rfl, trivial⟩) rfl ?_
  intro a hf
  have hm := Mem.start w0
  refine wp_seq (wp_region_lit (st_y hf rfl rfl rfl (y_assign rfl rfl) fun a hf => st_end (x_then_n (wp_seq (wp_seq (wp_region_lit (st_y hf rfl rfl rfl (y_assign rfl rfl) fun a hf => ?_)))))))
  refine st_end (x_then_n (wp_block ?_))
  obtain ⟨r0_1, hl0_1, hq⟩ := bnd hq
  refine wp_forN _ (fun i1_1 xs1_1 a w => Fr 21 [(0, v1), (1, (.int .i64 (xs1_1))), (5, (.int .i64 (i1_1)))] a ∧ Mem w0 (hp w0) w []) (0) ((a_.length : Int)) hl0_1 ?_ ?_ ?_
  ·
   exact ⟨hf.sub ⟨rfl, rfl, rfl, trivial⟩, hm.pick [] (by decide) rfl⟩
  ·
   clear hf hm
   rintro i1_1 xs1_1 a w ⟨hf, hm⟩ hi1_1 hi1_2 q0_1 hb0_1 ho0_1
   refine wp_seq (wp_seq (wp_region_lit (st_y hf rfl rfl rfl (y_move rfl rfl) fun a hf => st_y hf rfl rfl rfl (y_move rfl rfl) fun a hf => ?_)))
   obtain ⟨p1_1, c1_1, he, hl1_1⟩ := ro_slice h1
   subst he
   refine st_y hf rfl rfl rfl (y_len_slice st_25.und rfl rfl) fun a hf => st_y hf rfl rfl rfl (y_lss rfl rfl rfl) fun a hf => st_end (x_then_n (cond_t hf rfl (decide_eq_true (by omega)) (wp_skip (x_then_n (wp_seq (wp_block ?_))))))
   refine wp_seq (wp_seq (wp_region_lit (st_y hf rfl rfl rfl (y_move rfl rfl) fun a hf => st_y hf rfl rfl rfl (y_move rfl rfl) fun a hf => ?_)))
   obtain ⟨x1_1, hx1_1, hb0_1⟩ := bnd hb0_1
   obtain ⟨h1_1, hx1_2⟩ := getI_some.1 hx1_1
   obtain ⟨b1_1, o1_1, c1_2, he⟩ := idx_form h1 hx1_2
   simp only [Value.slice.injEq, Option.some.injEq] at he; obtain ⟨rfl, _, rfl⟩ := he
   refine st_y hf rfl rfl rfl (y_indexAddr st_25 rfl rfl rfl h1_1 (idx_lt hx1_2)) fun a hf => st_y hf rfl rfl rfl (y_load1 Tryz.isAgg3 rfl rfl ((flat_cells (cs := [(.int .i64 (x1_1))]) (hm.now h1) hx1_2 rfl).cell (j := 0) rfl)) fun a hf => st_y hf rfl rfl rfl (y_move rfl rfl) fun a hf => st_y hf rfl rfl rfl (y_neq rfl rfl rfl) fun a hf => st_end (x_then_n ?_)
   rcases bcases (decide (x1_1 ≠ xs1_1)) with h1_2 | h1_2
   ·
    replace hb0_1 := (ite_t h1_2).symm.trans hb0_1
    have h1_3 := of_decide_eq_true h1_2
    refine cond_t hf rfl h1_2 (wp_seq (wp_region_lit (st_y hf rfl rfl rfl (y_assign rfl rfl) fun a hf => st_end (x_then_n (wp_ret (x_then_ret (x_blk_ret ?_)))))))
    refine x_then_ret (x_then_ret (x_blk_ret (x_then_ret ?_)))
    obtain rfl := Option.some.inj hb0_1
    obtain rfl := ho0_1 _ rfl
    replace hq := sum_r hq
    obtain rfl := Option.some.inj hq
    refine ret_tmp hf Tryz.results17 rfl ?_
    exact ⟨rfl, hm.below⟩
   ·
    replace hb0_1 := (ite_f h1_2).symm.trans hb0_1
    have h1_4 := of_decide_eq_false h1_2
    refine cond_f hf rfl h1_2 (wp_skip (x_then_n (wp_region_lit (st_y hf rfl rfl rfl (y_move rfl rfl) fun a hf => st_y hf rfl rfl rfl (y_addw rfl rfl rfl) fun a hf => st_y hf rfl rfl rfl (y_assign rfl rfl) fun a hf => st_end (x_blk_n ?_)))))
    refine x_then_n (wp_region_lit (st_y hf rfl rfl rfl (y_move rfl rfl) fun a hf => st_y hf rfl rfl rfl (y_add64 rfl rfl rfl (by omega) (by omega)) fun a hf => st_y hf rfl rfl rfl (y_assign rfl rfl) fun a hf => st_end (x_then_n ?_)))
    obtain rfl := Option.some.inj hb0_1
    exact ⟨_, rfl, hf.sub ⟨rfl, rfl, rfl, trivial⟩, hm.pick [] (by decide) rfl⟩
  ·
   clear hf hm
   rintro i0_1 xs0_1 a w ⟨hf, hm⟩ hi0_1 hi0_2 rfl
   replace hq := sum_l hq
   refine wp_seq (wp_seq (wp_region_lit (st_y hf rfl rfl rfl (y_move rfl rfl) fun a hf => st_y hf rfl rfl rfl (y_move rfl rfl) fun a hf => ?_)))
   obtain ⟨p0_1, c0_1, he, hl0_2⟩ := ro_slice h1
   subst he
   refine st_y hf rfl rfl rfl (y_len_slice st_25.und rfl rfl) fun a hf => st_y hf rfl rfl rfl (y_lss rfl rfl rfl) fun a hf => st_end (x_then_n (cond_f hf rfl (decide_eq_false (by omega)) (wp_exit (x_then_exit (x_then_exit (x_blk_hit ?_))))))
   refine x_then_n (wp_seq (wp_region_lit (st_y hf rfl rfl rfl (y_move rfl rfl) fun a hf => st_y hf rfl rfl rfl (y_assign rfl rfl) fun a hf => st_end (x_then_n (wp_ret ?_)))))
   obtain rfl := Option.some.inj hq
   refine ret_tmp hf Tryz.results17 rfl ?_
   exact ⟨rfl, hm.below⟩

theorem laws_FnExactTraceOf_ok (w0 : World) (aU : Unit_) (v1 : Value) (h1 : GT.rep (hp w0) [v1] aU.codes) (aIn : List Int) (v2 : Value) (h2 : GT.rep (hp w0) [v2] aIn) (aSteps : Int) (r : Bool) (hq : laws_FnExactTraceOf aU aIn aSteps = some r) :
    Con Tryz.prog 4 [(.agg #[v1]), v2, (.int .i64 (aSteps))] w0 (fun v w' => v = (.bool (r)) ∧ Below w0.heap.size w0 w') := by
  unfold laws_FnExactTraceOf at hq
  refine con_body (l := [(0, (.agg #[v1])), (1, v2), (2, (.int .i64 (aSteps)))]) Tryz.func4 rfl Tryz.ntmps4 (Args.get ⟨rfl, rfl, rfl, trivial⟩) rfl ?_
  intro a hf
  have hm := Mem.start w0
  refine wp_seq (wp_region_lit (st_ef hf rfl rfl rfl (e_box hf hm rfl rfl rfl) ?_))
  clear hf a; rintro _ w0_1 a ⟨b0_1, rfl, hm⟩ hf
  refine st_y hf rfl rfl rfl (y_assign rfl rfl) fun a hf => st_end (x_then_n (wp_seq (wp_seq (wp_region_lit (st_y hf rfl rfl rfl (y_move rfl rfl) fun a hf => ?_)))))
  obtain ⟨p0_1, c0_1, he, hl0_1⟩ := ro_slice h2
  subst he
  refine st_y hf rfl rfl rfl (y_len_slice st_25.und rfl rfl) fun a hf => st_y hf rfl rfl rfl (y_gtr rfl rfl rfl) fun a hf => st_end (x_then_n ?_)
  rcases bcases (decide (1048576 < ((aIn.length : Int)))) with h0_1 | h0_1
  ·
   replace hq := (ite_t h0_1).symm.trans hq
   have h0_2 := of_decide_eq_true h0_1
   refine cond_t hf rfl h0_1 (wp_seq (wp_region_lit (st_y hf rfl rfl rfl (y_assign rfl rfl) fun a hf => st_end (x_then_n (wp_ret (x_then_ret ?_))))))
   obtain rfl := Option.some.inj hq
   refine ret_tmp hf Tryz.results4 rfl ?_
   exact ⟨rfl, hm.below⟩
  ·
   replace hq := (ite_f h0_1).symm.trans hq
   have h0_3 := of_decide_eq_false h0_1
   refine cond_f hf rfl h0_1 (wp_skip (x_then_n (wp_seq (wp_region_lit (st_y hf rfl rfl rfl (y_assign rfl rfl) fun a hf => st_end (x_then_n (wp_seq ?_)))))))
   refine wp_region_lit (st_y hf rfl rfl rfl (y_loadN (cs := [v1]) Tryz.isAgg24 Tryz.sizeOf24 rfl rfl (hm.blk_at 0 rfl)) fun a hf => st_y hf rfl rfl rfl (y_move rfl rfl) fun a hf => ?_)
   obtain ⟨r0_1, hx0_1, hq⟩ := bnd hq
   refine st_ef hf rfl rfl rfl (e_call hf rfl Tryz.call6 rfl (laws_szUnit_ok _ aU v1 (hm.now h1) 1048576 _ hx0_1)) ?_
   clear hf a; rintro v0_1 w0_2 a ho0_1 hf
   obtain ⟨rfl, hB⟩ := ho0_1
   replace hm := hm.below' hB; clear hB
   refine st_y hf rfl rfl rfl (y_assign rfl rfl) fun a hf => st_end (x_then_n (wp_seq (wp_seq (wp_region_lit (st_y hf rfl rfl rfl (y_move rfl rfl) fun a hf => st_y hf rfl rfl rfl (y_lss rfl rfl rfl) fun a hf => st_end ?_)))))
   refine x_then_n ?_
   rcases bcases (decide (r0_1 < 0)) with h0_4 | h0_4
   ·
    replace hq := (ite_t h0_4).symm.trans hq
    have h0_5 := of_decide_eq_true h0_4
    refine cond_t hf rfl h0_4 (wp_seq (wp_region_lit (st_y hf rfl rfl rfl (y_assign rfl rfl) fun a hf => st_end (x_then_n (wp_ret (x_then_ret ?_))))))
    obtain rfl := Option.some.inj hq
    refine ret_tmp hf Tryz.results4 rfl ?_
    exact ⟨rfl, hm.below⟩
   ·
    replace hq := (ite_f h0_4).symm.trans hq
    have h0_6 := of_decide_eq_false h0_4
    refine cond_f hf rfl h0_4 (wp_skip (x_then_n (wp_seq (wp_region_lit (st_y hf rfl rfl rfl (y_loadN (cs := [v1]) Tryz.isAgg24 Tryz.sizeOf24 rfl rfl (hm.blk_at 0 rfl)) fun a hf => ?_)))))
    obtain ⟨r0_2, hx0_2, hq⟩ := bnd hq
    refine st_ef hf rfl rfl rfl (e_call hf rfl Tryz.call8 rfl (laws_toUnit_ok _ aU v1 (hm.now h1) _ hx0_2)) ?_
    clear hf a; rintro v0_2 w0_3 a ho0_2 hf
    obtain ⟨v0_3, rfl, hB⟩ := ho0_2
    replace hm := hm.give hB; clear hB
    refine st_y hf rfl rfl rfl (y_move rfl rfl) fun a hf => ?_
    obtain ⟨r0_3, hx0_3, hq⟩ := bnd hq
    refine st_ef hf rfl rfl rfl (e_call hf rfl Tryz.call9 rfl (laws_toIntS_ok _ aIn (.slice p0_1 aIn.length c0_1) (hm.now h2) _ hx0_3)) ?_
    clear hf a; rintro v0_4 w0_4 a ho0_3 hf
    obtain ⟨_, rfl, hB⟩ := ho0_3
    replace hm := hm.give hB; clear hB
    refine st_y hf rfl rfl rfl (y_move rfl rfl) fun a hf => ?_
    obtain ⟨r0_4, hx0_4, hq⟩ := bnd hq
    refine st_ef hf rfl rfl rfl (e_call hf rfl Tryz.call13 rfl (spec_TraceOf_ok _ r0_2 v0_3 (hm.ow_rep 1 rfl) r0_3 v0_4 (hm.ow_rep 0 rfl) aSteps _ hx0_4)) ?_
    clear hf a; rintro v0_6 w0_5 a ho0_4 hf
    obtain ⟨_, rfl, hB⟩ := ho0_4
    replace hm := hm.give hB; clear hB
    refine st_y hf rfl rfl rfl (y_assign rfl rfl) fun a hf => st_end (x_then_n (wp_seq (wp_region_lit (st_y hf rfl rfl rfl (y_loadN (cs := [v1]) Tryz.isAgg24 Tryz.sizeOf24 rfl rfl (hm.blk_at 3 rfl)) fun a hf => ?_))))
    obtain ⟨r0_5, hx0_5, hq⟩ := bnd hq
    refine st_ef hf rfl rfl rfl (e_call hf rfl Tryz.call8 rfl (laws_toUnit_ok _ aU v1 (hm.now h1) _ hx0_5)) ?_
    clear hf a; rintro v0_8 w0_6 a ho0_5 hf
    obtain ⟨v0_9, rfl, hB⟩ := ho0_5
    replace hm := hm.give hB; clear hB
    refine st_ef hf rfl rfl rfl (e_alloc hm Tryz.zeroValue30 rfl rfl) ?_
    clear hf a; rintro _ w0_7 a ⟨b0_2, rfl, hm⟩ hf
    refine st_ef0 hf rfl rfl (e_storeN 0 hf hm rfl Tryz.sizeOf30 rfl rfl rfl (one_cons (rep_one (hm.ow_rep 1 rfl)) one_nil) rfl rfl) ?_
    clear hf a; rintro _ w0_8 a hm hf
    refine st_end (x_then_n (wp_seq (wp_region_lit (st_y hf rfl rfl rfl (y_move rfl rfl) fun a hf => ?_))))
    obtain ⟨r0_6, hx0_6, hq⟩ := bnd hq
    refine st_ef hf rfl rfl rfl (e_call hf rfl Tryz.call9 rfl (laws_toIntS_ok _ aIn (.slice p0_1 aIn.length c0_1) (hm.now h2) _ hx0_6)) ?_
    clear hf a; rintro v0_10 w0_9 a ho0_6 hf
    obtain ⟨_, rfl, hB⟩ := ho0_6
    replace hm := hm.give hB; clear hB
    refine st_y hf rfl rfl rfl (y_assign rfl rfl) fun a hf => st_end (x_then_n (wp_seq (wp_region_lit (st_y hf rfl rfl rfl (y_loadN (cs := [v0_9]) Tryz.isAgg30 Tryz.sizeOf30 rfl rfl (hm.blk_at 1 rfl)) fun a hf => st_y hf rfl rfl rfl (y_move rfl rfl) fun a hf => st_y hf rfl rfl rfl (y_move rfl rfl) fun a hf => ?_))))
    obtain ⟨r0_7, hx0_7, hq⟩ := bnd hq
    refine st_ef hf rfl rfl rfl (e_call hf rfl Tryz.call14 rfl (impl_TraceOf_ok _ r0_5 v0_9 (hm.ow_rep 2 rfl) r0_6 v0_10 (hm.ow_rep 0 rfl) aSteps _ hx0_7)) ?_
    clear hf a; rintro v0_12 w0_10 a ho0_7 hf
    obtain ⟨_, rfl, hB⟩ := ho0_7
    replace hm := hm.give hB; clear hB
    refine st_y hf rfl rfl rfl (y_assign rfl rfl) fun a hf => st_end (x_then_n (wp_seq (wp_seq (wp_region_lit (st_y hf rfl rfl rfl (y_move rfl rfl) fun a hf => st_y hf rfl rfl rfl (y_move rfl rfl) fun a hf => ?_)))))
    obtain ⟨r0_8, hx0_8, hq⟩ := bnd hq
    refine st_ef hf rfl rfl rfl (e_call hf rfl Tryz.call12 rfl (laws_eqIntS_ok _ r0_7 v0_12 (hm.ow_rep 0 rfl) r0_4 v0_6 (hm.ow_rep 4 rfl) _ hx0_8)) ?_
    clear hf a; rintro v0_14 w0_11 a ho0_8 hf
    obtain ⟨rfl, hB⟩ := ho0_8
    replace hm := hm.below' hB; clear hB
    refine st_y hf rfl rfl rfl (y_not rfl rfl) fun a hf => st_end (x_then_n ?_)
    rcases bcases (!(r0_8)) with h0_7 | h0_7
    ·
     replace hq := (ite_t h0_7).symm.trans hq
     have h0_8 := bnot_t' h0_7
     refine cond_t hf rfl h0_7 (wp_seq (wp_region_lit (st_y hf rfl rfl rfl (y_assign rfl rfl) fun a hf => st_end (x_then_n (wp_ret (x_then_ret ?_))))))
     obtain rfl := Option.some.inj hq
     refine ret_tmp hf Tryz.results4 rfl ?_
     exact ⟨rfl, hm.below⟩
    ·
     replace hq := (ite_f h0_7).symm.trans hq
     have h0_9 := bnot_f' h0_7
     refine cond_f hf rfl h0_7 (wp_skip (x_then_n (wp_seq (wp_seq (wp_tree (.q 0 (.e 1 (.e 2 (.e 3 (.p 4 .fin) .nil) .nil) .nil)) [1, 2] [4] (fun w => Mem w0 (hp w0) w [ow [v0_12] r0_7, ow [v0_10] r0_6, blk b0_2 [v0_9] 30, ow [v0_9] r0_5.codes, ow [v0_6] r0_4, ow [v0_4] r0_3, ow [v0_3] r0_2.codes, blk b0_1 [v1] 24]) (by kernel_rfl) (by kernel_rfl) (fun _ _ _ h => h.2) ?_)))))
     replace hm := hm.drew
     have hS : Mem w0 (hp w0) _ [ow [v0_12] r0_7, ow [v0_10] r0_6, blk b0_2 [v0_9] 30, ow [v0_9] r0_5.codes, ow [v0_6] r0_4, ow [v0_4] r0_3, ow [v0_3] r0_2.codes, blk b0_1 [v1] 24] := hm.pick [0, 1, 2, 3, 4, 5, 6, 7] (by decide) rfl
     refine td_y hf rfl rfl rfl rfl hS (fun w hm => y_loadN (cs := [v0_9]) Tryz.isAgg30 Tryz.sizeOf30 rfl rfl (hm.blk_at 2 rfl)) fun a hf => te_one (td_ef hf rfl rfl rfl rfl (ef_y hf (y_loadN (cs := [v1]) Tryz.isAgg24 Tryz.sizeOf24 rfl rfl (hm.blk_at 7 rfl))) ?_)
     clear hf a; rintro _ _ a ⟨rfl, rfl⟩ hf
     refine ⟨fun _ => hS, ?_⟩
     refine te_one ?_
     obtain ⟨r0_9, hx0_9, hq⟩ := bnd hq
     refine td_ef hf rfl rfl rfl rfl (e_call hf rfl Tryz.call8 rfl (laws_toUnit_ok _ aU v1 (hm.now h1) _ hx0_9)) ?_
     clear hf a; rintro v0_15 w0_12 a ho0_9 hf
     obtain ⟨v0_16, rfl, hB⟩ := ho0_9
     replace hm := hm.give hB; clear hB
     clear hS
     have hS : Mem w0 (hp w0) _ [ow [v0_12] r0_7, ow [v0_10] r0_6, blk b0_2 [v0_9] 30, ow [v0_9] r0_5.codes, ow [v0_6] r0_4, ow [v0_4] r0_3, ow [v0_3] r0_2.codes, blk b0_1 [v1] 24] := hm.pick [1, 2, 3, 4, 5, 6, 7, 8] (by decide) rfl
     refine ⟨fun _ => hS, ?_⟩
     refine te_one ?_
     obtain ⟨r0_10, hx0_10, hq⟩ := bnd hq
     refine td_ef hf rfl rfl rfl rfl (e_call hf rfl Tryz.call11 rfl (laws_eqUnit_ok _ r0_5 v0_9 (hm.ow_rep 4 rfl) r0_9 v0_16 (hm.ow_rep 0 rfl) _ hx0_10)) ?_
     clear hf a; rintro v0_17 w0_13 a ho0_10 hf
     obtain ⟨rfl, hB⟩ := ho0_10
     replace hm := hm.below' hB; clear hB
     refine ⟨fun h => absurd h (by decide), ?_⟩
     refine td_p hf rfl rfl rfl rfl (fun w => y_not rfl rfl) fun a hf => ?_
     clear hS; refine td_end ?_
     refine x_then_n ?_
     rcases bcases (!(r0_10)) with h0_10 | h0_10
     ·
      replace hq := (ite_t h0_10).symm.trans hq
      have h0_11 := bnot_t' h0_10
      refine cond_t hf rfl h0_10 (wp_seq (wp_region_lit (st_y hf rfl rfl rfl (y_assign rfl rfl) fun a hf => st_end (x_then_n (wp_ret (x_then_ret ?_))))))
      obtain rfl := Option.some.inj hq
      refine ret_tmp hf Tryz.results4 rfl ?_
      exact ⟨rfl, hm.below⟩
     ·
      replace hq := (ite_f h0_10).symm.trans hq
      have h0_12 := bnot_f' h0_10
      refine cond_f hf rfl h0_10 (wp_skip (x_then_n (wp_seq (wp_seq (wp_region_lit (st_y hf rfl rfl rfl (y_move rfl rfl) fun a hf => st_y hf rfl rfl rfl (y_move rfl rfl) fun a hf => ?_))))))
      obtain ⟨r0_11, hx0_11, hq⟩ := bnd hq
      refine st_ef hf rfl rfl rfl (e_call hf rfl Tryz.call9 rfl (laws_toIntS_ok _ aIn (.slice p0_1 aIn.length c0_1) (hm.now h2) _ hx0_11)) ?_
      clear hf a; rintro v0_18 w0_14 a ho0_11 hf
      obtain ⟨_, rfl, hB⟩ := ho0_11
      replace hm := hm.give hB; clear hB
      obtain ⟨r0_12, hx0_12, hq⟩ := bnd hq
      refine st_ef hf rfl rfl rfl (e_call hf rfl Tryz.call12 rfl (laws_eqIntS_ok _ r0_6 v0_10 (hm.ow_rep 3 rfl) r0_11 v0_18 (hm.ow_rep 0 rfl) _ hx0_12)) ?_
      clear hf a; rintro v0_20 w0_15 a ho0_12 hf
      obtain ⟨rfl, hB⟩ := ho0_12
      replace hm := hm.below' hB; clear hB
      refine st_y hf rfl rfl rfl (y_not rfl rfl) fun a hf => st_end (x_then_n ?_)
      rcases bcases (!(r0_12)) with h0_13 | h0_13
      ·
       replace hq := (ite_t h0_13).symm.trans hq
       have h0_14 := bnot_t' h0_13
       refine cond_t hf rfl h0_13 (wp_seq (wp_region_lit (st_y hf rfl rfl rfl (y_assign rfl rfl) fun a hf => st_end (x_then_n (wp_ret (x_then_ret ?_))))))
       obtain rfl := Option.some.inj hq
       refine ret_tmp hf Tryz.results4 rfl ?_
       exact ⟨rfl, hm.below⟩
      ·
       replace hq := (ite_f h0_13).symm.trans hq
       have h0_15 := bnot_f' h0_13
       refine cond_f hf rfl h0_13 (wp_skip (x_then_n (wp_seq (wp_region_lit (st_y hf rfl rfl rfl (y_assign rfl rfl) fun a hf => st_end (x_then_n (wp_seq ?_)))))))
       refine wp_region_lit (st_y hf rfl rfl rfl (y_loadN (cs := [v0_9]) Tryz.isAgg30 Tryz.sizeOf30 rfl rfl (hm.blk_at 4 rfl)) fun a hf => st_y hf rfl rfl rfl (y_move rfl rfl) fun a hf => ?_)
       obtain ⟨r0_13, hx0_13, hq⟩ := bnd hq
       obtain ⟨hz0_9, hle, hm1, hsub, hk0_1⟩ := hm.take2 (L1 := [ow [v0_9] r0_5.codes]) (L2 := [ow [v0_18] r0_11, ow [v0_16] r0_9.codes, ow [v0_12] r0_7, ow [v0_10] r0_6, blk b0_2 [v0_9] 30, ow [v0_6] r0_4, ow [v0_4] r0_3, ow [v0_3] r0_2.codes, blk b0_1 [v1] 24]) [5] [0, 1, 2, 3, 4, 6, 7, 8, 9] (by decide) rfl rfl
       refine st_ef hf rfl rfl rfl (e_call hf rfl Tryz.call15 rfl (laws_markUnit_ok _ hz0_9 r0_5 v0_9 1 hm1  _ hx0_13)) ?_
       clear hf a; rintro v0_21 w0_16 a ho0_13 hf
       obtain ⟨rfl, hB⟩ := ho0_13
       replace hm := hk0_1 _ _ hB; clear hB
       refine st_y hf rfl rfl rfl (y_assign rfl rfl) fun a hf => st_end (x_then_n (wp_seq (wp_region_lit (st_y hf rfl rfl rfl (y_move rfl rfl) fun a hf => st_y hf rfl rfl rfl (y_move rfl rfl) fun a hf => ?_))))
       obtain ⟨r0_14, hx0_14, hq⟩ := bnd hq
       obtain ⟨hz0_11, hle, hm1, hsub, hk0_2⟩ := hm.take2 (L1 := [ow [v0_10] r0_6]) (L2 := [ow [v0_9] r0_13.2, ow [v0_18] r0_11, ow [v0_16] r0_9.codes, ow [v0_12] r0_7, blk b0_2 [v0_9] 30, ow [v0_6] r0_4, ow [v0_4] r0_3, ow [v0_3] r0_2.codes, blk b0_1 [v1] 24]) [4] [0, 1, 2, 3, 5, 6, 7, 8, 9] (by decide) rfl rfl
       refine st_ef hf rfl rfl rfl (e_call hf rfl Tryz.call16 rfl (laws_markIntS_ok _ hz0_11 r0_6 v0_10 r0_13.1 hm1  _ hx0_14)) ?_
       clear hf a; rintro v0_22 w0_17 a ho0_14 hf
       obtain ⟨rfl, hB⟩ := ho0_14
       replace hm := hk0_2 _ _ hB; clear hB
       refine st_y hf rfl rfl rfl (y_assign rfl rfl) fun a hf => st_end (x_then_n (wp_seq (wp_seq ?_)))
       obtain ⟨s0_1, hq0_1, hq⟩ := bnd hq
       refine code_cut (K := fun a w => Fr 95 [(1, (.slice p0_1 aIn.length c0_1)), (2, (.int .i64 (aSteps))), (3, (.pointer (some ⟨b0_1, 0, none⟩))), (8, v0_6), (11, v0_12), (65, (.bool (s0_1)))] a ∧ Mem w0 (hp w0) w [blk b0_1 [v1] 24, ow [v0_6] r0_4, ow [v0_12] r0_7]) ?_ ?_
       ·
        refine wp_region_lit (st_y hf rfl rfl rfl (y_move rfl rfl) fun a hf => st_y hf rfl rfl rfl (y_lss rfl rfl rfl) fun a hf => st_y hf rfl rfl rfl (y_move rfl rfl) fun a hf => ?_)
        rcases bcases (decide (r0_14.1 < 0)) with h1_1 | h1_1
        ·
         replace hq0_1 := (ite_t h1_1).symm.trans hq0_1
         have h1_2 := of_decide_eq_true h1_1
         refine st_no hf rfl rfl (lk_b rfl h1_1) rfl rfl rfl fun a hf => st_no hf rfl rfl (lk_b rfl h1_1) rfl rfl rfl fun a hf => st_no hf rfl rfl (lk_b rfl h1_1) rfl rfl rfl fun a hf => st_no hf rfl rfl (lk_b rfl h1_1) rfl rfl rfl fun a hf => st_y hf rfl rfl rfl (y_pick_t rfl (ev_b rfl h1_1) rfl) fun a hf => st_end (x_then_n ?_)
         obtain rfl := Option.some.inj hq0_1
         exact ⟨hf.sub ⟨rfl, rfl, rfl, rfl, rfl, rfl, trivial⟩, hm.pick [9, 6, 4] (by decide) rfl⟩
        ·
         replace hq0_1 := (ite_f h1_1).symm.trans hq0_1
         have h1_3 := of_decide_eq_false h1_1
         refine st_yg hf rfl rfl (lk_b rfl h1_1) rfl rfl (y_move rfl rfl) fun a hf => st_yg hf rfl rfl (lk_b rfl h1_1) rfl rfl (y_move rfl rfl) fun a hf => ?_
         obtain ⟨r1_1, hx1_1, hq0_1⟩ := bnd hq0_1
         refine st_efg hf rfl rfl (lk_b rfl h1_1) rfl rfl (e_call hf rfl Tryz.call12 rfl (laws_eqIntS_ok _ r0_7 v0_12 (hm.ow_rep 4 rfl) r0_4 v0_6 (hm.ow_rep 6 rfl) _ hx1_1)) ?_
         clear hf a; rintro v1_1 w1_1 a ho1_1 hf
         obtain ⟨rfl, hB⟩ := ho1_1
         replace hm := hm.below' hB; clear hB
         refine st_yg hf rfl rfl (lk_b rfl h1_1) rfl rfl (y_not rfl rfl) fun a hf => st_y hf rfl rfl rfl (y_pick_f rfl (ev_b rfl h1_1) rfl) fun a hf => st_end (x_then_n ?_)
         obtain rfl := Option.some.inj hq0_1
         exact ⟨hf.sub ⟨rfl, rfl, rfl, rfl, rfl, rfl, trivial⟩, hm.pick [9, 6, 4] (by decide) rfl⟩
       ·
        clear hf hm
        rintro a w ⟨hf, hm⟩
        refine x_then_n ?_
        rcases bcases (s0_1) with h0_16 | h0_16
        ·
         replace hq := (ite_t h0_16).symm.trans hq
         refine cond_t hf rfl h0_16 (wp_seq (wp_region_lit (st_y hf rfl rfl rfl (y_assign rfl rfl) fun a hf => st_end (x_then_n (wp_ret (x_then_ret ?_))))))
         obtain rfl := Option.some.inj hq
         refine ret_tmp hf Tryz.results4 rfl ?_
         exact ⟨rfl, hm.below⟩
        ·
         replace hq := (ite_f h0_16).symm.trans hq
         refine cond_f hf rfl h0_16 (wp_skip (x_then_n (wp_seq (wp_region_lit (st_y hf rfl rfl rfl (y_assign rfl rfl) fun a hf => st_end (x_then_n (wp_seq ?_)))))))
         refine wp_region_lit (st_y hf rfl rfl rfl (y_move rfl rfl) fun a hf => st_y hf rfl rfl rfl (y_move rfl rfl) fun a hf => ?_)
         obtain ⟨r0_15, hx0_15, hq⟩ := bnd hq
         obtain ⟨hz0_13, hle, hm1, hsub, hk0_3⟩ := hm.take2 (L1 := [ow [v0_12] r0_7]) (L2 := [blk b0_1 [v1] 24, ow [v0_6] r0_4]) [2] [0, 1] (by decide) rfl rfl
         refine st_ef hf rfl rfl rfl (e_call hf rfl Tryz.call16 rfl (laws_markIntS_ok _ hz0_13 r0_7 v0_12 1 hm1  _ hx0_15)) ?_
         clear hf a; rintro v0_23 w0_18 a ho0_15 hf
         obtain ⟨rfl, hB⟩ := ho0_15
         replace hm := hk0_3 _ _ hB; clear hB
         refine st_y hf rfl rfl rfl (y_assign rfl rfl) fun a hf => st_end (x_then_n (wp_seq (wp_region_lit (st_y hf rfl rfl rfl (y_assign rfl rfl) fun a hf => st_end (x_then_n (wp_seq ?_))))))
         refine wp_region_lit (st_y hf rfl rfl rfl (y_move rfl rfl) fun a hf => st_y hf rfl rfl rfl (y_move rfl rfl) fun a hf => ?_)
         obtain ⟨r0_16, hx0_16, hq⟩ := bnd hq
         refine st_ef hf rfl rfl rfl (e_call hf rfl Tryz.call17 rfl (laws_heldIntS_ok _ r0_15.2 v0_12 (hm.ow_rep 0 rfl) 1 _ hx0_16)) ?_
         clear hf a; rintro v0_24 w0_19 a ho0_16 hf
         obtain ⟨rfl, hB⟩ := ho0_16
         replace hm := hm.below' hB; clear hB
         refine st_y hf rfl rfl rfl (y_assign rfl rfl) fun a hf => st_end (x_then_n (wp_seq (wp_seq (wp_region_lit (st_y hf rfl rfl rfl (y_move rfl rfl) fun a hf => st_y hf rfl rfl rfl (y_lss rfl rfl rfl) fun a hf => st_end ?_)))))
         refine x_then_n ?_
         rcases bcases (decide (r0_16 < 0)) with h0_17 | h0_17
         ·
          replace hq := (ite_t h0_17).symm.trans hq
          have h0_18 := of_decide_eq_true h0_17
          refine cond_t hf rfl h0_17 (wp_seq (wp_region_lit (st_y hf rfl rfl rfl (y_assign rfl rfl) fun a hf => st_end (x_then_n (wp_ret (x_then_ret ?_))))))
          obtain rfl := Option.some.inj hq
          refine ret_tmp hf Tryz.results4 rfl ?_
          exact ⟨rfl, hm.below⟩
         ·
          replace hq := (ite_f h0_17).symm.trans hq
          have h0_19 := of_decide_eq_false h0_17
          refine cond_f hf rfl h0_17 (wp_skip (x_then_n (wp_seq (wp_seq (wp_region_lit (st_y hf rfl rfl rfl (y_move rfl rfl) fun a hf => st_y hf rfl rfl rfl (y_move rfl rfl) fun a hf => st_y hf rfl rfl rfl (y_neq rfl rfl rfl) fun a hf => ?_))))))
          refine st_end (x_then_n ?_)
          rcases bcases (decide (r0_16 ≠ r0_15.1)) with h0_20 | h0_20
          ·
           replace hq := (ite_t h0_20).symm.trans hq
           have h0_21 := of_decide_eq_true h0_20
           refine cond_t hf rfl h0_20 (wp_seq (wp_region_lit (st_y hf rfl rfl rfl (y_assign rfl rfl) fun a hf => st_end (x_then_n (wp_ret (x_then_ret ?_))))))
           obtain rfl := Option.some.inj hq
           refine ret_tmp hf Tryz.results4 rfl ?_
           exact ⟨rfl, hm.below⟩
          ·
           replace hq := (ite_f h0_20).symm.trans hq
           have h0_22 := of_decide_eq_false h0_20
           refine cond_f hf rfl h0_20 (wp_skip (x_then_n (wp_seq (wp_region_lit (st_y hf rfl rfl rfl (y_loadN (cs := [v1]) Tryz.isAgg24 Tryz.sizeOf24 rfl rfl (hm.blk_at 1 rfl)) fun a hf => ?_)))))
           obtain ⟨r0_17, hx0_17, hq⟩ := bnd hq
           refine st_ef hf rfl rfl rfl (e_call hf rfl Tryz.call8 rfl (laws_toUnit_ok _ aU v1 (hm.now h1) _ hx0_17)) ?_
           clear hf a; rintro v0_25 w0_20 a ho0_17 hf
           obtain ⟨v0_26, rfl, hB⟩ := ho0_17
           replace hm := hm.give hB; clear hB
           refine st_y hf rfl rfl rfl (y_move rfl rfl) fun a hf => ?_
           obtain ⟨r0_18, hx0_18, hq⟩ := bnd hq
           refine st_ef hf rfl rfl rfl (e_call hf rfl Tryz.call9 rfl (laws_toIntS_ok _ aIn (.slice p0_1 aIn.length c0_1) (hm.now h2) _ hx0_18)) ?_
           clear hf a; rintro v0_27 w0_21 a ho0_18 hf
           obtain ⟨_, rfl, hB⟩ := ho0_18
           replace hm := hm.give hB; clear hB
           refine st_y hf rfl rfl rfl (y_move rfl rfl) fun a hf => ?_
           obtain ⟨r0_19, hx0_19, hq⟩ := bnd hq
           refine st_ef hf rfl rfl rfl (e_call hf rfl Tryz.call14 rfl (impl_TraceOf_ok _ r0_17 v0_26 (hm.ow_rep 1 rfl) r0_18 v0_27 (hm.ow_rep 0 rfl) aSteps _ hx0_19)) ?_
           clear hf a; rintro v0_29 w0_22 a ho0_19 hf
           obtain ⟨_, rfl, hB⟩ := ho0_19
           replace hm := hm.give hB; clear hB
           refine st_y hf rfl rfl rfl (y_assign rfl rfl) fun a hf => st_end (x_then_n (wp_seq (wp_seq (wp_region_lit (st_y hf rfl rfl rfl (y_move rfl rfl) fun a hf => st_y hf rfl rfl rfl (y_move rfl rfl) fun a hf => ?_)))))
           obtain ⟨r0_20, hx0_20, hq⟩ := bnd hq
           refine st_ef hf rfl rfl rfl (e_call hf rfl Tryz.call12 rfl (laws_eqIntS_ok _ r0_19 v0_29 (hm.ow_rep 0 rfl) r0_4 v0_6 (hm.ow_rep 5 rfl) _ hx0_20)) ?_
           clear hf a; rintro v0_31 w0_23 a ho0_20 hf
           obtain ⟨rfl, hB⟩ := ho0_20
           replace hm := hm.below' hB; clear hB
           refine st_y hf rfl rfl rfl (y_not rfl rfl) fun a hf => st_end (x_then_n ?_)
           rcases bcases (!(r0_20)) with h0_23 | h0_23
           ·
            replace hq := (ite_t h0_23).symm.trans hq
            have h0_24 := bnot_t' h0_23
            refine cond_t hf rfl h0_23 (wp_seq (wp_region_lit (st_y hf rfl rfl rfl (y_assign rfl rfl) fun a hf => st_end (x_then_n (wp_ret (x_then_ret ?_))))))
            obtain rfl := Option.some.inj hq
            refine ret_tmp hf Tryz.results4 rfl ?_
            exact ⟨rfl, hm.below⟩
           ·
            replace hq := (ite_f h0_23).symm.trans hq
            have h0_25 := bnot_f' h0_23
            refine cond_f hf rfl h0_23 (wp_skip (x_then_n (wp_seq (wp_region_lit (st_y hf rfl rfl rfl (y_assign rfl rfl) fun a hf => st_end (x_then_n (wp_seq ?_)))))))
            refine wp_region_lit (st_y hf rfl rfl rfl (y_move rfl rfl) fun a hf => st_y hf rfl rfl rfl (y_move rfl rfl) fun a hf => ?_)
            obtain ⟨r0_21, hx0_21, hq⟩ := bnd hq
            refine st_ef hf rfl rfl rfl (e_call hf rfl Tryz.call17 rfl (laws_heldIntS_ok _ r0_15.2 v0_12 (hm.ow_rep 3 rfl) 1 _ hx0_21)) ?_
            clear hf a; rintro v0_32 w0_24 a ho0_21 hf
            obtain ⟨rfl, hB⟩ := ho0_21
            replace hm := hm.below' hB; clear hB
            refine st_y hf rfl rfl rfl (y_assign rfl rfl) fun a hf => st_end (x_then_n (wp_seq (wp_seq (wp_region_lit (st_y hf rfl rfl rfl (y_move rfl rfl) fun a hf => st_y hf rfl rfl rfl (y_lss rfl rfl rfl) fun a hf => st_end ?_)))))
            refine x_then_n ?_
            rcases bcases (decide (r0_21 < 0)) with h0_26 | h0_26
            ·
             replace hq := (ite_t h0_26).symm.trans hq
             have h0_27 := of_decide_eq_true h0_26
             refine cond_t hf rfl h0_26 (wp_seq (wp_region_lit (st_y hf rfl rfl rfl (y_assign rfl rfl) fun a hf => st_end (x_then_n (wp_ret (x_then_ret ?_))))))
             obtain rfl := Option.some.inj hq
             refine ret_tmp hf Tryz.results4 rfl ?_
             exact ⟨rfl, hm.below⟩
            ·
             replace hq := (ite_f h0_26).symm.trans hq
             have h0_28 := of_decide_eq_false h0_26
             refine cond_f hf rfl h0_26 (wp_skip (x_then_n (wp_seq (wp_seq (wp_region_lit (st_y hf rfl rfl rfl (y_move rfl rfl) fun a hf => st_y hf rfl rfl rfl (y_move rfl rfl) fun a hf => st_y hf rfl rfl rfl (y_neq rfl rfl rfl) fun a hf => ?_))))))
             refine st_end (x_then_n ?_)
             rcases bcases (decide (r0_21 ≠ r0_15.1)) with h0_29 | h0_29
             ·
              replace hq := (ite_t h0_29).symm.trans hq
              have h0_30 := of_decide_eq_true h0_29
              refine cond_t hf rfl h0_29 (wp_seq (wp_region_lit (st_y hf rfl rfl rfl (y_assign rfl rfl) fun a hf => st_end (x_then_n (wp_ret (x_then_ret ?_))))))
              obtain rfl := Option.some.inj hq
              refine ret_tmp hf Tryz.results4 rfl ?_
              exact ⟨rfl, hm.below⟩
             ·
              replace hq := (ite_f h0_29).symm.trans hq
              have h0_31 := of_decide_eq_false h0_29
              refine cond_f hf rfl h0_29 (wp_skip (x_then_n (wp_seq (wp_region_lit (st_y hf rfl rfl rfl (y_assign rfl rfl) fun a hf => st_end (x_then_n (wp_ret ?_)))))))
              obtain rfl := Option.some.inj hq
              refine ret_tmp hf Tryz.results4 rfl ?_
              exact ⟨rfl, hm.below⟩

end Go.Proofs.YtjbcoilagfdidaaGreat
