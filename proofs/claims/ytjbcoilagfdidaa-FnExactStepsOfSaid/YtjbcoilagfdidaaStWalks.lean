/- A part of the proof of FnExactStepsOfSaid. -/
import Derived.Test.YtjbcoilagfdidaaStWalksD
namespace Go.Proofs.Ytjbcoilagfdidaa
open Go Go.Wk Go.RowKit
set_option maxRecDepth 4000
set_option maxHeartbeats 4000000

theorem laws_eqCodeS_ok (w0 : World) (a_ : List Code_) (v1 : Value) (h1 : GT.rep (hp w0) [v1] a_) (b_ : List Code_) (v2 : Value) (h2 : GT.rep (hp w0) [v2] b_) (r : Bool) (hq : laws_eqCodeS a_ b_ = some r) :
    Con Try.prog 68 [v1, v2] w0 (fun v w' => v = (.bool (r)) ∧ Below w0.heap.size w0 w') := by
  unfold laws_eqCodeS at hq
  refine con_body (l := [(0, v1), (1, v2)]) Try.func68 rfl Try.ntmps68 (Args.get ⟨rfl, rfl, trivial⟩) rfl ?_
  intro a hf
  have hm := Mem.start w0
  refine wp_seq ?_
  refine wp_region_lit ?_
  refine st_y hf rfl rfl rfl (y_assign rfl rfl) ?_
  clear hf a; intro a hf
  refine st_end ?_
  refine x_then_n ?_
  refine wp_seq ?_
  refine wp_seq ?_
  refine wp_region_lit ?_
  refine st_y hf rfl rfl rfl (y_move rfl rfl) ?_
  clear hf a; intro a hf
  obtain ⟨p0_1, c0_1, he, hl0_1⟩ := ro_slice h1
  subst he
  refine st_y hf rfl rfl rfl (y_len_slice st_38.und rfl rfl) ?_
  clear hf a; intro a hf
  refine st_y hf rfl rfl rfl (y_move rfl rfl) ?_
  clear hf a; intro a hf
  obtain ⟨p0_2, c0_2, he, hl0_2⟩ := ro_slice h2
  subst he
  refine st_y hf rfl rfl rfl (y_len_slice st_38.und rfl rfl) ?_
  clear hf a; intro a hf
  refine st_y hf rfl rfl rfl (y_neq rfl rfl rfl) ?_
  clear hf a; intro a hf
  refine st_end ?_
  refine x_then_n ?_
  rcases bcases (decide (((a_.length : Int)) ≠ ((b_.length : Int)))) with h0_1 | h0_1
  ·
   replace hq := (ite_t h0_1).symm.trans hq
   have h0_2 := of_decide_eq_true h0_1
   refine cond_t hf rfl h0_1 ?_
   refine wp_seq ?_
   refine wp_region_lit ?_
   refine st_y hf rfl rfl rfl (y_assign rfl rfl) ?_
   clear hf a; intro a hf
   refine st_end ?_
   refine x_then_n ?_
   refine wp_ret ?_
   refine x_then_ret ?_
   obtain rfl := Option.some.inj hq
   refine ret_tmp hf Try.results68 rfl ?_
   exact ⟨rfl, hm.below⟩
  ·
   replace hq := (ite_f h0_1).symm.trans hq
   have h0_3 := of_decide_eq_false h0_1
   refine cond_f hf rfl h0_1 ?_
   refine wp_skip ?_
   refine x_then_n ?_
   refine wp_seq ?_
   refine wp_seq ?_
   refine wp_region_lit ?_
   refine st_y hf rfl rfl rfl (y_assign rfl rfl) ?_
   clear hf a; intro a hf
   refine st_end ?_
   refine x_then_n ?_
   refine wp_block ?_
   obtain ⟨r0_1, hl0_3, hq⟩ := bnd hq
   refine wp_forN _ (fun i1_1 xs1_1 a w => Fr 27 [(0, (.slice p0_1 a_.length c0_1)), (1, (.slice p0_2 b_.length c0_2)), (5, (.int .i64 (i1_1)))] a ∧ Mem w0 (hp w0) w []) (0) ((a_.length : Int)) hl0_3 ?_ ?_ ?_
   ·
    exact ⟨hf.sub ⟨rfl, rfl, rfl, trivial⟩, hm.pick [] (by decide) rfl⟩
   ·
    clear hf hm
    rintro i1_1 xs1_1 a w ⟨hf, hm⟩ hi1_1 hi1_2 q0_1 hb0_1 ho0_1
    refine wp_seq ?_
    refine wp_seq ?_
    refine wp_region_lit ?_
    refine st_y hf rfl rfl rfl (y_move rfl rfl) ?_
    clear hf a; intro a hf
    refine st_y hf rfl rfl rfl (y_move rfl rfl) ?_
    clear hf a; intro a hf
    refine st_y hf rfl rfl rfl (y_len_slice st_38.und rfl rfl) ?_
    clear hf a; intro a hf
    refine st_y hf rfl rfl rfl (y_lss rfl rfl rfl) ?_
    clear hf a; intro a hf
    refine st_end ?_
    refine x_then_n ?_
    refine cond_t hf rfl (decide_eq_true (by omega)) ?_
    refine wp_skip ?_
    refine x_then_n ?_
    refine wp_seq ?_
    refine wp_block ?_
    refine wp_seq ?_
    refine wp_tree (.p 0 (.p 1 (.p 2 (.p 4 (.p 5 (.p 6 (.q 3 (.e 7 (.e 8 (.p 9 .fin) .nil) .nil)))))))) [7] [0, 1, 2, 4, 5, 6, 9] (fun w => Mem w0 (hp w0) w []) (by kernel_rfl) (by kernel_rfl) (fun _ _ _ h => h.2) ?_
    replace hm := hm.drew
    have hS : Mem w0 (hp w0) _ [] := hm.pick [] (by decide) rfl
    refine td_p hf rfl rfl rfl rfl (fun w => y_move rfl rfl) ?_
    clear hf a; intro a hf
    refine td_p hf rfl rfl rfl rfl (fun w => y_move rfl rfl) ?_
    clear hf a; intro a hf
    obtain ⟨x1_1, hx1_1, hb0_1⟩ := bnd hb0_1
    obtain ⟨h1_1, hx1_2⟩ := getI_some.1 hx1_1
    obtain ⟨b1_1, o1_1, c1_1, he⟩ := idx_form' h1 hx1_2
    simp only [Value.slice.injEq, Option.some.injEq] at he; obtain ⟨rfl, _, rfl⟩ := he
    obtain ⟨_, _, hc1_1, hr1_1⟩ := ro_get' h1 hx1_2
    obtain ⟨_, _, rfl, rfl, _, _, rfl, rfl, h1_2⟩ := hr1_1
    obtain ⟨v1_1, rfl, -⟩ := id h1_2
    replace h1_2 : GT.rep (hp w0) [v1_1] x1_1.blocks := h1_2
    replace hc1_1 : CellsAt (hp w0) b1_1 (o1_1 + (i1_1).toNat * 3) [(.int .i64 (x1_1.params)), (.int .i64 (x1_1.regs)), v1_1] := hc1_1
    refine td_p hf rfl rfl rfl rfl (fun w => y_indexAddr st_38 rfl rfl rfl h1_1 (idx_lt hx1_2)) ?_
    clear hf a; intro a hf
    refine td_p hf rfl rfl rfl rfl (fun w => y_move rfl rfl) ?_
    clear hf a; intro a hf
    refine td_p hf rfl rfl rfl rfl (fun w => y_move rfl rfl) ?_
    clear hf a; intro a hf
    obtain ⟨x1_2, hx1_3, hb0_1⟩ := bnd hb0_1
    obtain ⟨h1_3, hx1_4⟩ := getI_some.1 hx1_3
    obtain ⟨b1_2, o1_2, c1_2, he⟩ := idx_form' h2 hx1_4
    simp only [Value.slice.injEq, Option.some.injEq] at he; obtain ⟨rfl, _, rfl⟩ := he
    obtain ⟨_, _, hc1_2, hr1_2⟩ := ro_get' h2 hx1_4
    obtain ⟨_, _, rfl, rfl, _, _, rfl, rfl, h1_4⟩ := hr1_2
    obtain ⟨v1_2, rfl, -⟩ := id h1_4
    replace h1_4 : GT.rep (hp w0) [v1_2] x1_2.blocks := h1_4
    replace hc1_2 : CellsAt (hp w0) b1_2 (o1_2 + (i1_1).toNat * 3) [(.int .i64 (x1_2.params)), (.int .i64 (x1_2.regs)), v1_2] := hc1_2
    refine td_p hf rfl rfl rfl rfl (fun w => y_indexAddr st_38 rfl rfl rfl h1_3 (idx_lt hx1_4)) ?_
    clear hf a; intro a hf
    refine td_y hf rfl rfl rfl rfl hS (fun w hm => y_loadN (cs := [(.int .i64 (x1_1.params)), (.int .i64 (x1_1.regs)), v1_1]) Try.isAgg55 Try.sizeOf55 rfl rfl (hc1_1.mono hm.lez)) ?_
    clear hf a; intro a hf
    refine te_one ?_
    refine td_ef hf rfl rfl rfl rfl (ef_y hf (y_loadN (cs := [(.int .i64 (x1_2.params)), (.int .i64 (x1_2.regs)), v1_2]) Try.isAgg55 Try.sizeOf55 rfl rfl (hc1_2.mono hm.lez))) ?_
    clear hf a; rintro _ _ a ⟨rfl, rfl⟩ hf
    refine ⟨fun _ => hS, ?_⟩
    refine te_one ?_
    obtain ⟨r1_1, hx1_5, hb0_1⟩ := bnd hb0_1
    refine td_ef hf rfl rfl rfl rfl (e_call hf rfl Try.call96 rfl (laws_eqCode_ok _ x1_1 v1_1 (hm.now h1_2) x1_2 v1_2 (hm.now h1_4) _ hx1_5)) ?_
    clear hf a; rintro v1_3 w1_1 a ho1_1 hf
    obtain ⟨rfl, hB⟩ := ho1_1
    replace hm := hm.below' hB; clear hB
    refine ⟨fun h => absurd h (by decide), ?_⟩
    refine td_p hf rfl rfl rfl rfl (fun w => y_not rfl rfl) ?_
    clear hf a; intro a hf
    clear hS; refine td_end ?_
    refine x_then_n ?_
    rcases bcases (!(r1_1)) with h1_5 | h1_5
    ·
     replace hb0_1 := (ite_t h1_5).symm.trans hb0_1
     have h1_6 := bnot_t' h1_5
     refine cond_t hf rfl h1_5 ?_
     refine wp_seq ?_
     refine wp_region_lit ?_
     refine st_y hf rfl rfl rfl (y_assign rfl rfl) ?_
     clear hf a; intro a hf
     refine st_end ?_
     refine x_then_n ?_
     refine wp_ret ?_
     refine x_blk_ret ?_
     refine x_then_ret ?_
     refine x_then_ret ?_
     refine x_blk_ret ?_
     refine x_then_ret ?_
     obtain rfl := Option.some.inj hb0_1
     obtain rfl := ho0_1 _ rfl
     replace hq := sum_r hq
     obtain rfl := Option.some.inj hq
     refine ret_tmp hf Try.results68 rfl ?_
     exact ⟨rfl, hm.below⟩
    ·
     replace hb0_1 := (ite_f h1_5).symm.trans hb0_1
     have h1_7 := bnot_f' h1_5
     refine cond_f hf rfl h1_5 ?_
     refine wp_skip ?_
     refine x_blk_n ?_
     refine x_then_n ?_
     refine wp_region_lit ?_
     refine st_y hf rfl rfl rfl (y_move rfl rfl) ?_
     clear hf a; intro a hf
     refine st_y hf rfl rfl rfl (y_add64 rfl rfl rfl (by omega) (by omega)) ?_
     clear hf a; intro a hf
     refine st_y hf rfl rfl rfl (y_assign rfl rfl) ?_
     clear hf a; intro a hf
     refine st_end ?_
     refine x_then_n ?_
     obtain rfl := Option.some.inj hb0_1
     exact ⟨_, rfl, hf.sub ⟨rfl, rfl, rfl, trivial⟩, hm.pick [] (by decide) rfl⟩
   ·
    clear hf hm
    rintro i0_1 xs0_1 a w ⟨hf, hm⟩ hi0_1 hi0_2 rfl
    replace hq := sum_l hq
    refine wp_seq ?_
    refine wp_seq ?_
    refine wp_region_lit ?_
    refine st_y hf rfl rfl rfl (y_move rfl rfl) ?_
    clear hf a; intro a hf
    refine st_y hf rfl rfl rfl (y_move rfl rfl) ?_
    clear hf a; intro a hf
    refine st_y hf rfl rfl rfl (y_len_slice st_38.und rfl rfl) ?_
    clear hf a; intro a hf
    refine st_y hf rfl rfl rfl (y_lss rfl rfl rfl) ?_
    clear hf a; intro a hf
    refine st_end ?_
    refine x_then_n ?_
    refine cond_f hf rfl (decide_eq_false (by omega)) ?_
    refine wp_exit ?_
    refine x_then_exit ?_
    refine x_then_exit ?_
    refine x_blk_hit ?_
    refine x_then_n ?_
    refine wp_seq ?_
    refine wp_region_lit ?_
    refine st_y hf rfl rfl rfl (y_assign rfl rfl) ?_
    clear hf a; intro a hf
    refine st_end ?_
    refine x_then_n ?_
    refine wp_ret ?_
    obtain rfl := Option.some.inj hq
    refine ret_tmp hf Try.results68 rfl ?_
    exact ⟨rfl, hm.below⟩

theorem laws_eqUnit_ok (w0 : World) (a_ : Unit_) (v1 : Value) (h1 : GT.rep (hp w0) [v1] a_.codes) (b_ : Unit_) (v2 : Value) (h2 : GT.rep (hp w0) [v2] b_.codes) (r : Bool) (hq : laws_eqUnit a_ b_ = some r) :
    Con Try.prog 35 [(.agg #[v1]), (.agg #[v2])] w0 (fun v w' => v = (.bool (r)) ∧ Below w0.heap.size w0 w') := by
  unfold laws_eqUnit at hq
  refine con_body (l := [(0, (.agg #[v1])), (1, (.agg #[v2]))]) Try.func35 rfl Try.ntmps35 (Args.get ⟨rfl, rfl, trivial⟩) rfl ?_
  intro a hf
  have hm := Mem.start w0
  refine wp_seq ?_
  refine wp_region_lit ?_
  refine st_ef hf rfl rfl rfl (e_box hf hm rfl rfl rfl) ?_
  clear hf a; rintro _ w0_1 a ⟨b0_1, rfl, hm⟩ hf
  refine st_ef hf rfl rfl rfl (e_box hf hm rfl rfl rfl) ?_
  clear hf a; rintro _ w0_2 a ⟨b0_2, rfl, hm⟩ hf
  refine st_y hf rfl rfl rfl (y_assign rfl rfl) ?_
  clear hf a; intro a hf
  refine st_end ?_
  refine x_then_n ?_
  refine wp_seq ?_
  refine wp_seq ?_
  refine wp_region_lit ?_
  refine st_y hf rfl rfl rfl (y_fieldAddr fo_40_0 rfl rfl) ?_
  clear hf a; intro a hf
  refine st_y hf rfl rfl rfl (y_load1 Try.isAgg38 rfl rfl (hm.blk_cell 1 rfl rfl)) ?_
  clear hf a; intro a hf
  refine st_y hf rfl rfl rfl (y_fieldAddr fo_40_0 rfl rfl) ?_
  clear hf a; intro a hf
  refine st_y hf rfl rfl rfl (y_load1 Try.isAgg38 rfl rfl (hm.blk_cell 0 rfl rfl)) ?_
  clear hf a; intro a hf
  obtain ⟨r0_1, hx0_1, hq⟩ := bnd hq
  refine st_ef hf rfl rfl rfl (e_call hf rfl Try.call68 rfl (laws_eqCodeS_ok _ a_.codes v1 (hm.now h1) b_.codes v2 (hm.now h2) _ hx0_1)) ?_
  clear hf a; rintro v0_1 w0_3 a ho0_1 hf
  obtain ⟨rfl, hB⟩ := ho0_1
  replace hm := hm.below' hB; clear hB
  refine st_y hf rfl rfl rfl (y_not rfl rfl) ?_
  clear hf a; intro a hf
  refine st_end ?_
  refine x_then_n ?_
  rcases bcases (!(r0_1)) with h0_1 | h0_1
  ·
   replace hq := (ite_t h0_1).symm.trans hq
   have h0_2 := bnot_t' h0_1
   refine cond_t hf rfl h0_1 ?_
   refine wp_seq ?_
   refine wp_region_lit ?_
   refine st_y hf rfl rfl rfl (y_assign rfl rfl) ?_
   clear hf a; intro a hf
   refine st_end ?_
   refine x_then_n ?_
   refine wp_ret ?_
   refine x_then_ret ?_
   obtain rfl := Option.some.inj hq
   refine ret_tmp hf Try.results35 rfl ?_
   exact ⟨rfl, hm.below⟩
  ·
   replace hq := (ite_f h0_1).symm.trans hq
   have h0_3 := bnot_f' h0_1
   refine cond_f hf rfl h0_1 ?_
   refine wp_skip ?_
   refine x_then_n ?_
   refine wp_seq ?_
   refine wp_region_lit ?_
   refine st_y hf rfl rfl rfl (y_assign rfl rfl) ?_
   clear hf a; intro a hf
   refine st_end ?_
   refine x_then_n ?_
   refine wp_ret ?_
   obtain rfl := Option.some.inj hq
   refine ret_tmp hf Try.results35 rfl ?_
   exact ⟨rfl, hm.below⟩

theorem laws_FnExactStepsOf_ok (w0 : World) (aU : Unit_) (v1 : Value) (h1 : GT.rep (hp w0) [v1] aU.codes) (aIn : List Int) (v2 : Value) (h2 : GT.rep (hp w0) [v2] aIn) (r : Bool) (hq : laws_FnExactStepsOf aU aIn = some r) :
    Con Try.prog 8 [(.agg #[v1]), v2] w0 (fun v w' => v = (.bool (r)) ∧ Below w0.heap.size w0 w') := by
  unfold laws_FnExactStepsOf at hq
  refine con_body (l := [(0, (.agg #[v1])), (1, v2)]) Try.func8 rfl Try.ntmps8 (Args.get ⟨rfl, rfl, trivial⟩) rfl ?_
  intro a hf
  have hm := Mem.start w0
  refine wp_seq ?_
  refine wp_region_lit ?_
  refine st_ef hf rfl rfl rfl (e_box hf hm rfl rfl rfl) ?_
  clear hf a; rintro _ w0_1 a ⟨b0_1, rfl, hm⟩ hf
  refine st_y hf rfl rfl rfl (y_assign rfl rfl) ?_
  clear hf a; intro a hf
  refine st_end ?_
  refine x_then_n ?_
  refine wp_seq ?_
  refine wp_seq ?_
  refine wp_region_lit ?_
  refine st_y hf rfl rfl rfl (y_move rfl rfl) ?_
  clear hf a; intro a hf
  obtain ⟨p0_1, c0_1, he, hl0_1⟩ := ro_slice h2
  subst he
  refine st_y hf rfl rfl rfl (y_len_slice st_26.und rfl rfl) ?_
  clear hf a; intro a hf
  refine st_y hf rfl rfl rfl (y_gtr rfl rfl rfl) ?_
  clear hf a; intro a hf
  refine st_end ?_
  refine x_then_n ?_
  rcases bcases (decide (1048576 < ((aIn.length : Int)))) with h0_1 | h0_1
  ·
   replace hq := (ite_t h0_1).symm.trans hq
   have h0_2 := of_decide_eq_true h0_1
   refine cond_t hf rfl h0_1 ?_
   refine wp_seq ?_
   refine wp_region_lit ?_
   refine st_y hf rfl rfl rfl (y_assign rfl rfl) ?_
   clear hf a; intro a hf
   refine st_end ?_
   refine x_then_n ?_
   refine wp_ret ?_
   refine x_then_ret ?_
   obtain rfl := Option.some.inj hq
   refine ret_tmp hf Try.results8 rfl ?_
   exact ⟨rfl, hm.below⟩
  ·
   replace hq := (ite_f h0_1).symm.trans hq
   have h0_3 := of_decide_eq_false h0_1
   refine cond_f hf rfl h0_1 ?_
   refine wp_skip ?_
   refine x_then_n ?_
   refine wp_seq ?_
   refine wp_region_lit ?_
   refine st_y hf rfl rfl rfl (y_assign rfl rfl) ?_
   clear hf a; intro a hf
   refine st_end ?_
   refine x_then_n ?_
   refine wp_seq ?_
   refine wp_region_lit ?_
   refine st_y hf rfl rfl rfl (y_loadN (cs := [v1]) Try.isAgg69 Try.sizeOf69 rfl rfl (hm.blk_at 0 rfl)) ?_
   clear hf a; intro a hf
   refine st_y hf rfl rfl rfl (y_move rfl rfl) ?_
   clear hf a; intro a hf
   obtain ⟨r0_1, hx0_1, hq⟩ := bnd hq
   refine st_ef hf rfl rfl rfl (e_call hf rfl Try.call32 rfl (laws_szUnit_ok _ aU v1 (hm.now h1) 1048576 _ hx0_1)) ?_
   clear hf a; rintro v0_1 w0_2 a ho0_1 hf
   obtain ⟨rfl, hB⟩ := ho0_1
   replace hm := hm.below' hB; clear hB
   refine st_y hf rfl rfl rfl (y_assign rfl rfl) ?_
   clear hf a; intro a hf
   refine st_end ?_
   refine x_then_n ?_
   refine wp_seq ?_
   refine wp_seq ?_
   refine wp_region_lit ?_
   refine st_y hf rfl rfl rfl (y_move rfl rfl) ?_
   clear hf a; intro a hf
   refine st_y hf rfl rfl rfl (y_lss rfl rfl rfl) ?_
   clear hf a; intro a hf
   refine st_end ?_
   refine x_then_n ?_
   rcases bcases (decide (r0_1 < 0)) with h0_4 | h0_4
   ·
    replace hq := (ite_t h0_4).symm.trans hq
    have h0_5 := of_decide_eq_true h0_4
    refine cond_t hf rfl h0_4 ?_
    refine wp_seq ?_
    refine wp_region_lit ?_
    refine st_y hf rfl rfl rfl (y_assign rfl rfl) ?_
    clear hf a; intro a hf
    refine st_end ?_
    refine x_then_n ?_
    refine wp_ret ?_
    refine x_then_ret ?_
    obtain rfl := Option.some.inj hq
    refine ret_tmp hf Try.results8 rfl ?_
    exact ⟨rfl, hm.below⟩
   ·
    replace hq := (ite_f h0_4).symm.trans hq
    have h0_6 := of_decide_eq_false h0_4
    refine cond_f hf rfl h0_4 ?_
    refine wp_skip ?_
    refine x_then_n ?_
    refine wp_seq ?_
    refine wp_region_lit ?_
    refine st_y hf rfl rfl rfl (y_loadN (cs := [v1]) Try.isAgg69 Try.sizeOf69 rfl rfl (hm.blk_at 0 rfl)) ?_
    clear hf a; intro a hf
    obtain ⟨r0_2, hx0_2, hq⟩ := bnd hq
    refine st_ef hf rfl rfl rfl (e_call hf rfl Try.call33 rfl (laws_toUnit_ok _ aU v1 (hm.now h1) _ hx0_2)) ?_
    clear hf a; rintro v0_2 w0_3 a ho0_2 hf
    obtain ⟨v0_3, rfl, hB⟩ := ho0_2
    replace hm := hm.give hB; clear hB
    refine st_y hf rfl rfl rfl (y_move rfl rfl) ?_
    clear hf a; intro a hf
    obtain ⟨r0_3, hx0_3, hq⟩ := bnd hq
    refine st_ef hf rfl rfl rfl (e_call hf rfl Try.call34 rfl (laws_toIntS_ok _ aIn (.slice p0_1 aIn.length c0_1) (hm.now h2) _ hx0_3)) ?_
    clear hf a; rintro v0_4 w0_4 a ho0_3 hf
    obtain ⟨_, rfl, hB⟩ := ho0_3
    replace hm := hm.give hB; clear hB
    obtain ⟨r0_4, hx0_4, hq⟩ := bnd hq
    refine st_ef hf rfl rfl rfl (e_call hf rfl Try.call26 rfl (spec_StepsOf_ok _ r0_2 v0_3 (hm.ow_rep 1 rfl) r0_3 v0_4 (hm.ow_rep 0 rfl) _ hx0_4)) ?_
    clear hf a; rintro v0_6 w0_5 a ho0_4 hf
    obtain ⟨rfl, hB⟩ := ho0_4
    replace hm := hm.below' hB; clear hB
    refine st_y hf rfl rfl rfl (y_assign rfl rfl) ?_
    clear hf a; intro a hf
    refine st_end ?_
    refine x_then_n ?_
    refine wp_seq ?_
    refine wp_region_lit ?_
    refine st_y hf rfl rfl rfl (y_loadN (cs := [v1]) Try.isAgg69 Try.sizeOf69 rfl rfl (hm.blk_at 2 rfl)) ?_
    clear hf a; intro a hf
    obtain ⟨r0_5, hx0_5, hq⟩ := bnd hq
    refine st_ef hf rfl rfl rfl (e_call hf rfl Try.call33 rfl (laws_toUnit_ok _ aU v1 (hm.now h1) _ hx0_5)) ?_
    clear hf a; rintro v0_7 w0_6 a ho0_5 hf
    obtain ⟨v0_8, rfl, hB⟩ := ho0_5
    replace hm := hm.give hB; clear hB
    refine st_ef hf rfl rfl rfl (e_alloc hm Try.zeroValue40 rfl rfl) ?_
    clear hf a; rintro _ w0_7 a ⟨b0_2, rfl, hm⟩ hf
    refine st_ef0 hf rfl rfl (e_storeN 0 hf hm rfl Try.sizeOf40 rfl rfl rfl (one_cons (rep_one (hm.ow_rep 1 rfl)) one_nil) rfl rfl) ?_
    clear hf a; rintro _ w0_8 a hm hf
    refine st_end ?_
    refine x_then_n ?_
    refine wp_seq ?_
    refine wp_region_lit ?_
    refine st_y hf rfl rfl rfl (y_move rfl rfl) ?_
    clear hf a; intro a hf
    obtain ⟨r0_6, hx0_6, hq⟩ := bnd hq
    refine st_ef hf rfl rfl rfl (e_call hf rfl Try.call34 rfl (laws_toIntS_ok _ aIn (.slice p0_1 aIn.length c0_1) (hm.now h2) _ hx0_6)) ?_
    clear hf a; rintro v0_9 w0_9 a ho0_6 hf
    obtain ⟨_, rfl, hB⟩ := ho0_6
    replace hm := hm.give hB; clear hB
    refine st_y hf rfl rfl rfl (y_assign rfl rfl) ?_
    clear hf a; intro a hf
    refine st_end ?_
    refine x_then_n ?_
    refine wp_seq ?_
    refine wp_region_lit ?_
    refine st_y hf rfl rfl rfl (y_loadN (cs := [v0_8]) Try.isAgg40 Try.sizeOf40 rfl rfl (hm.blk_at 1 rfl)) ?_
    clear hf a; intro a hf
    refine st_y hf rfl rfl rfl (y_move rfl rfl) ?_
    clear hf a; intro a hf
    obtain ⟨r0_7, hx0_7, hq⟩ := bnd hq
    refine st_ef hf rfl rfl rfl (e_call hf rfl Try.call25 rfl (impl_StepsOf_ok _ r0_5 v0_8 (hm.ow_rep 2 rfl) r0_6 v0_9 (hm.ow_rep 0 rfl) _ hx0_7)) ?_
    clear hf a; rintro v0_11 w0_10 a ho0_7 hf
    obtain ⟨rfl, hB⟩ := ho0_7
    replace hm := hm.below' hB; clear hB
    refine st_y hf rfl rfl rfl (y_assign rfl rfl) ?_
    clear hf a; intro a hf
    refine st_end ?_
    refine x_then_n ?_
    refine wp_seq ?_
    refine wp_seq ?_
    refine wp_region_lit ?_
    refine st_y hf rfl rfl rfl (y_move rfl rfl) ?_
    clear hf a; intro a hf
    refine st_y hf rfl rfl rfl (y_move rfl rfl) ?_
    clear hf a; intro a hf
    refine st_y hf rfl rfl rfl (y_neq rfl rfl rfl) ?_
    clear hf a; intro a hf
    refine st_end ?_
    refine x_then_n ?_
    rcases bcases (decide (r0_7 ≠ r0_4)) with h0_7 | h0_7
    ·
     replace hq := (ite_t h0_7).symm.trans hq
     have h0_8 := of_decide_eq_true h0_7
     refine cond_t hf rfl h0_7 ?_
     refine wp_seq ?_
     refine wp_region_lit ?_
     refine st_y hf rfl rfl rfl (y_assign rfl rfl) ?_
     clear hf a; intro a hf
     refine st_end ?_
     refine x_then_n ?_
     refine wp_ret ?_
     refine x_then_ret ?_
     obtain rfl := Option.some.inj hq
     refine ret_tmp hf Try.results8 rfl ?_
     exact ⟨rfl, hm.below⟩
    ·
     replace hq := (ite_f h0_7).symm.trans hq
     have h0_9 := of_decide_eq_false h0_7
     refine cond_f hf rfl h0_7 ?_
     refine wp_skip ?_
     refine x_then_n ?_
     refine wp_seq ?_
     refine wp_seq ?_
     refine wp_tree (.q 0 (.e 1 (.e 2 (.e 3 (.p 4 .fin) .nil) .nil) .nil)) [1, 2] [4] (fun w => Mem w0 (hp w0) w [ow [v0_9] r0_6, blk b0_2 [v0_8] 40, ow [v0_8] r0_5.codes, ow [v0_4] r0_3, ow [v0_3] r0_2.codes, blk b0_1 [v1] 69]) (by kernel_rfl) (by kernel_rfl) (fun _ _ _ h => h.2) ?_
     replace hm := hm.drew
     have hS : Mem w0 (hp w0) _ [ow [v0_9] r0_6, blk b0_2 [v0_8] 40, ow [v0_8] r0_5.codes, ow [v0_4] r0_3, ow [v0_3] r0_2.codes, blk b0_1 [v1] 69] := hm.pick [0, 1, 2, 3, 4, 5] (by decide) rfl
     refine td_y hf rfl rfl rfl rfl hS (fun w hm => y_loadN (cs := [v0_8]) Try.isAgg40 Try.sizeOf40 rfl rfl (hm.blk_at 1 rfl)) ?_
     clear hf a; intro a hf
     refine te_one ?_
     refine td_ef hf rfl rfl rfl rfl (ef_y hf (y_loadN (cs := [v1]) Try.isAgg69 Try.sizeOf69 rfl rfl (hm.blk_at 5 rfl))) ?_
     clear hf a; rintro _ _ a ⟨rfl, rfl⟩ hf
     refine ⟨fun _ => hS, ?_⟩
     refine te_one ?_
     obtain ⟨r0_8, hx0_8, hq⟩ := bnd hq
     refine td_ef hf rfl rfl rfl rfl (e_call hf rfl Try.call33 rfl (laws_toUnit_ok _ aU v1 (hm.now h1) _ hx0_8)) ?_
     clear hf a; rintro v0_12 w0_11 a ho0_8 hf
     obtain ⟨v0_13, rfl, hB⟩ := ho0_8
     replace hm := hm.give hB; clear hB
     clear hS
     have hS : Mem w0 (hp w0) _ [ow [v0_9] r0_6, blk b0_2 [v0_8] 40, ow [v0_8] r0_5.codes, ow [v0_4] r0_3, ow [v0_3] r0_2.codes, blk b0_1 [v1] 69] := hm.pick [1, 2, 3, 4, 5, 6] (by decide) rfl
     refine ⟨fun _ => hS, ?_⟩
     refine te_one ?_
     obtain ⟨r0_9, hx0_9, hq⟩ := bnd hq
     refine td_ef hf rfl rfl rfl rfl (e_call hf rfl Try.call35 rfl (laws_eqUnit_ok _ r0_5 v0_8 (hm.ow_rep 3 rfl) r0_8 v0_13 (hm.ow_rep 0 rfl) _ hx0_9)) ?_
     clear hf a; rintro v0_14 w0_12 a ho0_9 hf
     obtain ⟨rfl, hB⟩ := ho0_9
     replace hm := hm.below' hB; clear hB
     refine ⟨fun h => absurd h (by decide), ?_⟩
     refine td_p hf rfl rfl rfl rfl (fun w => y_not rfl rfl) ?_
     clear hf a; intro a hf
     clear hS; refine td_end ?_
     refine x_then_n ?_
     rcases bcases (!(r0_9)) with h0_10 | h0_10
     ·
      replace hq := (ite_t h0_10).symm.trans hq
      have h0_11 := bnot_t' h0_10
      refine cond_t hf rfl h0_10 ?_
      refine wp_seq ?_
      refine wp_region_lit ?_
      refine st_y hf rfl rfl rfl (y_assign rfl rfl) ?_
      clear hf a; intro a hf
      refine st_end ?_
      refine x_then_n ?_
      refine wp_ret ?_
      refine x_then_ret ?_
      obtain rfl := Option.some.inj hq
      refine ret_tmp hf Try.results8 rfl ?_
      exact ⟨rfl, hm.below⟩
     ·
      replace hq := (ite_f h0_10).symm.trans hq
      have h0_12 := bnot_f' h0_10
      refine cond_f hf rfl h0_10 ?_
      refine wp_skip ?_
      refine x_then_n ?_
      refine wp_seq ?_
      refine wp_seq ?_
      refine wp_region_lit ?_
      refine st_y hf rfl rfl rfl (y_move rfl rfl) ?_
      clear hf a; intro a hf
      refine st_y hf rfl rfl rfl (y_move rfl rfl) ?_
      clear hf a; intro a hf
      obtain ⟨r0_10, hx0_10, hq⟩ := bnd hq
      refine st_ef hf rfl rfl rfl (e_call hf rfl Try.call34 rfl (laws_toIntS_ok _ aIn (.slice p0_1 aIn.length c0_1) (hm.now h2) _ hx0_10)) ?_
      clear hf a; rintro v0_15 w0_13 a ho0_10 hf
      obtain ⟨_, rfl, hB⟩ := ho0_10
      replace hm := hm.give hB; clear hB
      obtain ⟨r0_11, hx0_11, hq⟩ := bnd hq
      refine st_ef hf rfl rfl rfl (e_call hf rfl Try.call13 rfl (laws_eqIntS_ok _ r0_6 v0_9 (hm.ow_rep 2 rfl) r0_10 v0_15 (hm.ow_rep 0 rfl) _ hx0_11)) ?_
      clear hf a; rintro v0_17 w0_14 a ho0_11 hf
      obtain ⟨rfl, hB⟩ := ho0_11
      replace hm := hm.below' hB; clear hB
      refine st_y hf rfl rfl rfl (y_not rfl rfl) ?_
      clear hf a; intro a hf
      refine st_end ?_
      refine x_then_n ?_
      rcases bcases (!(r0_11)) with h0_13 | h0_13
      ·
       replace hq := (ite_t h0_13).symm.trans hq
       have h0_14 := bnot_t' h0_13
       refine cond_t hf rfl h0_13 ?_
       refine wp_seq ?_
       refine wp_region_lit ?_
       refine st_y hf rfl rfl rfl (y_assign rfl rfl) ?_
       clear hf a; intro a hf
       refine st_end ?_
       refine x_then_n ?_
       refine wp_ret ?_
       refine x_then_ret ?_
       obtain rfl := Option.some.inj hq
       refine ret_tmp hf Try.results8 rfl ?_
       exact ⟨rfl, hm.below⟩
      ·
       replace hq := (ite_f h0_13).symm.trans hq
       have h0_15 := bnot_f' h0_13
       refine cond_f hf rfl h0_13 ?_
       refine wp_skip ?_
       refine x_then_n ?_
       refine wp_seq ?_
       refine wp_region_lit ?_
       refine st_y hf rfl rfl rfl (y_assign rfl rfl) ?_
       clear hf a; intro a hf
       refine st_end ?_
       refine x_then_n ?_
       refine wp_ret ?_
       obtain rfl := Option.some.inj hq
       refine ret_tmp hf Try.results8 rfl ?_
       exact ⟨rfl, hm.below⟩

end Go.Proofs.Ytjbcoilagfdidaa
