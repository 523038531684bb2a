/- A part of the proof of FnExactEncodeMinsCardSaid. -/
import Derived.Test.YtmhjfaoefcdelaaDoorEmModels
import Derived.Test.YtmhjfaoefcdelaaDoorChecked
namespace Go.Proofs.YtmhjfaoefcdelaaDoor
open Go Go.Wk Go.RowKit
set_option maxRecDepth 4000

theorem fo_23_0 : FieldOff Tryd.prog 23 0 0 := by have h := FieldOff.mk (k := 0) Tryd.underlying23 rfl Tryd.sizeOf3; exact h
theorem fo_23_1 : FieldOff Tryd.prog 23 1 1 := by have h := FieldOff.mk (k := 1) Tryd.underlying23 rfl Tryd.sizeOf3; exact h
theorem fo_23_2 : FieldOff Tryd.prog 23 2 2 := by have h := FieldOff.mk (k := 2) Tryd.underlying23 rfl Tryd.sizeOf3; exact h
theorem fo_23_3 : FieldOff Tryd.prog 23 3 3 := by have h := FieldOff.mk (k := 3) Tryd.underlying23 rfl Tryd.sizeOf3; exact h
theorem fo_23_4 : FieldOff Tryd.prog 23 4 4 := by have h := FieldOff.mk (k := 4) Tryd.underlying23 rfl Tryd.sizeOf3; exact h
theorem fo_27_0 : FieldOff Tryd.prog 27 0 0 := by have h := FieldOff.mk (k := 0) Tryd.underlying27 rfl Tryd.sizeOf3; exact h
theorem fo_27_1 : FieldOff Tryd.prog 27 1 1 := by have h := FieldOff.mk (k := 1) Tryd.underlying27 rfl Tryd.sizeOf3; exact h
theorem fo_27_2 : FieldOff Tryd.prog 27 2 2 := by have h := FieldOff.mk (k := 2) Tryd.underlying27 rfl Tryd.sizeOf3; exact h
theorem fo_27_3 : FieldOff Tryd.prog 27 3 3 := by have h := FieldOff.mk (k := 3) Tryd.underlying27 rfl Tryd.sizeOf3; exact h
theorem fo_27_4 : FieldOff Tryd.prog 27 4 4 := by have h := FieldOff.mk (k := 4) Tryd.underlying27 rfl Tryd.sizeOf3; exact h
theorem fo_62_1 : FieldOff Tryd.prog 62 1 1 := by have h := FieldOff.mk (k := 1) Tryd.underlying62 rfl Tryd.sizeOf3; exact h
theorem st_24 : SliceTy Tryd.prog 24 5 1 := ⟨Tryd.underlying24, Tryd.sizeOf5⟩
theorem st_89 : SliceTy Tryd.prog 89 9 1 := ⟨Tryd.underlying89, Tryd.sizeOf9⟩
theorem et_24 : ElemTy Tryd.prog 24 5 1 (.int .u8 (((0 : UInt8)).toNat : Int)) := ⟨Tryd.underlying24, ⟨_, (by kernel_rfl : Tryd.prog.info? 5 = some Tryd.t5), rfl, by decide, rfl⟩, rfl, by decide⟩
theorem et_89 : ElemTy Tryd.prog 89 9 1 (.string ⟨((mkS [])).b.toArray⟩) := ⟨Tryd.underlying89, ⟨_, (by kernel_rfl : Tryd.prog.info? 9 = some Tryd.t9), rfl, by decide, rfl⟩, rfl, by decide⟩

theorem laws_toMins_ok (w0 : World) (a_ : Mins) (r : Mins) (hq : laws_toMins a_ = some r) :
    Con Tryd.prog 11 [(.agg #[(.int .i64 (a_.op)), (.int .i64 (a_.a_)), (.int .i64 (a_.b)), (.int .i64 (a_.c)), (.int .i64 (a_.n_))])] w0 (fun v w' => v = (.agg #[(.int .i64 (r.op)), (.int .i64 (r.a_)), (.int .i64 (r.b)), (.int .i64 (r.c)), (.int .i64 (r.n_))]) ∧ Below w0.heap.size w0 w') := by
  unfold laws_toMins at hq
  refine con_body (l := [(0, (.agg #[(.int .i64 (a_.op)), (.int .i64 (a_.a_)), (.int .i64 (a_.b)), (.int .i64 (a_.c)), (.int .i64 (a_.n_))]))]) Tryd.func11 rfl Tryd.ntmps11 (Args.get ⟨rfl, trivial⟩) rfl ?_
  intro a hf
  have hm := Mem.start w0
  refine wp_seq ?_
  refine wp_region_lit ?_
  refine st_ef hf rfl rfl rfl (e_box hf hm rfl rfl rfl) ?_
  clear hf a; rintro _ w0_1 a ⟨b0_1, rfl, hm⟩ hf
  refine st_ef hf rfl rfl rfl (e_alloc hm Tryd.zeroValue27 rfl rfl) ?_
  clear hf a; rintro _ w0_2 a ⟨b0_2, rfl, hm⟩ hf
  refine st_end ?_
  refine x_then_n ?_
  refine wp_seq ?_
  refine wp_region_lit ?_
  refine st_ef hf rfl rfl rfl (e_alloc hm Tryd.zeroValue27 rfl rfl) ?_
  clear hf a; rintro _ w0_3 a ⟨b0_3, rfl, hm⟩ hf
  refine st_end ?_
  refine x_then_n ?_
  refine wp_seq ?_
  refine wp_region_lit ?_
  refine st_y hf rfl rfl rfl (y_fieldAddr fo_23_0 rfl rfl) ?_
  clear hf a; intro a hf
  refine st_y hf rfl rfl rfl (y_load1 Tryd.isAgg3 rfl rfl (hm.blk_cell 2 rfl rfl)) ?_
  clear hf a; intro a hf
  refine st_y hf rfl rfl rfl (y_fieldAddr fo_27_0 rfl rfl) ?_
  clear hf a; intro a hf
  refine st_ef0 hf rfl rfl (e_store1 0 hf hm rfl Tryd.sizeOf3 rfl rfl rfl rfl rfl) ?_
  clear hf a; rintro _ w0_4 a hm hf
  refine st_end ?_
  refine x_then_n ?_
  refine wp_seq ?_
  refine wp_region_lit ?_
  refine st_y hf rfl rfl rfl (y_fieldAddr fo_23_1 rfl rfl) ?_
  clear hf a; intro a hf
  refine st_y hf rfl rfl rfl (y_load1 Tryd.isAgg3 rfl rfl (hm.blk_cell 2 rfl rfl)) ?_
  clear hf a; intro a hf
  refine st_y hf rfl rfl rfl (y_fieldAddr fo_27_1 rfl rfl) ?_
  clear hf a; intro a hf
  refine st_ef0 hf rfl rfl (e_store1 0 hf hm rfl Tryd.sizeOf3 rfl rfl rfl rfl rfl) ?_
  clear hf a; rintro _ w0_5 a hm hf
  refine st_end ?_
  refine x_then_n ?_
  refine wp_seq ?_
  refine wp_region_lit ?_
  refine st_y hf rfl rfl rfl (y_fieldAddr fo_23_2 rfl rfl) ?_
  clear hf a; intro a hf
  refine st_y hf rfl rfl rfl (y_load1 Tryd.isAgg3 rfl rfl (hm.blk_cell 2 rfl rfl)) ?_
  clear hf a; intro a hf
  refine st_y hf rfl rfl rfl (y_fieldAddr fo_27_2 rfl rfl) ?_
  clear hf a; intro a hf
  refine st_ef0 hf rfl rfl (e_store1 0 hf hm rfl Tryd.sizeOf3 rfl rfl rfl rfl rfl) ?_
  clear hf a; rintro _ w0_6 a hm hf
  refine st_end ?_
  refine x_then_n ?_
  refine wp_seq ?_
  refine wp_region_lit ?_
  refine st_y hf rfl rfl rfl (y_fieldAddr fo_23_3 rfl rfl) ?_
  clear hf a; intro a hf
  refine st_y hf rfl rfl rfl (y_load1 Tryd.isAgg3 rfl rfl (hm.blk_cell 2 rfl rfl)) ?_
  clear hf a; intro a hf
  refine st_y hf rfl rfl rfl (y_fieldAddr fo_27_3 rfl rfl) ?_
  clear hf a; intro a hf
  refine st_ef0 hf rfl rfl (e_store1 0 hf hm rfl Tryd.sizeOf3 rfl rfl rfl rfl rfl) ?_
  clear hf a; rintro _ w0_7 a hm hf
  refine st_end ?_
  refine x_then_n ?_
  refine wp_seq ?_
  refine wp_region_lit ?_
  refine st_y hf rfl rfl rfl (y_fieldAddr fo_23_4 rfl rfl) ?_
  clear hf a; intro a hf
  refine st_y hf rfl rfl rfl (y_load1 Tryd.isAgg3 rfl rfl (hm.blk_cell 2 rfl rfl)) ?_
  clear hf a; intro a hf
  refine st_y hf rfl rfl rfl (y_fieldAddr fo_27_4 rfl rfl) ?_
  clear hf a; intro a hf
  refine st_ef0 hf rfl rfl (e_store1 0 hf hm rfl Tryd.sizeOf3 rfl rfl rfl rfl rfl) ?_
  clear hf a; rintro _ w0_8 a hm hf
  refine st_end ?_
  refine x_then_n ?_
  refine wp_seq ?_
  refine wp_region_lit ?_
  refine st_y hf rfl rfl rfl (y_loadN (cs := [(.int .i64 (a_.op)), (.int .i64 (a_.a_)), (.int .i64 (a_.b)), (.int .i64 (a_.c)), (.int .i64 (a_.n_))]) Tryd.isAgg27 Tryd.sizeOf27 rfl rfl (hm.blk_at 0 rfl)) ?_
  clear hf a; intro a hf
  refine st_ef0 hf rfl rfl (e_storeN 1 hf hm rfl Tryd.sizeOf27 rfl rfl rfl (one_cons rfl (one_cons rfl (one_cons rfl (one_cons rfl (one_cons rfl one_nil))))) rfl rfl) ?_
  clear hf a; rintro _ w0_9 a hm hf
  refine st_end ?_
  refine x_then_n ?_
  refine wp_ret ?_
  obtain rfl := Option.some.inj hq
  refine ret_cell 1 hf Tryd.results11 hm rfl rfl Tryd.isAgg27 Tryd.sizeOf27 ?_
  exact ⟨rfl, hm.below⟩

theorem spec_l1In_ok (w0 : World) (n_ : Int) (low : Int) (high : Int) (r : Bool) (hq : spec_l1In n_ low high = some r) :
    Con Tryd.prog 39 [(.int .i64 (n_)), (.int .i64 (low)), (.int .i64 (high))] w0 (fun v w' => v = (.bool (r)) ∧ Below w0.heap.size w0 w') := by
  unfold spec_l1In at hq
  refine con_body (l := [(0, (.int .i64 (n_))), (1, (.int .i64 (low))), (2, (.int .i64 (high)))]) Tryd.func39 rfl Tryd.ntmps39 (Args.get ⟨rfl, rfl, rfl, trivial⟩) rfl ?_
  intro a hf
  have hm := Mem.start w0
  refine wp_seq ?_
  refine wp_region_lit ?_
  refine st_y hf rfl rfl rfl (y_assign rfl rfl) ?_
  clear hf a; intro a hf
  refine st_end ?_
  refine x_then_n ?_
  refine wp_seq ?_
  obtain ⟨s0_1, hq0_1, hq⟩ := bnd hq
  refine code_cut (K := fun a w => Fr 15 [(6, (.bool (s0_1)))] a ∧ Mem w0 (hp w0) w []) ?_ ?_
  ·
    refine wp_region_lit ?_
    refine st_y hf rfl rfl rfl (y_move rfl rfl) ?_
    clear hf a; intro a hf
    refine st_y hf rfl rfl rfl (y_move rfl rfl) ?_
    clear hf a; intro a hf
    refine st_y hf rfl rfl rfl (y_geq rfl rfl rfl) ?_
    clear hf a; intro a hf
    refine st_y hf rfl rfl rfl (y_move rfl rfl) ?_
    clear hf a; intro a hf
    rcases bcases (decide (low ≤ n_)) with h1_1 | h1_1
    ·
      replace hq0_1 := (ite_t h1_1).symm.trans hq0_1
      have h1_2 := of_decide_eq_true h1_1
      refine st_yg hf rfl rfl (lk_b rfl h1_1) rfl rfl (y_move rfl rfl) ?_
      clear hf a; intro a hf
      refine st_yg hf rfl rfl (lk_b rfl h1_1) rfl rfl (y_move rfl rfl) ?_
      clear hf a; intro a hf
      refine st_yg hf rfl rfl (lk_b rfl h1_1) rfl rfl (y_leq rfl rfl rfl) ?_
      clear hf a; intro a hf
      refine st_y hf rfl rfl rfl (y_pick_t rfl (ev_b rfl h1_1) rfl) ?_
      clear hf a; intro a hf
      refine st_y hf rfl rfl rfl (y_assign rfl rfl) ?_
      clear hf a; intro a hf
      refine st_end ?_
      refine x_then_n ?_
      obtain rfl := Option.some.inj hq0_1
      exact ⟨hf.sub ⟨rfl, trivial⟩, hm.pick [] (by decide) rfl⟩
    ·
      replace hq0_1 := (ite_f h1_1).symm.trans hq0_1
      have h1_3 := of_decide_eq_false h1_1
      refine st_no hf rfl rfl (lk_b rfl h1_1) rfl rfl rfl ?_
      clear hf a; intro a hf
      refine st_no hf rfl rfl (lk_b rfl h1_1) rfl rfl rfl ?_
      clear hf a; intro a hf
      refine st_no hf rfl rfl (lk_b rfl h1_1) rfl rfl rfl ?_
      clear hf a; intro a hf
      refine st_y hf rfl rfl rfl (y_pick_f rfl (ev_b rfl h1_1) rfl) ?_
      clear hf a; intro a hf
      refine st_y hf rfl rfl rfl (y_assign rfl rfl) ?_
      clear hf a; intro a hf
      refine st_end ?_
      refine x_then_n ?_
      obtain rfl := Option.some.inj hq0_1
      exact ⟨hf.sub ⟨rfl, trivial⟩, hm.pick [] (by decide) rfl⟩
  ·
    clear hf hm
    rintro a w ⟨hf, hm⟩
    refine x_then_n ?_
    refine wp_ret ?_
    obtain rfl := Option.some.inj hq
    refine ret_tmp hf Tryd.results39 rfl ?_
    exact ⟨rfl, hm.below⟩

theorem spec_l22Word_ok (w0 : World) (op : Int) (r : Str × Str) (hq : spec_l22Word op = some r) :
    Con Tryd.prog 36 [(.int .i64 (op))] w0 (fun v w' => v = (.tuple #[(.string ⟨(r.1).b.toArray⟩), (.string ⟨(r.2).b.toArray⟩)]) ∧ Below w0.heap.size w0 w') := by
  unfold spec_l22Word at hq
  refine con_body (l := [(0, (.int .i64 (op)))]) Tryd.func36 rfl Tryd.ntmps36 (Args.get ⟨rfl, trivial⟩) rfl ?_
  intro a hf
  have hm := Mem.start w0
  refine wp_seq ?_
  refine wp_region_lit ?_
  refine st_y hf rfl rfl rfl (y_assign rfl rfl) ?_
  clear hf a; intro a hf
  refine st_y hf rfl rfl rfl (y_assign rfl rfl) ?_
  clear hf a; intro a hf
  refine st_end ?_
  refine x_then_n ?_
  refine wp_seq ?_
  refine wp_region_lit ?_
  refine st_ef hf rfl rfl rfl (e_build (vs := #[(0, (.string ⟨((mkS [])).b.toArray⟩)), (1, (.string ⟨((mkS [115, 101, 116])).b.toArray⟩)), (2, (.string ⟨((mkS [109, 111, 118, 101])).b.toArray⟩)), (3, (.string ⟨((mkS [97, 100, 100])).b.toArray⟩)), (4, (.string ⟨((mkS [115, 117, 98])).b.toArray⟩)), (5, (.string ⟨((mkS [109, 117, 108])).b.toArray⟩)), (6, (.string ⟨((mkS [100, 105, 118])).b.toArray⟩)), (7, (.string ⟨((mkS [114, 101, 109])).b.toArray⟩)), (8, (.string ⟨((mkS [108, 101, 115, 115])).b.toArray⟩)), (9, (.string ⟨((mkS [115, 97, 109, 101])).b.toArray⟩)), (10, (.string ⟨((mkS [110, 111, 116])).b.toArray⟩)), (11, (.string ⟨((mkS [108, 111, 97, 100])).b.toArray⟩)), (12, (.string ⟨((mkS [115, 116, 111, 114, 101])).b.toArray⟩)), (13, (.string ⟨((mkS [115, 97, 121])).b.toArray⟩)), (14, (.string ⟨((mkS [99, 97, 108, 108])).b.toArray⟩)), (15, (.string ⟨((mkS [107, 101, 101, 112])).b.toArray⟩)), (16, (.string ⟨((mkS [116, 97, 107, 101])).b.toArray⟩)), (17, (.string ⟨((mkS [103, 105, 118, 101])).b.toArray⟩)), (18, (.string ⟨((mkS [102, 101, 116, 99, 104])).b.toArray⟩)), (19, (.string ⟨((mkS [114, 101, 115, 117, 108, 116])).b.toArray⟩)), (20, (.string ⟨((mkS [106, 117, 109, 112])).b.toArray⟩)), (21, (.string ⟨((mkS [98, 114, 97, 110, 99, 104])).b.toArray⟩)), (22, (.string ⟨((mkS [98, 97, 99, 107])).b.toArray⟩))]) (cs := [(.string ⟨((mkS [])).b.toArray⟩), (.string ⟨((mkS [115, 101, 116])).b.toArray⟩), (.string ⟨((mkS [109, 111, 118, 101])).b.toArray⟩), (.string ⟨((mkS [97, 100, 100])).b.toArray⟩), (.string ⟨((mkS [115, 117, 98])).b.toArray⟩), (.string ⟨((mkS [109, 117, 108])).b.toArray⟩), (.string ⟨((mkS [100, 105, 118])).b.toArray⟩), (.string ⟨((mkS [114, 101, 109])).b.toArray⟩), (.string ⟨((mkS [108, 101, 115, 115])).b.toArray⟩), (.string ⟨((mkS [115, 97, 109, 101])).b.toArray⟩), (.string ⟨((mkS [110, 111, 116])).b.toArray⟩), (.string ⟨((mkS [108, 111, 97, 100])).b.toArray⟩), (.string ⟨((mkS [115, 116, 111, 114, 101])).b.toArray⟩), (.string ⟨((mkS [115, 97, 121])).b.toArray⟩), (.string ⟨((mkS [99, 97, 108, 108])).b.toArray⟩), (.string ⟨((mkS [107, 101, 101, 112])).b.toArray⟩), (.string ⟨((mkS [116, 97, 107, 101])).b.toArray⟩), (.string ⟨((mkS [103, 105, 118, 101])).b.toArray⟩), (.string ⟨((mkS [102, 101, 116, 99, 104])).b.toArray⟩), (.string ⟨((mkS [114, 101, 115, 117, 108, 116])).b.toArray⟩), (.string ⟨((mkS [106, 117, 109, 112])).b.toArray⟩), (.string ⟨((mkS [98, 114, 97, 110, 99, 104])).b.toArray⟩), (.string ⟨((mkS [98, 97, 99, 107])).b.toArray⟩)]) et_89 hf hm rfl rfl (by kernel_rfl) rfl rfl) ?_
  clear hf a; rintro _ w0_1 a ⟨b0_1, rfl, hm⟩ hf
  replace hm := hm.lit (xs := ([(mkS []), (mkS [115, 101, 116]), (mkS [109, 111, 118, 101]), (mkS [97, 100, 100]), (mkS [115, 117, 98]), (mkS [109, 117, 108]), (mkS [100, 105, 118]), (mkS [114, 101, 109]), (mkS [108, 101, 115, 115]), (mkS [115, 97, 109, 101]), (mkS [110, 111, 116]), (mkS [108, 111, 97, 100]), (mkS [115, 116, 111, 114, 101]), (mkS [115, 97, 121]), (mkS [99, 97, 108, 108]), (mkS [107, 101, 101, 112]), (mkS [116, 97, 107, 101]), (mkS [103, 105, 118, 101]), (mkS [102, 101, 116, 99, 104]), (mkS [114, 101, 115, 117, 108, 116]), (mkS [106, 117, 109, 112]), (mkS [98, 114, 97, 110, 99, 104]), (mkS [98, 97, 99, 107])] : List Str)) 0 rfl rfl rfl rfl
  refine st_y hf rfl rfl rfl (y_assign rfl rfl) ?_
  clear hf a; intro a hf
  refine st_end ?_
  refine x_then_n ?_
  refine wp_seq ?_
  refine wp_region_lit ?_
  refine st_ef hf rfl rfl rfl (e_build (vs := #[(0, (.string ⟨((mkS [])).b.toArray⟩)), (1, (.string ⟨((mkS [65, 78])).b.toArray⟩)), (2, (.string ⟨((mkS [65, 66])).b.toArray⟩)), (3, (.string ⟨((mkS [65, 66, 67])).b.toArray⟩)), (4, (.string ⟨((mkS [65, 66, 67])).b.toArray⟩)), (5, (.string ⟨((mkS [65, 66, 67])).b.toArray⟩)), (6, (.string ⟨((mkS [65, 66, 67])).b.toArray⟩)), (7, (.string ⟨((mkS [65, 66, 67])).b.toArray⟩)), (8, (.string ⟨((mkS [65, 66, 67])).b.toArray⟩)), (9, (.string ⟨((mkS [65, 66, 67])).b.toArray⟩)), (10, (.string ⟨((mkS [65, 66])).b.toArray⟩)), (11, (.string ⟨((mkS [65, 66])).b.toArray⟩)), (12, (.string ⟨((mkS [65, 66])).b.toArray⟩)), (13, (.string ⟨((mkS [65])).b.toArray⟩)), (14, (.string ⟨((mkS [78])).b.toArray⟩)), (15, (.string ⟨((mkS [65, 78])).b.toArray⟩)), (16, (.string ⟨((mkS [65, 78])).b.toArray⟩)), (17, (.string ⟨((mkS [65, 78])).b.toArray⟩)), (18, (.string ⟨((mkS [65, 78])).b.toArray⟩)), (19, (.string ⟨((mkS [65])).b.toArray⟩)), (20, (.string ⟨((mkS [78])).b.toArray⟩)), (21, (.string ⟨((mkS [65, 78])).b.toArray⟩)), (22, (.string ⟨((mkS [65])).b.toArray⟩))]) (cs := [(.string ⟨((mkS [])).b.toArray⟩), (.string ⟨((mkS [65, 78])).b.toArray⟩), (.string ⟨((mkS [65, 66])).b.toArray⟩), (.string ⟨((mkS [65, 66, 67])).b.toArray⟩), (.string ⟨((mkS [65, 66, 67])).b.toArray⟩), (.string ⟨((mkS [65, 66, 67])).b.toArray⟩), (.string ⟨((mkS [65, 66, 67])).b.toArray⟩), (.string ⟨((mkS [65, 66, 67])).b.toArray⟩), (.string ⟨((mkS [65, 66, 67])).b.toArray⟩), (.string ⟨((mkS [65, 66, 67])).b.toArray⟩), (.string ⟨((mkS [65, 66])).b.toArray⟩), (.string ⟨((mkS [65, 66])).b.toArray⟩), (.string ⟨((mkS [65, 66])).b.toArray⟩), (.string ⟨((mkS [65])).b.toArray⟩), (.string ⟨((mkS [78])).b.toArray⟩), (.string ⟨((mkS [65, 78])).b.toArray⟩), (.string ⟨((mkS [65, 78])).b.toArray⟩), (.string ⟨((mkS [65, 78])).b.toArray⟩), (.string ⟨((mkS [65, 78])).b.toArray⟩), (.string ⟨((mkS [65])).b.toArray⟩), (.string ⟨((mkS [78])).b.toArray⟩), (.string ⟨((mkS [65, 78])).b.toArray⟩), (.string ⟨((mkS [65])).b.toArray⟩)]) et_89 hf hm rfl rfl (by kernel_rfl) rfl rfl) ?_
  clear hf a; rintro _ w0_2 a ⟨b0_2, rfl, hm⟩ hf
  replace hm := hm.lit (xs := ([(mkS []), (mkS [65, 78]), (mkS [65, 66]), (mkS [65, 66, 67]), (mkS [65, 66, 67]), (mkS [65, 66, 67]), (mkS [65, 66, 67]), (mkS [65, 66, 67]), (mkS [65, 66, 67]), (mkS [65, 66, 67]), (mkS [65, 66]), (mkS [65, 66]), (mkS [65, 66]), (mkS [65]), (mkS [78]), (mkS [65, 78]), (mkS [65, 78]), (mkS [65, 78]), (mkS [65, 78]), (mkS [65]), (mkS [78]), (mkS [65, 78]), (mkS [65])] : List Str)) 0 rfl rfl rfl rfl
  refine st_y hf rfl rfl rfl (y_assign rfl rfl) ?_
  clear hf a; intro a hf
  refine st_end ?_
  refine x_then_n ?_
  refine wp_seq ?_
  refine wp_seq ?_
  refine wp_region_lit ?_
  refine st_y hf rfl rfl rfl (y_move rfl rfl) ?_
  clear hf a; intro a hf
  obtain ⟨r0_1, hx0_1, hq⟩ := bnd hq
  refine st_ef hf rfl rfl rfl (e_call hf rfl Tryd.call39 rfl (spec_l1In_ok _ op 1 22 _ hx0_1)) ?_
  clear hf a; rintro _ w0_3 a ⟨rfl, hB⟩ hf
  replace hm := hm.below' hB; clear hB
  refine st_y hf rfl rfl rfl (y_not rfl rfl) ?_
  clear hf a; intro a hf
  refine st_end ?_
  refine x_then_n ?_
  rcases bcases (!(r0_1)) with h0_1 | h0_1
  ·
    replace hq := (ite_t h0_1).symm.trans hq
    have h0_2 := bnot_t' h0_1
    refine cond_t hf rfl h0_1 ?_
    refine wp_seq ?_
    refine wp_region_lit ?_
    refine st_y hf rfl rfl rfl (y_assign rfl rfl) ?_
    clear hf a; intro a hf
    refine st_y hf rfl rfl rfl (y_assign rfl rfl) ?_
    clear hf a; intro a hf
    refine st_end ?_
    refine x_then_n ?_
    refine wp_ret ?_
    refine x_then_ret ?_
    obtain rfl := Option.some.inj hq
    refine ret_tmp2 hf Tryd.results36 rfl rfl ?_
    exact ⟨rfl, hm.below⟩
  ·
    replace hq := (ite_f h0_1).symm.trans hq
    have h0_3 := bnot_f' h0_1
    refine cond_f hf rfl h0_1 ?_
    refine wp_skip ?_
    refine x_then_n ?_
    refine wp_seq ?_
    refine wp_draw [(true, 0), (true, 1), (true, 2), (true, 3), (true, 4), (true, 5), (true, 6), (true, 7), (false, 8), (false, 9)] [0, 1, 2, 3, 4, 5, 6, 7, 8] (fun w => Mem w0 (hp w0) w [ow [(.slice (some ⟨b0_2, 0, none⟩) 23 23)] ([(mkS []), (mkS [65, 78]), (mkS [65, 66]), (mkS [65, 66, 67]), (mkS [65, 66, 67]), (mkS [65, 66, 67]), (mkS [65, 66, 67]), (mkS [65, 66, 67]), (mkS [65, 66, 67]), (mkS [65, 66, 67]), (mkS [65, 66]), (mkS [65, 66]), (mkS [65, 66]), (mkS [65]), (mkS [78]), (mkS [65, 78]), (mkS [65, 78]), (mkS [65, 78]), (mkS [65, 78]), (mkS [65]), (mkS [78]), (mkS [65, 78]), (mkS [65])] : List Str), ow [(.slice (some ⟨b0_1, 0, none⟩) 23 23)] ([(mkS []), (mkS [115, 101, 116]), (mkS [109, 111, 118, 101]), (mkS [97, 100, 100]), (mkS [115, 117, 98]), (mkS [109, 117, 108]), (mkS [100, 105, 118]), (mkS [114, 101, 109]), (mkS [108, 101, 115, 115]), (mkS [115, 97, 109, 101]), (mkS [110, 111, 116]), (mkS [108, 111, 97, 100]), (mkS [115, 116, 111, 114, 101]), (mkS [115, 97, 121]), (mkS [99, 97, 108, 108]), (mkS [107, 101, 101, 112]), (mkS [116, 97, 107, 101]), (mkS [103, 105, 118, 101]), (mkS [102, 101, 116, 99, 104]), (mkS [114, 101, 115, 117, 108, 116]), (mkS [106, 117, 109, 112]), (mkS [98, 114, 97, 110, 99, 104]), (mkS [98, 97, 99, 107])] : List Str)]) (by kernel_rfl) (by kernel_rfl) (fun _ _ _ h => h.2) ?_
    replace hm := hm.drew
    have hS : Mem w0 (hp w0) _ [ow [(.slice (some ⟨b0_2, 0, none⟩) 23 23)] ([(mkS []), (mkS [65, 78]), (mkS [65, 66]), (mkS [65, 66, 67]), (mkS [65, 66, 67]), (mkS [65, 66, 67]), (mkS [65, 66, 67]), (mkS [65, 66, 67]), (mkS [65, 66, 67]), (mkS [65, 66, 67]), (mkS [65, 66]), (mkS [65, 66]), (mkS [65, 66]), (mkS [65]), (mkS [78]), (mkS [65, 78]), (mkS [65, 78]), (mkS [65, 78]), (mkS [65, 78]), (mkS [65]), (mkS [78]), (mkS [65, 78]), (mkS [65])] : List Str), ow [(.slice (some ⟨b0_1, 0, none⟩) 23 23)] ([(mkS []), (mkS [115, 101, 116]), (mkS [109, 111, 118, 101]), (mkS [97, 100, 100]), (mkS [115, 117, 98]), (mkS [109, 117, 108]), (mkS [100, 105, 118]), (mkS [114, 101, 109]), (mkS [108, 101, 115, 115]), (mkS [115, 97, 109, 101]), (mkS [110, 111, 116]), (mkS [108, 111, 97, 100]), (mkS [115, 116, 111, 114, 101]), (mkS [115, 97, 121]), (mkS [99, 97, 108, 108]), (mkS [107, 101, 101, 112]), (mkS [116, 97, 107, 101]), (mkS [103, 105, 118, 101]), (mkS [102, 101, 116, 99, 104]), (mkS [114, 101, 115, 117, 108, 116]), (mkS [106, 117, 109, 112]), (mkS [98, 114, 97, 110, 99, 104]), (mkS [98, 97, 99, 107])] : List Str)] := hm.pick [0, 1] (by decide) rfl
    refine sd_y hf rfl rfl rfl rfl hS (fun w hm => y_move rfl rfl) ?_
    clear hf a; intro a hf
    refine sd_y hf rfl rfl rfl rfl hS (fun w hm => y_move rfl rfl) ?_
    clear hf a; intro a hf
    obtain ⟨x0_1, hx0_2, hq⟩ := bnd hq
    obtain ⟨h0_4, hx0_3⟩ := getI_some.1 hx0_2
    refine sd_y hf rfl rfl rfl rfl hS (fun w hm => y_indexAddr st_89 rfl rfl rfl h0_4 (idx_lt2 hx0_3 (rep_slice_len (hm.ow_rep 1 rfl)))) ?_
    clear hf a; intro a hf
    refine sd_y hf rfl rfl rfl rfl hS (fun w hm => y_load1 Tryd.isAgg9 rfl rfl ((flat_cells (cs := [(.string ⟨(x0_1).b.toArray⟩)]) (hm.ow_rep 1 rfl) hx0_3 rfl).cell (j := 0) rfl)) ?_
    clear hf a; intro a hf
    refine sd_y hf rfl rfl rfl rfl hS (fun w hm => y_move rfl rfl) ?_
    clear hf a; intro a hf
    refine sd_y hf rfl rfl rfl rfl hS (fun w hm => y_move rfl rfl) ?_
    clear hf a; intro a hf
    obtain ⟨x0_2, hx0_4, hq⟩ := bnd hq
    obtain ⟨h0_5, hx0_5⟩ := getI_some.1 hx0_4
    refine sd_y hf rfl rfl rfl rfl hS (fun w hm => y_indexAddr st_89 rfl rfl rfl h0_5 (idx_lt2 hx0_5 (rep_slice_len (hm.ow_rep 0 rfl)))) ?_
    clear hf a; intro a hf
    refine sd_y hf rfl rfl rfl rfl hS (fun w hm => y_load1 Tryd.isAgg9 rfl rfl ((flat_cells (cs := [(.string ⟨(x0_2).b.toArray⟩)]) (hm.ow_rep 0 rfl) hx0_5 rfl).cell (j := 0) rfl)) ?_
    clear hf a; intro a hf
    refine sd_ef hf rfl rfl rfl rfl (ef_y hf (y_assign rfl rfl)) ?_
    clear hf a; rintro _ _ a ⟨rfl, rfl⟩ hf
    refine ⟨fun _ => hS, ?_⟩
    refine sd_ef hf rfl rfl rfl rfl (ef_y hf (y_assign rfl rfl)) ?_
    clear hf a; rintro _ _ a ⟨rfl, rfl⟩ hf
    refine ⟨fun h => absurd h (by decide), ?_⟩
    clear hS; refine sd_end ?_
    refine x_then_n ?_
    refine wp_ret ?_
    obtain rfl := Option.some.inj hq
    refine ret_tmp2 hf Tryd.results36 rfl rfl ?_
    exact ⟨rfl, hm.below⟩

theorem spec_l24Jumps_ok (w0 : World) (x_ : Mins) (r : Bool) (hq : spec_l24Jumps x_ = some r) :
    Con Tryd.prog 37 [(.agg #[(.int .i64 (x_.op)), (.int .i64 (x_.a_)), (.int .i64 (x_.b)), (.int .i64 (x_.c)), (.int .i64 (x_.n_))])] w0 (fun v w' => v = (.bool (r)) ∧ Below w0.heap.size w0 w') := by
  unfold spec_l24Jumps at hq
  refine con_body (l := [(0, (.agg #[(.int .i64 (x_.op)), (.int .i64 (x_.a_)), (.int .i64 (x_.b)), (.int .i64 (x_.c)), (.int .i64 (x_.n_))]))]) Tryd.func37 rfl Tryd.ntmps37 (Args.get ⟨rfl, trivial⟩) rfl ?_
  intro a hf
  have hm := Mem.start w0
  refine wp_seq ?_
  refine wp_region_lit ?_
  refine st_ef hf rfl rfl rfl (e_box hf hm rfl rfl rfl) ?_
  clear hf a; rintro _ w0_1 a ⟨b0_1, rfl, hm⟩ hf
  refine st_y hf rfl rfl rfl (y_assign rfl rfl) ?_
  clear hf a; intro a hf
  refine st_end ?_
  refine x_then_n ?_
  refine wp_seq ?_
  obtain ⟨s0_1, hq0_1, hq⟩ := bnd hq
  refine code_cut (K := fun a w => Fr 11 [(2, (.bool (s0_1)))] a ∧ Mem w0 (hp w0) w []) ?_ ?_
  ·
    refine wp_region_lit ?_
    refine st_y hf rfl rfl rfl (y_fieldAddr fo_27_0 rfl rfl) ?_
    clear hf a; intro a hf
    refine st_y hf rfl rfl rfl (y_load1 Tryd.isAgg3 rfl rfl (hm.blk_cell 0 rfl rfl)) ?_
    clear hf a; intro a hf
    refine st_y hf rfl rfl rfl (y_eql rfl rfl rfl) ?_
    clear hf a; intro a hf
    refine st_y hf rfl rfl rfl (y_move rfl rfl) ?_
    clear hf a; intro a hf
    rcases bcases (decide (x_.op = 20)) with h1_1 | h1_1
    ·
      replace hq0_1 := (ite_t h1_1).symm.trans hq0_1
      have h1_2 := of_decide_eq_true h1_1
      refine st_no hf rfl rfl (lk_b rfl h1_1) rfl rfl rfl ?_
      clear hf a; intro a hf
      refine st_no hf rfl rfl (lk_b rfl h1_1) rfl rfl rfl ?_
      clear hf a; intro a hf
      refine st_no hf rfl rfl (lk_b rfl h1_1) rfl rfl rfl ?_
      clear hf a; intro a hf
      refine st_y hf rfl rfl rfl (y_pick_t rfl (ev_b rfl h1_1) rfl) ?_
      clear hf a; intro a hf
      refine st_y hf rfl rfl rfl (y_assign rfl rfl) ?_
      clear hf a; intro a hf
      refine st_end ?_
      refine x_then_n ?_
      obtain rfl := Option.some.inj hq0_1
      exact ⟨hf.sub ⟨rfl, trivial⟩, hm.pick [] (by decide) rfl⟩
    ·
      replace hq0_1 := (ite_f h1_1).symm.trans hq0_1
      have h1_3 := of_decide_eq_false h1_1
      refine st_yg hf rfl rfl (lk_b rfl h1_1) rfl rfl (y_fieldAddr fo_27_0 rfl rfl) ?_
      clear hf a; intro a hf
      refine st_yg hf rfl rfl (lk_b rfl h1_1) rfl rfl (y_load1 Tryd.isAgg3 rfl rfl (hm.blk_cell 0 rfl rfl)) ?_
      clear hf a; intro a hf
      refine st_yg hf rfl rfl (lk_b rfl h1_1) rfl rfl (y_eql rfl rfl rfl) ?_
      clear hf a; intro a hf
      refine st_y hf rfl rfl rfl (y_pick_f rfl (ev_b rfl h1_1) rfl) ?_
      clear hf a; intro a hf
      refine st_y hf rfl rfl rfl (y_assign rfl rfl) ?_
      clear hf a; intro a hf
      refine st_end ?_
      refine x_then_n ?_
      obtain rfl := Option.some.inj hq0_1
      exact ⟨hf.sub ⟨rfl, trivial⟩, hm.pick [] (by decide) rfl⟩
  ·
    clear hf hm
    rintro a w ⟨hf, hm⟩
    refine x_then_n ?_
    refine wp_ret ?_
    obtain rfl := Option.some.inj hq
    refine ret_tmp hf Tryd.results37 rfl ?_
    exact ⟨rfl, hm.below⟩

theorem spec_l22Field_ok (w0 : World) (x_ : Mins) (f : UInt8) (r : Int) (hq : spec_l22Field x_ f = some r) :
    Con Tryd.prog 64 [(.agg #[(.int .i64 (x_.op)), (.int .i64 (x_.a_)), (.int .i64 (x_.b)), (.int .i64 (x_.c)), (.int .i64 (x_.n_))]), (.int .u8 ((f).toNat : Int))] w0 (fun v w' => v = (.int .i64 (r)) ∧ Below w0.heap.size w0 w') := by
  unfold spec_l22Field at hq
  refine con_body (l := [(0, (.agg #[(.int .i64 (x_.op)), (.int .i64 (x_.a_)), (.int .i64 (x_.b)), (.int .i64 (x_.c)), (.int .i64 (x_.n_))])), (1, (.int .u8 ((f).toNat : Int)))]) Tryd.func64 rfl Tryd.ntmps64 (Args.get ⟨rfl, rfl, trivial⟩) rfl ?_
  intro a hf
  have hm := Mem.start w0
  refine wp_seq ?_
  refine wp_region_lit ?_
  refine st_ef hf rfl rfl rfl (e_box hf hm rfl rfl rfl) ?_
  clear hf a; rintro _ w0_1 a ⟨b0_1, rfl, hm⟩ hf
  refine st_y hf rfl rfl rfl (y_assign rfl rfl) ?_
  clear hf a; intro a hf
  refine st_end ?_
  refine x_then_n ?_
  refine wp_seq ?_
  refine wp_seq ?_
  refine wp_region_lit ?_
  refine st_y hf rfl rfl rfl (y_move rfl rfl) ?_
  clear hf a; intro a hf
  refine st_end ?_
  refine x_then_n ?_
  refine wp_block ?_
  refine wp_seq ?_
  refine wp_region_lit ?_
  refine st_y hf rfl rfl rfl (y_eql8 (b := f) (c := (65 : UInt8)) rfl rfl rfl) ?_
  clear hf a; intro a hf
  refine st_y hf rfl rfl rfl (y_assign rfl rfl) ?_
  clear hf a; intro a hf
  refine st_end ?_
  refine x_then_n ?_
  rcases bcases (decide (f = (65 : UInt8))) with h0_1 | h0_1
  ·
    replace hq := (ite_t h0_1).symm.trans hq
    have h0_2 := of_decide_eq_true h0_1
    refine cond_t hf rfl h0_1 ?_
    refine wp_seq ?_
    refine wp_region_lit ?_
    refine st_y hf rfl rfl rfl (y_fieldAddr fo_27_1 rfl rfl) ?_
    clear hf a; intro a hf
    refine st_y hf rfl rfl rfl (y_load1 Tryd.isAgg3 rfl rfl (hm.blk_cell 0 rfl rfl)) ?_
    clear hf a; intro a hf
    refine st_y hf rfl rfl rfl (y_assign rfl rfl) ?_
    clear hf a; intro a hf
    refine st_end ?_
    refine x_then_n ?_
    refine wp_ret ?_
    refine x_blk_ret ?_
    refine x_then_ret ?_
    obtain rfl := Option.some.inj hq
    refine ret_tmp hf Tryd.results64 rfl ?_
    exact ⟨rfl, hm.below⟩
  ·
    replace hq := (ite_f h0_1).symm.trans hq
    have h0_3 := of_decide_eq_false h0_1
    refine cond_f hf rfl h0_1 ?_
    refine wp_seq ?_
    refine wp_region_lit ?_
    refine st_y hf rfl rfl rfl (y_eql8 (b := f) (c := (66 : UInt8)) rfl rfl rfl) ?_
    clear hf a; intro a hf
    refine st_y hf rfl rfl rfl (y_assign rfl rfl) ?_
    clear hf a; intro a hf
    refine st_end ?_
    refine x_then_n ?_
    rcases bcases (decide (f = (66 : UInt8))) with h0_4 | h0_4
    ·
      replace hq := (ite_t h0_4).symm.trans hq
      have h0_5 := of_decide_eq_true h0_4
      refine cond_t hf rfl h0_4 ?_
      refine wp_seq ?_
      refine wp_region_lit ?_
      refine st_y hf rfl rfl rfl (y_fieldAddr fo_27_2 rfl rfl) ?_
      clear hf a; intro a hf
      refine st_y hf rfl rfl rfl (y_load1 Tryd.isAgg3 rfl rfl (hm.blk_cell 0 rfl rfl)) ?_
      clear hf a; intro a hf
      refine st_y hf rfl rfl rfl (y_assign rfl rfl) ?_
      clear hf a; intro a hf
      refine st_end ?_
      refine x_then_n ?_
      refine wp_ret ?_
      refine x_blk_ret ?_
      refine x_then_ret ?_
      obtain rfl := Option.some.inj hq
      refine ret_tmp hf Tryd.results64 rfl ?_
      exact ⟨rfl, hm.below⟩
    ·
      replace hq := (ite_f h0_4).symm.trans hq
      have h0_6 := of_decide_eq_false h0_4
      refine cond_f hf rfl h0_4 ?_
      refine wp_seq ?_
      refine wp_region_lit ?_
      refine st_y hf rfl rfl rfl (y_eql8 (b := f) (c := (67 : UInt8)) rfl rfl rfl) ?_
      clear hf a; intro a hf
      refine st_y hf rfl rfl rfl (y_assign rfl rfl) ?_
      clear hf a; intro a hf
      refine st_end ?_
      refine x_then_n ?_
      rcases bcases (decide (f = (67 : UInt8))) with h0_7 | h0_7
      ·
        replace hq := (ite_t h0_7).symm.trans hq
        have h0_8 := of_decide_eq_true h0_7
        refine cond_t hf rfl h0_7 ?_
        refine wp_seq ?_
        refine wp_region_lit ?_
        refine st_y hf rfl rfl rfl (y_fieldAddr fo_27_3 rfl rfl) ?_
        clear hf a; intro a hf
        refine st_y hf rfl rfl rfl (y_load1 Tryd.isAgg3 rfl rfl (hm.blk_cell 0 rfl rfl)) ?_
        clear hf a; intro a hf
        refine st_y hf rfl rfl rfl (y_assign rfl rfl) ?_
        clear hf a; intro a hf
        refine st_end ?_
        refine x_then_n ?_
        refine wp_ret ?_
        refine x_blk_ret ?_
        refine x_then_ret ?_
        obtain rfl := Option.some.inj hq
        refine ret_tmp hf Tryd.results64 rfl ?_
        exact ⟨rfl, hm.below⟩
      ·
        replace hq := (ite_f h0_7).symm.trans hq
        have h0_9 := of_decide_eq_false h0_7
        refine cond_f hf rfl h0_7 ?_
        refine wp_skip ?_
        refine x_blk_n ?_
        refine x_then_n ?_
        refine wp_seq ?_
        refine wp_region_lit ?_
        refine st_y hf rfl rfl rfl (y_fieldAddr fo_27_4 rfl rfl) ?_
        clear hf a; intro a hf
        refine st_y hf rfl rfl rfl (y_load1 Tryd.isAgg3 rfl rfl (hm.blk_cell 0 rfl rfl)) ?_
        clear hf a; intro a hf
        refine st_y hf rfl rfl rfl (y_assign rfl rfl) ?_
        clear hf a; intro a hf
        refine st_end ?_
        refine x_then_n ?_
        refine wp_ret ?_
        obtain rfl := Option.some.inj hq
        refine ret_tmp hf Tryd.results64 rfl ?_
        exact ⟨rfl, hm.below⟩

theorem spec_l22Rest_ok (w0 : World) (x_ : Mins) (fields : Str) (r : Bool) (hq : spec_l22Rest x_ fields = some r) :
    Con Tryd.prog 38 [(.agg #[(.int .i64 (x_.op)), (.int .i64 (x_.a_)), (.int .i64 (x_.b)), (.int .i64 (x_.c)), (.int .i64 (x_.n_))]), (.string ⟨(fields).b.toArray⟩)] w0 (fun v w' => v = (.bool (r)) ∧ Below w0.heap.size w0 w') := by
  unfold spec_l22Rest at hq
  refine con_body (l := [(0, (.agg #[(.int .i64 (x_.op)), (.int .i64 (x_.a_)), (.int .i64 (x_.b)), (.int .i64 (x_.c)), (.int .i64 (x_.n_))])), (1, (.string ⟨(fields).b.toArray⟩))]) Tryd.func38 rfl Tryd.ntmps38 (Args.get ⟨rfl, rfl, trivial⟩) rfl ?_
  intro a hf
  have hm := Mem.start w0
  refine wp_seq ?_
  refine wp_region_lit ?_
  refine st_ef hf rfl rfl rfl (e_box hf hm rfl rfl rfl) ?_
  clear hf a; rintro _ w0_1 a ⟨b0_1, rfl, hm⟩ hf
  refine st_y hf rfl rfl rfl (y_assign rfl rfl) ?_
  clear hf a; intro a hf
  refine st_end ?_
  refine x_then_n ?_
  refine wp_seq ?_
  refine wp_seq ?_
  refine wp_region_lit ?_
  refine st_y hf rfl rfl rfl (y_assign rfl rfl) ?_
  clear hf a; intro a hf
  refine st_end ?_
  refine x_then_n ?_
  refine wp_block ?_
  obtain ⟨r0_1, hl0_1, hq⟩ := bnd hq
  refine wp_forN _ (fun i1_1 xs1_1 a w => Fr 37 [(1, (.string ⟨(fields).b.toArray⟩)), (2, (.pointer (some ⟨b0_1, 0, none⟩))), (5, (.int .i64 (i1_1)))] a ∧ Mem w0 (hp w0) w [blk b0_1 [(.int .i64 (x_.op)), (.int .i64 (x_.a_)), (.int .i64 (x_.b)), (.int .i64 (x_.c)), (.int .i64 (x_.n_))] 27]) (0) (4) hl0_1 ?_ ?_ ?_
  ·
    exact ⟨hf.sub ⟨rfl, rfl, rfl, trivial⟩, hm.pick [0] (by decide) rfl⟩
  ·
    clear hf hm
    rintro i1_1 xs1_1 a w ⟨hf, hm⟩ hi1_1 hi1_2 q0_1 hb0_1 ho0_1
    refine wp_seq ?_
    refine wp_seq ?_
    refine wp_region_lit ?_
    refine st_y hf rfl rfl rfl (y_move rfl rfl) ?_
    clear hf a; intro a hf
    refine st_y hf rfl rfl rfl (y_lss rfl rfl rfl) ?_
    clear hf a; intro a hf
    refine st_end ?_
    refine x_then_n ?_
    refine cond_t hf rfl (decide_eq_true (by omega)) ?_
    refine wp_skip ?_
    refine x_then_n ?_
    refine wp_seq ?_
    refine wp_block ?_
    refine wp_seq ?_
    refine wp_region_lit ?_
    refine st_y hf rfl rfl rfl (y_move rfl rfl) ?_
    clear hf a; intro a hf
    obtain ⟨x1_1, hx1_1, hb0_1⟩ := bnd hb0_1
    obtain ⟨h1_1, hx1_2⟩ := getI_some.1 hx1_1
    refine st_y hf rfl rfl rfl (y_idx_str (p := (mkS [65, 66, 67, 78])) Tryd.underlying9 rfl rfl rfl h1_1 hx1_2) ?_
    clear hf a; intro a hf
    refine st_y hf rfl rfl rfl (y_assign rfl rfl) ?_
    clear hf a; intro a hf
    refine st_end ?_
    refine x_then_n ?_
    refine wp_seq ?_
    refine wp_region_lit ?_
    refine st_y hf rfl rfl rfl (y_assign rfl rfl) ?_
    clear hf a; intro a hf
    refine st_end ?_
    refine x_then_n ?_
    refine wp_seq ?_
    refine wp_seq ?_
    refine wp_region_lit ?_
    refine st_y hf rfl rfl rfl (y_assign rfl rfl) ?_
    clear hf a; intro a hf
    refine st_end ?_
    refine x_then_n ?_
    refine wp_block ?_
    obtain ⟨r1_1, hl1_1, hb0_1⟩ := bnd hb0_1
    refine wp_forN _ (fun i2_1 xs2_1 a w => Fr 37 [(1, (.string ⟨(fields).b.toArray⟩)), (2, (.pointer (some ⟨b0_1, 0, none⟩))), (5, (.int .i64 (i1_1))), (6, (.int .u8 ((x1_1).toNat : Int))), (7, (.bool (xs2_1))), (8, (.int .i64 (i2_1)))] a ∧ Mem w0 (hp w0) w [blk b0_1 [(.int .i64 (x_.op)), (.int .i64 (x_.a_)), (.int .i64 (x_.b)), (.int .i64 (x_.c)), (.int .i64 (x_.n_))] 27]) (0) (((fields).b.length : Int)) hl1_1 ?_ ?_ ?_
    ·
      exact ⟨hf.sub ⟨rfl, rfl, rfl, rfl, rfl, rfl, trivial⟩, hm.pick [0] (by decide) rfl⟩
    ·
      clear hf hm
      rintro i2_1 xs2_1 a w ⟨hf, hm⟩ hi2_1 hi2_2 q1_1 hb1_1 ho1_1
      refine wp_seq ?_
      refine wp_seq ?_
      refine wp_region_lit ?_
      refine st_y hf rfl rfl rfl (y_move rfl rfl) ?_
      clear hf a; intro a hf
      refine st_y hf rfl rfl rfl (y_move rfl rfl) ?_
      clear hf a; intro a hf
      refine st_y hf rfl rfl rfl (y_len_str (p := fields) Tryd.underlying9 rfl rfl) ?_
      clear hf a; intro a hf
      have hl2_1 := (fields).h
      refine st_y hf rfl rfl rfl (y_lss rfl rfl rfl) ?_
      clear hf a; intro a hf
      refine st_end ?_
      refine x_then_n ?_
      refine cond_t hf rfl (decide_eq_true (by omega)) ?_
      refine wp_skip ?_
      refine x_then_n ?_
      refine wp_seq ?_
      refine wp_block ?_
      obtain ⟨s2_1, hq2_1, hb1_1⟩ := bnd hb1_1
      refine code_cut (K := fun a w => Fr 37 [(1, (.string ⟨(fields).b.toArray⟩)), (2, (.pointer (some ⟨b0_1, 0, none⟩))), (5, (.int .i64 (i1_1))), (6, (.int .u8 ((x1_1).toNat : Int))), (7, (.bool (s2_1))), (8, (.int .i64 (i2_1)))] a ∧ Mem w0 (hp w0) w [blk b0_1 [(.int .i64 (x_.op)), (.int .i64 (x_.a_)), (.int .i64 (x_.b)), (.int .i64 (x_.c)), (.int .i64 (x_.n_))] 27]) ?_ ?_
      ·
        refine wp_region_lit ?_
        refine st_y hf rfl rfl rfl (y_move rfl rfl) ?_
        clear hf a; intro a hf
        refine st_y hf rfl rfl rfl (y_move rfl rfl) ?_
        clear hf a; intro a hf
        rcases bcases (xs2_1) with h3_1 | h3_1
        ·
          replace hq2_1 := (ite_t h3_1).symm.trans hq2_1
          refine st_no hf rfl rfl (lk_b rfl h3_1) rfl rfl rfl ?_
          clear hf a; intro a hf
          refine st_no hf rfl rfl (lk_b rfl h3_1) rfl rfl rfl ?_
          clear hf a; intro a hf
          refine st_no hf rfl rfl (lk_b rfl h3_1) rfl rfl rfl ?_
          clear hf a; intro a hf
          refine st_no hf rfl rfl (lk_b rfl h3_1) rfl rfl rfl ?_
          clear hf a; intro a hf
          refine st_no hf rfl rfl (lk_b rfl h3_1) rfl rfl rfl ?_
          clear hf a; intro a hf
          refine st_y hf rfl rfl rfl (y_pick_t rfl (ev_b rfl h3_1) rfl) ?_
          clear hf a; intro a hf
          refine st_y hf rfl rfl rfl (y_assign rfl rfl) ?_
          clear hf a; intro a hf
          refine st_end ?_
          refine x_then_n ?_
          obtain rfl := Option.some.inj hq2_1
          exact ⟨hf.sub ⟨rfl, rfl, rfl, rfl, rfl, rfl, trivial⟩, hm.pick [0] (by decide) rfl⟩
        ·
          replace hq2_1 := (ite_f h3_1).symm.trans hq2_1
          refine st_yg hf rfl rfl (lk_b rfl h3_1) rfl rfl (y_move rfl rfl) ?_
          clear hf a; intro a hf
          refine st_yg hf rfl rfl (lk_b rfl h3_1) rfl rfl (y_move rfl rfl) ?_
          clear hf a; intro a hf
          obtain ⟨x3_1, hx3_1, hq2_1⟩ := bnd hq2_1
          obtain ⟨h3_2, hx3_2⟩ := getI_some.1 hx3_1
          refine st_yg hf rfl rfl (lk_b rfl h3_1) rfl rfl (y_idx_str (p := fields) Tryd.underlying9 rfl rfl rfl h3_2 hx3_2) ?_
          clear hf a; intro a hf
          refine st_yg hf rfl rfl (lk_b rfl h3_1) rfl rfl (y_move rfl rfl) ?_
          clear hf a; intro a hf
          refine st_yg hf rfl rfl (lk_b rfl h3_1) rfl rfl (y_eql8 (b := x3_1) (c := x1_1) rfl rfl rfl) ?_
          clear hf a; intro a hf
          refine st_y hf rfl rfl rfl (y_pick_f rfl (ev_b rfl h3_1) rfl) ?_
          clear hf a; intro a hf
          refine st_y hf rfl rfl rfl (y_assign rfl rfl) ?_
          clear hf a; intro a hf
          refine st_end ?_
          refine x_then_n ?_
          obtain rfl := Option.some.inj hq2_1
          exact ⟨hf.sub ⟨rfl, rfl, rfl, rfl, rfl, rfl, trivial⟩, hm.pick [0] (by decide) rfl⟩
      ·
        clear hf hm
        rintro a w ⟨hf, hm⟩
        refine x_blk_n ?_
        refine x_then_n ?_
        refine wp_region_lit ?_
        refine st_y hf rfl rfl rfl (y_move rfl rfl) ?_
        clear hf a; intro a hf
        refine st_y hf rfl rfl rfl (y_add64 rfl rfl rfl (by omega) (by omega)) ?_
        clear hf a; intro a hf
        refine st_y hf rfl rfl rfl (y_assign rfl rfl) ?_
        clear hf a; intro a hf
        refine st_end ?_
        refine x_then_n ?_
        obtain rfl := Option.some.inj hb1_1
        exact ⟨_, rfl, hf.sub ⟨rfl, rfl, rfl, rfl, rfl, rfl, trivial⟩, hm.pick [0] (by decide) rfl⟩
    ·
      clear hf hm
      rintro i1_2 xs1_2 a w ⟨hf, hm⟩ hi1_3 hi1_4 rfl
      replace hb0_1 := sum_l hb0_1
      refine wp_seq ?_
      refine wp_seq ?_
      refine wp_region_lit ?_
      refine st_y hf rfl rfl rfl (y_move rfl rfl) ?_
      clear hf a; intro a hf
      refine st_y hf rfl rfl rfl (y_move rfl rfl) ?_
      clear hf a; intro a hf
      refine st_y hf rfl rfl rfl (y_len_str (p := fields) Tryd.underlying9 rfl rfl) ?_
      clear hf a; intro a hf
      have hl1_2 := (fields).h
      refine st_y hf rfl rfl rfl (y_lss rfl rfl rfl) ?_
      clear hf a; intro a hf
      refine st_end ?_
      refine x_then_n ?_
      refine cond_f hf rfl (decide_eq_false (by omega)) ?_
      refine wp_exit ?_
      refine x_then_exit ?_
      refine x_then_exit ?_
      refine x_blk_hit ?_
      refine x_then_n ?_
      refine wp_seq ?_
      obtain ⟨s1_1, hq1_1, hb0_1⟩ := bnd hb0_1
      refine code_cut (K := fun a w => Fr 37 [(1, (.string ⟨(fields).b.toArray⟩)), (2, (.pointer (some ⟨b0_1, 0, none⟩))), (5, (.int .i64 (i1_1))), (36, (.bool (s1_1)))] a ∧ Mem w0 (hp w0) w [blk b0_1 [(.int .i64 (x_.op)), (.int .i64 (x_.a_)), (.int .i64 (x_.b)), (.int .i64 (x_.c)), (.int .i64 (x_.n_))] 27]) ?_ ?_
      ·
        refine wp_region_lit ?_
        refine st_y hf rfl rfl rfl (y_move rfl rfl) ?_
        clear hf a; intro a hf
        refine st_y hf rfl rfl rfl (y_not rfl rfl) ?_
        clear hf a; intro a hf
        refine st_y hf rfl rfl rfl (y_move rfl rfl) ?_
        clear hf a; intro a hf
        rcases bcases (!(xs1_2)) with h2_1 | h2_1
        ·
          replace hq1_1 := (ite_t h2_1).symm.trans hq1_1
          have h2_2 := bnot_t' h2_1
          refine st_yg hf rfl rfl (lk_b rfl h2_1) rfl rfl (y_loadN (cs := [(.int .i64 (x_.op)), (.int .i64 (x_.a_)), (.int .i64 (x_.b)), (.int .i64 (x_.c)), (.int .i64 (x_.n_))]) Tryd.isAgg27 Tryd.sizeOf27 rfl rfl (hm.blk_at 0 rfl)) ?_
          clear hf a; intro a hf
          refine st_yg hf rfl rfl (lk_b rfl h2_1) rfl rfl (y_move rfl rfl) ?_
          clear hf a; intro a hf
          obtain ⟨r2_1, hx2_1, hq1_1⟩ := bnd hq1_1
          refine st_efg hf rfl rfl (lk_b rfl h2_1) rfl rfl (e_call hf rfl Tryd.call64 rfl (spec_l22Field_ok _ x_ x1_1 _ hx2_1)) ?_
          clear hf a; rintro _ w2_1 a ⟨rfl, hB⟩ hf
          replace hm := hm.below' hB; clear hB
          refine st_yg hf rfl rfl (lk_b rfl h2_1) rfl rfl (y_neq rfl rfl rfl) ?_
          clear hf a; intro a hf
          refine st_y hf rfl rfl rfl (y_pick_t rfl (ev_b rfl h2_1) rfl) ?_
          clear hf a; intro a hf
          refine st_end ?_
          refine x_then_n ?_
          obtain rfl := Option.some.inj hq1_1
          exact ⟨hf.sub ⟨rfl, rfl, rfl, rfl, trivial⟩, hm.pick [0] (by decide) rfl⟩
        ·
          replace hq1_1 := (ite_f h2_1).symm.trans hq1_1
          have h2_3 := bnot_f' h2_1
          refine st_no hf rfl rfl (lk_b rfl h2_1) rfl rfl rfl ?_
          clear hf a; intro a hf
          refine st_no hf rfl rfl (lk_b rfl h2_1) rfl rfl rfl ?_
          clear hf a; intro a hf
          refine st_no hf rfl rfl (lk_b rfl h2_1) rfl rfl rfl ?_
          clear hf a; intro a hf
          refine st_no hf rfl rfl (lk_b rfl h2_1) rfl rfl rfl ?_
          clear hf a; intro a hf
          refine st_y hf rfl rfl rfl (y_pick_f rfl (ev_b rfl h2_1) rfl) ?_
          clear hf a; intro a hf
          refine st_end ?_
          refine x_then_n ?_
          obtain rfl := Option.some.inj hq1_1
          exact ⟨hf.sub ⟨rfl, rfl, rfl, rfl, trivial⟩, hm.pick [0] (by decide) rfl⟩
      ·
        clear hf hm
        rintro a w ⟨hf, hm⟩
        refine x_then_n ?_
        rcases bcases (s1_1) with h1_2 | h1_2
        ·
          replace hb0_1 := (ite_t h1_2).symm.trans hb0_1
          refine cond_t hf rfl h1_2 ?_
          refine wp_seq ?_
          refine wp_region_lit ?_
          refine st_y hf rfl rfl rfl (y_assign rfl rfl) ?_
          clear hf a; intro a hf
          refine st_end ?_
          refine x_then_n ?_
          refine wp_ret ?_
          refine x_blk_ret ?_
          refine x_then_ret ?_
          refine x_then_ret ?_
          refine x_blk_ret ?_
          refine x_then_ret ?_
          obtain rfl := Option.some.inj hb0_1
          obtain rfl := ho0_1 _ rfl
          replace hq := sum_r hq
          obtain rfl := Option.some.inj hq
          refine ret_tmp hf Tryd.results38 rfl ?_
          exact ⟨rfl, hm.below⟩
        ·
          replace hb0_1 := (ite_f h1_2).symm.trans hb0_1
          refine cond_f hf rfl h1_2 ?_
          refine wp_skip ?_
          refine x_blk_n ?_
          refine x_then_n ?_
          refine wp_region_lit ?_
          refine st_y hf rfl rfl rfl (y_move rfl rfl) ?_
          clear hf a; intro a hf
          refine st_y hf rfl rfl rfl (y_add64 rfl rfl rfl (by omega) (by omega)) ?_
          clear hf a; intro a hf
          refine st_y hf rfl rfl rfl (y_assign rfl rfl) ?_
          clear hf a; intro a hf
          refine st_end ?_
          refine x_then_n ?_
          obtain rfl := Option.some.inj hb0_1
          exact ⟨_, rfl, hf.sub ⟨rfl, rfl, rfl, trivial⟩, hm.pick [0] (by decide) rfl⟩
  ·
    clear hf hm
    rintro i0_1 xs0_1 a w ⟨hf, hm⟩ hi0_1 hi0_2 rfl
    replace hq := sum_l hq
    refine wp_seq ?_
    refine wp_seq ?_
    refine wp_region_lit ?_
    refine st_y hf rfl rfl rfl (y_move rfl rfl) ?_
    clear hf a; intro a hf
    refine st_y hf rfl rfl rfl (y_lss rfl rfl rfl) ?_
    clear hf a; intro a hf
    refine st_end ?_
    refine x_then_n ?_
    refine cond_f hf rfl (decide_eq_false (by omega)) ?_
    refine wp_exit ?_
    refine x_then_exit ?_
    refine x_then_exit ?_
    refine x_blk_hit ?_
    refine x_then_n ?_
    refine wp_seq ?_
    refine wp_region_lit ?_
    refine st_y hf rfl rfl rfl (y_assign rfl rfl) ?_
    clear hf a; intro a hf
    refine st_end ?_
    refine x_then_n ?_
    refine wp_ret ?_
    obtain rfl := Option.some.inj hq
    refine ret_tmp hf Tryd.results38 rfl ?_
    exact ⟨rfl, hm.below⟩

theorem spec_l25Plain_ok (w0 : World) (x_ : Mins) (r : (List UInt8)) (hq : spec_l25Plain x_ = some r) :
    Con Tryd.prog 40 [(.agg #[(.int .i64 (x_.op)), (.int .i64 (x_.a_)), (.int .i64 (x_.b)), (.int .i64 (x_.c)), (.int .i64 (x_.n_))])] w0 (fun v w' => ∃ (x1 : Value), v = x1 ∧ Mem w0 (hp w0) w' [ow [x1] r]) := by
  unfold spec_l25Plain at hq
  refine con_body (l := [(0, (.agg #[(.int .i64 (x_.op)), (.int .i64 (x_.a_)), (.int .i64 (x_.b)), (.int .i64 (x_.c)), (.int .i64 (x_.n_))]))]) Tryd.func40 rfl Tryd.ntmps40 (Args.get ⟨rfl, trivial⟩) rfl ?_
  intro a hf
  have hm := Mem.start w0
  refine wp_seq ?_
  refine wp_region_lit ?_
  refine st_ef hf rfl rfl rfl (e_box hf hm rfl rfl rfl) ?_
  clear hf a; rintro _ w0_1 a ⟨b0_1, rfl, hm⟩ hf
  refine st_y hf rfl rfl rfl (y_assign rfl rfl) ?_
  clear hf a; intro a hf
  refine st_end ?_
  refine x_then_n ?_
  refine wp_seq ?_
  refine wp_block ?_
  refine wp_seq ?_
  obtain ⟨s0_1, hq0_1, hq⟩ := bnd hq
  refine code_cut (K := fun a w => Fr 78 [(1, (.pointer (some ⟨b0_1, 0, none⟩))), (3, (.bool (s0_1)))] a ∧ Mem w0 (hp w0) w [blk b0_1 [(.int .i64 (x_.op)), (.int .i64 (x_.a_)), (.int .i64 (x_.b)), (.int .i64 (x_.c)), (.int .i64 (x_.n_))] 27]) ?_ ?_
  ·
    refine wp_region_lit ?_
    refine st_y hf rfl rfl rfl (y_fieldAddr fo_27_0 rfl rfl) ?_
    clear hf a; intro a hf
    refine st_y hf rfl rfl rfl (y_load1 Tryd.isAgg3 rfl rfl (hm.blk_cell 0 rfl rfl)) ?_
    clear hf a; intro a hf
    refine st_y hf rfl rfl rfl (y_eql rfl rfl rfl) ?_
    clear hf a; intro a hf
    refine st_y hf rfl rfl rfl (y_move rfl rfl) ?_
    clear hf a; intro a hf
    rcases bcases (decide (x_.op = 1)) with h1_1 | h1_1
    ·
      replace hq0_1 := (ite_t h1_1).symm.trans hq0_1
      have h1_2 := of_decide_eq_true h1_1
      refine st_no hf rfl rfl (lk_b rfl h1_1) rfl rfl rfl ?_
      clear hf a; intro a hf
      refine st_no hf rfl rfl (lk_b rfl h1_1) rfl rfl rfl ?_
      clear hf a; intro a hf
      refine st_no hf rfl rfl (lk_b rfl h1_1) rfl rfl rfl ?_
      clear hf a; intro a hf
      refine st_y hf rfl rfl rfl (y_pick_t rfl (ev_b rfl h1_1) rfl) ?_
      clear hf a; intro a hf
      refine st_y hf rfl rfl rfl (y_assign rfl rfl) ?_
      clear hf a; intro a hf
      refine st_end ?_
      refine x_then_n ?_
      obtain rfl := Option.some.inj hq0_1
      exact ⟨hf.sub ⟨rfl, rfl, trivial⟩, hm.pick [0] (by decide) rfl⟩
    ·
      replace hq0_1 := (ite_f h1_1).symm.trans hq0_1
      have h1_3 := of_decide_eq_false h1_1
      refine st_yg hf rfl rfl (lk_b rfl h1_1) rfl rfl (y_fieldAddr fo_27_0 rfl rfl) ?_
      clear hf a; intro a hf
      refine st_yg hf rfl rfl (lk_b rfl h1_1) rfl rfl (y_load1 Tryd.isAgg3 rfl rfl (hm.blk_cell 0 rfl rfl)) ?_
      clear hf a; intro a hf
      obtain ⟨r1_1, hx1_1, hq0_1⟩ := bnd hq0_1
      refine st_efg hf rfl rfl (lk_b rfl h1_1) rfl rfl (e_call hf rfl Tryd.call39 rfl (spec_l1In_ok _ x_.op 15 18 _ hx1_1)) ?_
      clear hf a; rintro _ w1_1 a ⟨rfl, hB⟩ hf
      replace hm := hm.below' hB; clear hB
      refine st_y hf rfl rfl rfl (y_pick_f rfl (ev_b rfl h1_1) rfl) ?_
      clear hf a; intro a hf
      refine st_y hf rfl rfl rfl (y_assign rfl rfl) ?_
      clear hf a; intro a hf
      refine st_end ?_
      refine x_then_n ?_
      obtain rfl := Option.some.inj hq0_1
      exact ⟨hf.sub ⟨rfl, rfl, trivial⟩, hm.pick [0] (by decide) rfl⟩
  ·
    clear hf hm
    rintro a w ⟨hf, hm⟩
    refine x_then_n ?_
    rcases bcases (s0_1) with h0_1 | h0_1
    ·
      replace hq := (ite_t h0_1).symm.trans hq
      refine cond_t hf rfl h0_1 ?_
      refine wp_seq ?_
      refine wp_region_lit ?_
      refine st_y hf rfl rfl rfl (y_fieldAddr fo_27_0 rfl rfl) ?_
      clear hf a; intro a hf
      refine st_y hf rfl rfl rfl (y_load1 Tryd.isAgg3 rfl rfl (hm.blk_cell 0 rfl rfl)) ?_
      clear hf a; intro a hf
      refine st_y hf rfl rfl rfl (y_conv8 Tryd.underlying3 Tryd.underlying5 rfl rfl) ?_
      clear hf a; intro a hf
      refine st_y hf rfl rfl rfl (y_fieldAddr fo_27_1 rfl rfl) ?_
      clear hf a; intro a hf
      refine st_y hf rfl rfl rfl (y_load1 Tryd.isAgg3 rfl rfl (hm.blk_cell 0 rfl rfl)) ?_
      clear hf a; intro a hf
      refine st_y hf rfl rfl rfl (y_conv8 Tryd.underlying3 Tryd.underlying5 rfl rfl) ?_
      clear hf a; intro a hf
      refine st_y hf rfl rfl rfl (y_fieldAddr fo_27_4 rfl rfl) ?_
      clear hf a; intro a hf
      refine st_y hf rfl rfl rfl (y_load1 Tryd.isAgg3 rfl rfl (hm.blk_cell 0 rfl rfl)) ?_
      clear hf a; intro a hf
      refine st_y hf rfl rfl rfl (y_conv8 Tryd.underlying3 Tryd.underlying5 rfl rfl) ?_
      clear hf a; intro a hf
      refine st_ef hf rfl rfl rfl (e_build (vs := #[(0, (.int .u8 (((byteI x_.op)).toNat : Int))), (1, (.int .u8 (((byteI x_.a_)).toNat : Int))), (2, (.int .u8 (((byteI x_.n_)).toNat : Int)))]) (cs := [(.int .u8 (((byteI x_.op)).toNat : Int)), (.int .u8 (((byteI x_.a_)).toNat : Int)), (.int .u8 (((byteI x_.n_)).toNat : Int))]) et_24 hf hm rfl rfl (by kernel_rfl) rfl rfl) ?_
      clear hf a; rintro _ w0_2 a ⟨b0_2, rfl, hm⟩ hf
      replace hm := hm.lit (xs := ([(byteI x_.op), (byteI x_.a_), (byteI x_.n_)] : List UInt8)) 0 rfl rfl rfl rfl
      refine st_y hf rfl rfl rfl (y_assign rfl rfl) ?_
      clear hf a; intro a hf
      refine st_end ?_
      refine x_then_n ?_
      refine wp_ret ?_
      refine x_blk_ret ?_
      refine x_then_ret ?_
      obtain rfl := Option.some.inj hq
      refine ret_tmp hf Tryd.results40 rfl ?_
      exact ⟨(.slice (some ⟨b0_2, 0, none⟩) 3 3), rfl, hm.pick [0] (by decide) rfl⟩
    ·
      replace hq := (ite_f h0_1).symm.trans hq
      refine cond_f hf rfl h0_1 ?_
      refine wp_seq ?_
      refine wp_region_lit ?_
      refine st_y hf rfl rfl rfl (y_fieldAddr fo_27_0 rfl rfl) ?_
      clear hf a; intro a hf
      refine st_y hf rfl rfl rfl (y_load1 Tryd.isAgg3 rfl rfl (hm.blk_cell 0 rfl rfl)) ?_
      clear hf a; intro a hf
      obtain ⟨r0_1, hx0_1, hq⟩ := bnd hq
      refine st_ef hf rfl rfl rfl (e_call hf rfl Tryd.call39 rfl (spec_l1In_ok _ x_.op 3 9 _ hx0_1)) ?_
      clear hf a; rintro _ w0_3 a ⟨rfl, hB⟩ hf
      replace hm := hm.below' hB; clear hB
      refine st_y hf rfl rfl rfl (y_assign rfl rfl) ?_
      clear hf a; intro a hf
      refine st_end ?_
      refine x_then_n ?_
      rcases bcases (r0_1) with h0_2 | h0_2
      ·
        replace hq := (ite_t h0_2).symm.trans hq
        refine cond_t hf rfl h0_2 ?_
        refine wp_seq ?_
        refine wp_region_lit ?_
        refine st_y hf rfl rfl rfl (y_fieldAddr fo_27_0 rfl rfl) ?_
        clear hf a; intro a hf
        refine st_y hf rfl rfl rfl (y_load1 Tryd.isAgg3 rfl rfl (hm.blk_cell 0 rfl rfl)) ?_
        clear hf a; intro a hf
        refine st_y hf rfl rfl rfl (y_conv8 Tryd.underlying3 Tryd.underlying5 rfl rfl) ?_
        clear hf a; intro a hf
        refine st_y hf rfl rfl rfl (y_fieldAddr fo_27_1 rfl rfl) ?_
        clear hf a; intro a hf
        refine st_y hf rfl rfl rfl (y_load1 Tryd.isAgg3 rfl rfl (hm.blk_cell 0 rfl rfl)) ?_
        clear hf a; intro a hf
        refine st_y hf rfl rfl rfl (y_fieldAddr fo_27_2 rfl rfl) ?_
        clear hf a; intro a hf
        refine st_y hf rfl rfl rfl (y_load1 Tryd.isAgg3 rfl rfl (hm.blk_cell 0 rfl rfl)) ?_
        clear hf a; intro a hf
        refine st_y hf rfl rfl rfl (y_mulw rfl rfl rfl) ?_
        clear hf a; intro a hf
        refine st_y hf rfl rfl rfl (y_addw rfl rfl rfl) ?_
        clear hf a; intro a hf
        refine st_y hf rfl rfl rfl (y_conv8 Tryd.underlying3 Tryd.underlying5 rfl rfl) ?_
        clear hf a; intro a hf
        refine st_y hf rfl rfl rfl (y_fieldAddr fo_27_3 rfl rfl) ?_
        clear hf a; intro a hf
        refine st_y hf rfl rfl rfl (y_load1 Tryd.isAgg3 rfl rfl (hm.blk_cell 0 rfl rfl)) ?_
        clear hf a; intro a hf
        refine st_y hf rfl rfl rfl (y_conv8 Tryd.underlying3 Tryd.underlying5 rfl rfl) ?_
        clear hf a; intro a hf
        refine st_ef hf rfl rfl rfl (e_build (vs := #[(0, (.int .u8 (((byteI x_.op)).toNat : Int))), (1, (.int .u8 (((byteI (w64 (x_.a_ + (w64 (8 * x_.b)))))).toNat : Int))), (2, (.int .u8 (((byteI x_.c)).toNat : Int)))]) (cs := [(.int .u8 (((byteI x_.op)).toNat : Int)), (.int .u8 (((byteI (w64 (x_.a_ + (w64 (8 * x_.b)))))).toNat : Int)), (.int .u8 (((byteI x_.c)).toNat : Int))]) et_24 hf hm rfl rfl (by kernel_rfl) rfl rfl) ?_
        clear hf a; rintro _ w0_4 a ⟨b0_3, rfl, hm⟩ hf
        replace hm := hm.lit (xs := ([(byteI x_.op), (byteI (w64 (x_.a_ + (w64 (8 * x_.b))))), (byteI x_.c)] : List UInt8)) 0 rfl rfl rfl rfl
        refine st_y hf rfl rfl rfl (y_assign rfl rfl) ?_
        clear hf a; intro a hf
        refine st_end ?_
        refine x_then_n ?_
        refine wp_ret ?_
        refine x_blk_ret ?_
        refine x_then_ret ?_
        obtain rfl := Option.some.inj hq
        refine ret_tmp hf Tryd.results40 rfl ?_
        exact ⟨(.slice (some ⟨b0_3, 0, none⟩) 3 3), rfl, hm.pick [0] (by decide) rfl⟩
      ·
        replace hq := (ite_f h0_2).symm.trans hq
        refine cond_f hf rfl h0_2 ?_
        refine wp_seq ?_
        obtain ⟨s0_2, hq0_2, hq⟩ := bnd hq
        refine code_cut (K := fun a w => Fr 78 [(1, (.pointer (some ⟨b0_1, 0, none⟩))), (40, (.bool (s0_2)))] a ∧ Mem w0 (hp w0) w [blk b0_1 [(.int .i64 (x_.op)), (.int .i64 (x_.a_)), (.int .i64 (x_.b)), (.int .i64 (x_.c)), (.int .i64 (x_.n_))] 27]) ?_ ?_
        ·
          refine wp_region_lit ?_
          refine st_y hf rfl rfl rfl (y_fieldAddr fo_27_0 rfl rfl) ?_
          clear hf a; intro a hf
          refine st_y hf rfl rfl rfl (y_load1 Tryd.isAgg3 rfl rfl (hm.blk_cell 0 rfl rfl)) ?_
          clear hf a; intro a hf
          refine st_y hf rfl rfl rfl (y_eql rfl rfl rfl) ?_
          clear hf a; intro a hf
          refine st_y hf rfl rfl rfl (y_move rfl rfl) ?_
          clear hf a; intro a hf
          rcases bcases (decide (x_.op = 2)) with h1_4 | h1_4
          ·
            replace hq0_2 := (ite_t h1_4).symm.trans hq0_2
            have h1_5 := of_decide_eq_true h1_4
            refine st_no hf rfl rfl (lk_b rfl h1_4) rfl rfl rfl ?_
            clear hf a; intro a hf
            refine st_no hf rfl rfl (lk_b rfl h1_4) rfl rfl rfl ?_
            clear hf a; intro a hf
            refine st_no hf rfl rfl (lk_b rfl h1_4) rfl rfl rfl ?_
            clear hf a; intro a hf
            refine st_y hf rfl rfl rfl (y_pick_t rfl (ev_b rfl h1_4) rfl) ?_
            clear hf a; intro a hf
            refine st_y hf rfl rfl rfl (y_assign rfl rfl) ?_
            clear hf a; intro a hf
            refine st_end ?_
            refine x_then_n ?_
            obtain rfl := Option.some.inj hq0_2
            exact ⟨hf.sub ⟨rfl, rfl, trivial⟩, hm.pick [0] (by decide) rfl⟩
          ·
            replace hq0_2 := (ite_f h1_4).symm.trans hq0_2
            have h1_6 := of_decide_eq_false h1_4
            refine st_yg hf rfl rfl (lk_b rfl h1_4) rfl rfl (y_fieldAddr fo_27_0 rfl rfl) ?_
            clear hf a; intro a hf
            refine st_yg hf rfl rfl (lk_b rfl h1_4) rfl rfl (y_load1 Tryd.isAgg3 rfl rfl (hm.blk_cell 0 rfl rfl)) ?_
            clear hf a; intro a hf
            obtain ⟨r1_2, hx1_2, hq0_2⟩ := bnd hq0_2
            refine st_efg hf rfl rfl (lk_b rfl h1_4) rfl rfl (e_call hf rfl Tryd.call39 rfl (spec_l1In_ok _ x_.op 10 12 _ hx1_2)) ?_
            clear hf a; rintro _ w1_2 a ⟨rfl, hB⟩ hf
            replace hm := hm.below' hB; clear hB
            refine st_y hf rfl rfl rfl (y_pick_f rfl (ev_b rfl h1_4) rfl) ?_
            clear hf a; intro a hf
            refine st_y hf rfl rfl rfl (y_assign rfl rfl) ?_
            clear hf a; intro a hf
            refine st_end ?_
            refine x_then_n ?_
            obtain rfl := Option.some.inj hq0_2
            exact ⟨hf.sub ⟨rfl, rfl, trivial⟩, hm.pick [0] (by decide) rfl⟩
        ·
          clear hf hm
          rintro a w ⟨hf, hm⟩
          refine x_then_n ?_
          rcases bcases (s0_2) with h0_3 | h0_3
          ·
            replace hq := (ite_t h0_3).symm.trans hq
            refine cond_t hf rfl h0_3 ?_
            refine wp_seq ?_
            refine wp_region_lit ?_
            refine st_y hf rfl rfl rfl (y_fieldAddr fo_27_0 rfl rfl) ?_
            clear hf a; intro a hf
            refine st_y hf rfl rfl rfl (y_load1 Tryd.isAgg3 rfl rfl (hm.blk_cell 0 rfl rfl)) ?_
            clear hf a; intro a hf
            refine st_y hf rfl rfl rfl (y_conv8 Tryd.underlying3 Tryd.underlying5 rfl rfl) ?_
            clear hf a; intro a hf
            refine st_y hf rfl rfl rfl (y_fieldAddr fo_27_1 rfl rfl) ?_
            clear hf a; intro a hf
            refine st_y hf rfl rfl rfl (y_load1 Tryd.isAgg3 rfl rfl (hm.blk_cell 0 rfl rfl)) ?_
            clear hf a; intro a hf
            refine st_y hf rfl rfl rfl (y_fieldAddr fo_27_2 rfl rfl) ?_
            clear hf a; intro a hf
            refine st_y hf rfl rfl rfl (y_load1 Tryd.isAgg3 rfl rfl (hm.blk_cell 0 rfl rfl)) ?_
            clear hf a; intro a hf
            refine st_y hf rfl rfl rfl (y_mulw rfl rfl rfl) ?_
            clear hf a; intro a hf
            refine st_y hf rfl rfl rfl (y_addw rfl rfl rfl) ?_
            clear hf a; intro a hf
            refine st_y hf rfl rfl rfl (y_conv8 Tryd.underlying3 Tryd.underlying5 rfl rfl) ?_
            clear hf a; intro a hf
            refine st_ef hf rfl rfl rfl (e_build (vs := #[(0, (.int .u8 (((byteI x_.op)).toNat : Int))), (1, (.int .u8 (((byteI (w64 (x_.a_ + (w64 (8 * x_.b)))))).toNat : Int)))]) (cs := [(.int .u8 (((byteI x_.op)).toNat : Int)), (.int .u8 (((byteI (w64 (x_.a_ + (w64 (8 * x_.b)))))).toNat : Int))]) et_24 hf hm rfl rfl (by kernel_rfl) rfl rfl) ?_
            clear hf a; rintro _ w0_5 a ⟨b0_4, rfl, hm⟩ hf
            replace hm := hm.lit (xs := ([(byteI x_.op), (byteI (w64 (x_.a_ + (w64 (8 * x_.b)))))] : List UInt8)) 0 rfl rfl rfl rfl
            refine st_y hf rfl rfl rfl (y_assign rfl rfl) ?_
            clear hf a; intro a hf
            refine st_end ?_
            refine x_then_n ?_
            refine wp_ret ?_
            refine x_blk_ret ?_
            refine x_then_ret ?_
            obtain rfl := Option.some.inj hq
            refine ret_tmp hf Tryd.results40 rfl ?_
            exact ⟨(.slice (some ⟨b0_4, 0, none⟩) 2 2), rfl, hm.pick [0] (by decide) rfl⟩
          ·
            replace hq := (ite_f h0_3).symm.trans hq
            refine cond_f hf rfl h0_3 ?_
            refine wp_seq ?_
            refine wp_region_lit ?_
            refine st_y hf rfl rfl rfl (y_fieldAddr fo_27_0 rfl rfl) ?_
            clear hf a; intro a hf
            refine st_y hf rfl rfl rfl (y_load1 Tryd.isAgg3 rfl rfl (hm.blk_cell 0 rfl rfl)) ?_
            clear hf a; intro a hf
            refine st_y hf rfl rfl rfl (y_eql rfl rfl rfl) ?_
            clear hf a; intro a hf
            refine st_y hf rfl rfl rfl (y_assign rfl rfl) ?_
            clear hf a; intro a hf
            refine st_end ?_
            refine x_then_n ?_
            rcases bcases (decide (x_.op = 14)) with h0_4 | h0_4
            ·
              replace hq := (ite_t h0_4).symm.trans hq
              have h0_5 := of_decide_eq_true h0_4
              refine cond_t hf rfl h0_4 ?_
              refine wp_seq ?_
              refine wp_region_lit ?_
              refine st_y hf rfl rfl rfl (y_fieldAddr fo_27_0 rfl rfl) ?_
              clear hf a; intro a hf
              refine st_y hf rfl rfl rfl (y_load1 Tryd.isAgg3 rfl rfl (hm.blk_cell 0 rfl rfl)) ?_
              clear hf a; intro a hf
              refine st_y hf rfl rfl rfl (y_conv8 Tryd.underlying3 Tryd.underlying5 rfl rfl) ?_
              clear hf a; intro a hf
              refine st_y hf rfl rfl rfl (y_fieldAddr fo_27_4 rfl rfl) ?_
              clear hf a; intro a hf
              refine st_y hf rfl rfl rfl (y_load1 Tryd.isAgg3 rfl rfl (hm.blk_cell 0 rfl rfl)) ?_
              clear hf a; intro a hf
              refine st_y hf rfl rfl rfl (y_conv8 Tryd.underlying3 Tryd.underlying5 rfl rfl) ?_
              clear hf a; intro a hf
              refine st_ef hf rfl rfl rfl (e_build (vs := #[(0, (.int .u8 (((byteI x_.op)).toNat : Int))), (1, (.int .u8 (((byteI x_.n_)).toNat : Int)))]) (cs := [(.int .u8 (((byteI x_.op)).toNat : Int)), (.int .u8 (((byteI x_.n_)).toNat : Int))]) et_24 hf hm rfl rfl (by kernel_rfl) rfl rfl) ?_
              clear hf a; rintro _ w0_6 a ⟨b0_5, rfl, hm⟩ hf
              replace hm := hm.lit (xs := ([(byteI x_.op), (byteI x_.n_)] : List UInt8)) 0 rfl rfl rfl rfl
              refine st_y hf rfl rfl rfl (y_assign rfl rfl) ?_
              clear hf a; intro a hf
              refine st_end ?_
              refine x_then_n ?_
              refine wp_ret ?_
              refine x_blk_ret ?_
              refine x_then_ret ?_
              obtain rfl := Option.some.inj hq
              refine ret_tmp hf Tryd.results40 rfl ?_
              exact ⟨(.slice (some ⟨b0_5, 0, none⟩) 2 2), rfl, hm.pick [0] (by decide) rfl⟩
            ·
              replace hq := (ite_f h0_4).symm.trans hq
              have h0_6 := of_decide_eq_false h0_4
              refine cond_f hf rfl h0_4 ?_
              refine wp_skip ?_
              refine x_blk_n ?_
              refine x_then_n ?_
              refine wp_seq ?_
              refine wp_region_lit ?_
              refine st_y hf rfl rfl rfl (y_fieldAddr fo_27_0 rfl rfl) ?_
              clear hf a; intro a hf
              refine st_y hf rfl rfl rfl (y_load1 Tryd.isAgg3 rfl rfl (hm.blk_cell 0 rfl rfl)) ?_
              clear hf a; intro a hf
              refine st_y hf rfl rfl rfl (y_conv8 Tryd.underlying3 Tryd.underlying5 rfl rfl) ?_
              clear hf a; intro a hf
              refine st_y hf rfl rfl rfl (y_fieldAddr fo_27_1 rfl rfl) ?_
              clear hf a; intro a hf
              refine st_y hf rfl rfl rfl (y_load1 Tryd.isAgg3 rfl rfl (hm.blk_cell 0 rfl rfl)) ?_
              clear hf a; intro a hf
              refine st_y hf rfl rfl rfl (y_conv8 Tryd.underlying3 Tryd.underlying5 rfl rfl) ?_
              clear hf a; intro a hf
              refine st_ef hf rfl rfl rfl (e_build (vs := #[(0, (.int .u8 (((byteI x_.op)).toNat : Int))), (1, (.int .u8 (((byteI x_.a_)).toNat : Int)))]) (cs := [(.int .u8 (((byteI x_.op)).toNat : Int)), (.int .u8 (((byteI x_.a_)).toNat : Int))]) et_24 hf hm rfl rfl (by kernel_rfl) rfl rfl) ?_
              clear hf a; rintro _ w0_7 a ⟨b0_6, rfl, hm⟩ hf
              replace hm := hm.lit (xs := ([(byteI x_.op), (byteI x_.a_)] : List UInt8)) 0 rfl rfl rfl rfl
              refine st_y hf rfl rfl rfl (y_assign rfl rfl) ?_
              clear hf a; intro a hf
              refine st_end ?_
              refine x_then_n ?_
              refine wp_ret ?_
              obtain rfl := Option.some.inj hq
              refine ret_tmp hf Tryd.results40 rfl ?_
              exact ⟨(.slice (some ⟨b0_6, 0, none⟩) 2 2), rfl, hm.pick [0] (by decide) rfl⟩

theorem spec_EncodeMins_ok (w0 : World) (x_ : Mins) (r : (List UInt8) × Bool) (hq : spec_EncodeMins x_ = some r) :
    Con Tryd.prog 10 [(.agg #[(.int .i64 (x_.op)), (.int .i64 (x_.a_)), (.int .i64 (x_.b)), (.int .i64 (x_.c)), (.int .i64 (x_.n_))])] w0 (fun v w' => ∃ (x1 : Value), v = (.tuple #[x1, (.bool (r.2))]) ∧ Mem w0 (hp w0) w' [ow [x1] r.1]) := by
  unfold spec_EncodeMins at hq
  refine con_body (l := [(0, (.agg #[(.int .i64 (x_.op)), (.int .i64 (x_.a_)), (.int .i64 (x_.b)), (.int .i64 (x_.c)), (.int .i64 (x_.n_))]))]) Tryd.func10 rfl Tryd.ntmps10 (Args.get ⟨rfl, trivial⟩) rfl ?_
  intro a hf
  have hm := Mem.start w0
  refine wp_seq ?_
  refine wp_region_lit ?_
  refine st_ef hf rfl rfl rfl (e_box hf hm rfl rfl rfl) ?_
  clear hf a; rintro _ w0_1 a ⟨b0_1, rfl, hm⟩ hf
  refine st_y hf rfl rfl rfl (y_assign rfl rfl) ?_
  clear hf a; intro a hf
  refine st_y hf rfl rfl rfl (y_assign rfl rfl) ?_
  clear hf a; intro a hf
  refine st_end ?_
  refine x_then_n ?_
  refine wp_seq ?_
  refine wp_region_lit ?_
  refine st_y hf rfl rfl rfl (y_fieldAddr fo_27_0 rfl rfl) ?_
  clear hf a; intro a hf
  refine st_y hf rfl rfl rfl (y_load1 Tryd.isAgg3 rfl rfl (hm.blk_cell 0 rfl rfl)) ?_
  clear hf a; intro a hf
  obtain ⟨r0_1, hx0_1, hq⟩ := bnd hq
  refine st_ef hf rfl rfl rfl (e_call hf rfl Tryd.call36 rfl (spec_l22Word_ok _ x_.op _ hx0_1)) ?_
  clear hf a; rintro _ w0_2 a ⟨rfl, hB⟩ hf
  replace hm := hm.below' hB; clear hB
  refine st_y hf rfl rfl rfl (y_move rfl rfl) ?_
  clear hf a; intro a hf
  refine st_y hf rfl rfl rfl (y_extract rfl rfl rfl) ?_
  clear hf a; intro a hf
  refine st_y hf rfl rfl rfl (y_extract rfl rfl rfl) ?_
  clear hf a; intro a hf
  refine st_y hf rfl rfl rfl (y_assign rfl rfl) ?_
  clear hf a; intro a hf
  refine st_y hf rfl rfl rfl (y_assign rfl rfl) ?_
  clear hf a; intro a hf
  refine st_end ?_
  refine x_then_n ?_
  refine wp_seq ?_
  refine wp_seq ?_
  obtain ⟨s0_1, hq0_1, hq⟩ := bnd hq
  refine code_cut (K := fun a w => Fr 54 [(1, (.pointer (some ⟨b0_1, 0, none⟩))), (30, (.bool (s0_1)))] a ∧ Mem w0 (hp w0) w [blk b0_1 [(.int .i64 (x_.op)), (.int .i64 (x_.a_)), (.int .i64 (x_.b)), (.int .i64 (x_.c)), (.int .i64 (x_.n_))] 27]) ?_ ?_
  ·
    refine wp_region_lit ?_
    refine st_y hf rfl rfl rfl (y_move rfl rfl) ?_
    clear hf a; intro a hf
    refine st_y hf rfl rfl rfl (y_eqls (p := r0_1.2) (q := (mkS [])) rfl rfl rfl) ?_
    clear hf a; intro a hf
    refine st_y hf rfl rfl rfl (y_move rfl rfl) ?_
    clear hf a; intro a hf
    rcases bcases (decide (r0_1.2 = (mkS []))) with h1_1 | h1_1
    ·
      replace hq0_1 := (ite_t h1_1).symm.trans hq0_1
      have h1_2 := of_decide_eq_true h1_1
      refine st_no hf rfl rfl (lk_b rfl h1_1) rfl rfl rfl ?_
      clear hf a; intro a hf
      refine st_no hf rfl rfl (lk_b rfl h1_1) rfl rfl rfl ?_
      clear hf a; intro a hf
      refine st_y hf rfl rfl rfl (y_pick_t rfl (ev_b rfl h1_1) rfl) ?_
      clear hf a; intro a hf
      refine st_y hf rfl rfl rfl (y_move rfl rfl) ?_
      clear hf a; intro a hf
      refine st_no hf rfl rfl (lk_b rfl rfl) rfl rfl rfl ?_
      clear hf a; intro a hf
      refine st_no hf rfl rfl (lk_b rfl rfl) rfl rfl rfl ?_
      clear hf a; intro a hf
      refine st_no hf rfl rfl (lk_b rfl rfl) rfl rfl rfl ?_
      clear hf a; intro a hf
      refine st_no hf rfl rfl (lk_b rfl rfl) rfl rfl rfl ?_
      clear hf a; intro a hf
      refine st_y hf rfl rfl rfl (y_pick_t rfl (ev_b rfl rfl) rfl) ?_
      clear hf a; intro a hf
      refine st_y hf rfl rfl rfl (y_move rfl rfl) ?_
      clear hf a; intro a hf
      refine st_no hf rfl rfl (lk_b rfl rfl) rfl rfl rfl ?_
      clear hf a; intro a hf
      refine st_no hf rfl rfl (lk_b rfl rfl) rfl rfl rfl ?_
      clear hf a; intro a hf
      refine st_no hf rfl rfl (lk_b rfl rfl) rfl rfl rfl ?_
      clear hf a; intro a hf
      refine st_no hf rfl rfl (lk_b rfl rfl) rfl rfl rfl ?_
      clear hf a; intro a hf
      refine st_y hf rfl rfl rfl (y_pick_t rfl (ev_b rfl rfl) rfl) ?_
      clear hf a; intro a hf
      refine st_end ?_
      refine x_then_n ?_
      obtain rfl := Option.some.inj hq0_1
      exact ⟨hf.sub ⟨rfl, rfl, trivial⟩, hm.pick [0] (by decide) rfl⟩
    ·
      replace hq0_1 := (ite_f h1_1).symm.trans hq0_1
      have h1_3 := of_decide_eq_false h1_1
      refine st_yg hf rfl rfl (lk_b rfl h1_1) rfl rfl (y_loadN (cs := [(.int .i64 (x_.op)), (.int .i64 (x_.a_)), (.int .i64 (x_.b)), (.int .i64 (x_.c)), (.int .i64 (x_.n_))]) Tryd.isAgg27 Tryd.sizeOf27 rfl rfl (hm.blk_at 0 rfl)) ?_
      clear hf a; intro a hf
      obtain ⟨r1_1, hx1_1, hq0_1⟩ := bnd hq0_1
      refine st_efg hf rfl rfl (lk_b rfl h1_1) rfl rfl (e_call hf rfl Tryd.call37 rfl (spec_l24Jumps_ok _ x_ _ hx1_1)) ?_
      clear hf a; rintro _ w1_1 a ⟨rfl, hB⟩ hf
      replace hm := hm.below' hB; clear hB
      refine st_y hf rfl rfl rfl (y_pick_f rfl (ev_b rfl h1_1) rfl) ?_
      clear hf a; intro a hf
      refine st_y hf rfl rfl rfl (y_move rfl rfl) ?_
      clear hf a; intro a hf
      rcases bcases (r1_1) with h1_4 | h1_4
      ·
        replace hq0_1 := (ite_t h1_4).symm.trans hq0_1
        refine st_no hf rfl rfl (lk_b rfl h1_4) rfl rfl rfl ?_
        clear hf a; intro a hf
        refine st_no hf rfl rfl (lk_b rfl h1_4) rfl rfl rfl ?_
        clear hf a; intro a hf
        refine st_no hf rfl rfl (lk_b rfl h1_4) rfl rfl rfl ?_
        clear hf a; intro a hf
        refine st_no hf rfl rfl (lk_b rfl h1_4) rfl rfl rfl ?_
        clear hf a; intro a hf
        refine st_y hf rfl rfl rfl (y_pick_t rfl (ev_b rfl h1_4) rfl) ?_
        clear hf a; intro a hf
        refine st_y hf rfl rfl rfl (y_move rfl rfl) ?_
        clear hf a; intro a hf
        refine st_no hf rfl rfl (lk_b rfl rfl) rfl rfl rfl ?_
        clear hf a; intro a hf
        refine st_no hf rfl rfl (lk_b rfl rfl) rfl rfl rfl ?_
        clear hf a; intro a hf
        refine st_no hf rfl rfl (lk_b rfl rfl) rfl rfl rfl ?_
        clear hf a; intro a hf
        refine st_no hf rfl rfl (lk_b rfl rfl) rfl rfl rfl ?_
        clear hf a; intro a hf
        refine st_y hf rfl rfl rfl (y_pick_t rfl (ev_b rfl rfl) rfl) ?_
        clear hf a; intro a hf
        refine st_end ?_
        refine x_then_n ?_
        obtain rfl := Option.some.inj hq0_1
        exact ⟨hf.sub ⟨rfl, rfl, trivial⟩, hm.pick [0] (by decide) rfl⟩
      ·
        replace hq0_1 := (ite_f h1_4).symm.trans hq0_1
        refine st_yg hf rfl rfl (lk_b rfl h1_4) rfl rfl (y_loadN (cs := [(.int .i64 (x_.op)), (.int .i64 (x_.a_)), (.int .i64 (x_.b)), (.int .i64 (x_.c)), (.int .i64 (x_.n_))]) Tryd.isAgg27 Tryd.sizeOf27 rfl rfl (hm.blk_at 0 rfl)) ?_
        clear hf a; intro a hf
        refine st_yg hf rfl rfl (lk_b rfl h1_4) rfl rfl (y_move rfl rfl) ?_
        clear hf a; intro a hf
        obtain ⟨r1_2, hx1_2, hq0_1⟩ := bnd hq0_1
        refine st_efg hf rfl rfl (lk_b rfl h1_4) rfl rfl (e_call hf rfl Tryd.call38 rfl (spec_l22Rest_ok _ x_ r0_1.2 _ hx1_2)) ?_
        clear hf a; rintro _ w1_2 a ⟨rfl, hB⟩ hf
        replace hm := hm.below' hB; clear hB
        refine st_yg hf rfl rfl (lk_b rfl h1_4) rfl rfl (y_not rfl rfl) ?_
        clear hf a; intro a hf
        refine st_y hf rfl rfl rfl (y_pick_f rfl (ev_b rfl h1_4) rfl) ?_
        clear hf a; intro a hf
        refine st_y hf rfl rfl rfl (y_move rfl rfl) ?_
        clear hf a; intro a hf
        rcases bcases (!(r1_2)) with h1_5 | h1_5
        ·
          replace hq0_1 := (ite_t h1_5).symm.trans hq0_1
          have h1_6 := bnot_t' h1_5
          refine st_no hf rfl rfl (lk_b rfl h1_5) rfl rfl rfl ?_
          clear hf a; intro a hf
          refine st_no hf rfl rfl (lk_b rfl h1_5) rfl rfl rfl ?_
          clear hf a; intro a hf
          refine st_no hf rfl rfl (lk_b rfl h1_5) rfl rfl rfl ?_
          clear hf a; intro a hf
          refine st_no hf rfl rfl (lk_b rfl h1_5) rfl rfl rfl ?_
          clear hf a; intro a hf
          refine st_y hf rfl rfl rfl (y_pick_t rfl (ev_b rfl h1_5) rfl) ?_
          clear hf a; intro a hf
          refine st_end ?_
          refine x_then_n ?_
          obtain rfl := Option.some.inj hq0_1
          exact ⟨hf.sub ⟨rfl, rfl, trivial⟩, hm.pick [0] (by decide) rfl⟩
        ·
          replace hq0_1 := (ite_f h1_5).symm.trans hq0_1
          have h1_7 := bnot_f' h1_5
          refine st_yg hf rfl rfl (lk_b rfl h1_5) rfl rfl (y_fieldAddr fo_27_4 rfl rfl) ?_
          clear hf a; intro a hf
          refine st_yg hf rfl rfl (lk_b rfl h1_5) rfl rfl (y_load1 Tryd.isAgg3 rfl rfl (hm.blk_cell 0 rfl rfl)) ?_
          clear hf a; intro a hf
          obtain ⟨r1_3, hx1_3, hq0_1⟩ := bnd hq0_1
          refine st_efg hf rfl rfl (lk_b rfl h1_5) rfl rfl (e_call hf rfl Tryd.call39 rfl (spec_l1In_ok _ x_.n_ 0 255 _ hx1_3)) ?_
          clear hf a; rintro _ w1_3 a ⟨rfl, hB⟩ hf
          replace hm := hm.below' hB; clear hB
          refine st_yg hf rfl rfl (lk_b rfl h1_5) rfl rfl (y_not rfl rfl) ?_
          clear hf a; intro a hf
          refine st_y hf rfl rfl rfl (y_pick_f rfl (ev_b rfl h1_5) rfl) ?_
          clear hf a; intro a hf
          refine st_end ?_
          refine x_then_n ?_
          obtain rfl := Option.some.inj hq0_1
          exact ⟨hf.sub ⟨rfl, rfl, trivial⟩, hm.pick [0] (by decide) rfl⟩
  ·
    clear hf hm
    rintro a w ⟨hf, hm⟩
    refine x_then_n ?_
    rcases bcases (s0_1) with h0_1 | h0_1
    ·
      replace hq := (ite_t h0_1).symm.trans hq
      refine cond_t hf rfl h0_1 ?_
      refine wp_seq ?_
      refine wp_region_lit ?_
      refine st_ef hf rfl rfl rfl (e_build0 (α := UInt8) et_24 hm rfl) ?_
      clear hf a; rintro v0_1 w0_3 a hm hf
      refine st_y hf rfl rfl rfl (y_assign rfl rfl) ?_
      clear hf a; intro a hf
      refine st_y hf rfl rfl rfl (y_assign rfl rfl) ?_
      clear hf a; intro a hf
      refine st_end ?_
      refine x_then_n ?_
      refine wp_ret ?_
      refine x_then_ret ?_
      obtain rfl := Option.some.inj hq
      refine ret_tmp2 hf Tryd.results10 rfl rfl ?_
      exact ⟨v0_1, rfl, hm.pick [0] (by decide) rfl⟩
    ·
      replace hq := (ite_f h0_1).symm.trans hq
      refine cond_f hf rfl h0_1 ?_
      refine wp_skip ?_
      refine x_then_n ?_
      refine wp_seq ?_
      refine wp_region_lit ?_
      refine st_y hf rfl rfl rfl (y_assign rfl rfl) ?_
      clear hf a; intro a hf
      refine st_end ?_
      refine x_then_n ?_
      refine wp_seq ?_
      refine wp_seq ?_
      obtain ⟨s0_2, hq0_2, hq⟩ := bnd hq
      refine code_cut (K := fun a w => Fr 54 [(1, (.pointer (some ⟨b0_1, 0, none⟩))), (50, (.bool (s0_2)))] a ∧ Mem w0 (hp w0) w [blk b0_1 [(.int .i64 (x_.op)), (.int .i64 (x_.a_)), (.int .i64 (x_.b)), (.int .i64 (x_.c)), (.int .i64 (x_.n_))] 27]) ?_ ?_
      ·
        refine wp_region_lit ?_
        refine st_y hf rfl rfl rfl (y_fieldAddr fo_27_1 rfl rfl) ?_
        clear hf a; intro a hf
        refine st_y hf rfl rfl rfl (y_load1 Tryd.isAgg3 rfl rfl (hm.blk_cell 0 rfl rfl)) ?_
        clear hf a; intro a hf
        refine st_y hf rfl rfl rfl (y_move rfl rfl) ?_
        clear hf a; intro a hf
        obtain ⟨r1_4, hx1_4, hq0_2⟩ := bnd hq0_2
        refine st_ef hf rfl rfl rfl (e_call hf rfl Tryd.call39 rfl (spec_l1In_ok _ x_.a_ 0 7 _ hx1_4)) ?_
        clear hf a; rintro _ w1_4 a ⟨rfl, hB⟩ hf
        replace hm := hm.below' hB; clear hB
        refine st_y hf rfl rfl rfl (y_not rfl rfl) ?_
        clear hf a; intro a hf
        refine st_y hf rfl rfl rfl (y_move rfl rfl) ?_
        clear hf a; intro a hf
        rcases bcases (!(r1_4)) with h1_8 | h1_8
        ·
          replace hq0_2 := (ite_t h1_8).symm.trans hq0_2
          have h1_9 := bnot_t' h1_8
          refine st_no hf rfl rfl (lk_b rfl h1_8) rfl rfl rfl ?_
          clear hf a; intro a hf
          refine st_no hf rfl rfl (lk_b rfl h1_8) rfl rfl rfl ?_
          clear hf a; intro a hf
          refine st_no hf rfl rfl (lk_b rfl h1_8) rfl rfl rfl ?_
          clear hf a; intro a hf
          refine st_no hf rfl rfl (lk_b rfl h1_8) rfl rfl rfl ?_
          clear hf a; intro a hf
          refine st_no hf rfl rfl (lk_b rfl h1_8) rfl rfl rfl ?_
          clear hf a; intro a hf
          refine st_y hf rfl rfl rfl (y_pick_t rfl (ev_b rfl h1_8) rfl) ?_
          clear hf a; intro a hf
          refine st_y hf rfl rfl rfl (y_move rfl rfl) ?_
          clear hf a; intro a hf
          refine st_no hf rfl rfl (lk_b rfl rfl) rfl rfl rfl ?_
          clear hf a; intro a hf
          refine st_no hf rfl rfl (lk_b rfl rfl) rfl rfl rfl ?_
          clear hf a; intro a hf
          refine st_no hf rfl rfl (lk_b rfl rfl) rfl rfl rfl ?_
          clear hf a; intro a hf
          refine st_no hf rfl rfl (lk_b rfl rfl) rfl rfl rfl ?_
          clear hf a; intro a hf
          refine st_no hf rfl rfl (lk_b rfl rfl) rfl rfl rfl ?_
          clear hf a; intro a hf
          refine st_y hf rfl rfl rfl (y_pick_t rfl (ev_b rfl rfl) rfl) ?_
          clear hf a; intro a hf
          refine st_end ?_
          refine x_then_n ?_
          obtain rfl := Option.some.inj hq0_2
          exact ⟨hf.sub ⟨rfl, rfl, trivial⟩, hm.pick [0] (by decide) rfl⟩
        ·
          replace hq0_2 := (ite_f h1_8).symm.trans hq0_2
          have h1_10 := bnot_f' h1_8
          refine st_yg hf rfl rfl (lk_b rfl h1_8) rfl rfl (y_fieldAddr fo_27_2 rfl rfl) ?_
          clear hf a; intro a hf
          refine st_yg hf rfl rfl (lk_b rfl h1_8) rfl rfl (y_load1 Tryd.isAgg3 rfl rfl (hm.blk_cell 0 rfl rfl)) ?_
          clear hf a; intro a hf
          refine st_yg hf rfl rfl (lk_b rfl h1_8) rfl rfl (y_move rfl rfl) ?_
          clear hf a; intro a hf
          obtain ⟨r1_5, hx1_5, hq0_2⟩ := bnd hq0_2
          refine st_efg hf rfl rfl (lk_b rfl h1_8) rfl rfl (e_call hf rfl Tryd.call39 rfl (spec_l1In_ok _ x_.b 0 7 _ hx1_5)) ?_
          clear hf a; rintro _ w1_5 a ⟨rfl, hB⟩ hf
          replace hm := hm.below' hB; clear hB
          refine st_yg hf rfl rfl (lk_b rfl h1_8) rfl rfl (y_not rfl rfl) ?_
          clear hf a; intro a hf
          refine st_y hf rfl rfl rfl (y_pick_f rfl (ev_b rfl h1_8) rfl) ?_
          clear hf a; intro a hf
          refine st_y hf rfl rfl rfl (y_move rfl rfl) ?_
          clear hf a; intro a hf
          rcases bcases (!(r1_5)) with h1_11 | h1_11
          ·
            replace hq0_2 := (ite_t h1_11).symm.trans hq0_2
            have h1_12 := bnot_t' h1_11
            refine st_no hf rfl rfl (lk_b rfl h1_11) rfl rfl rfl ?_
            clear hf a; intro a hf
            refine st_no hf rfl rfl (lk_b rfl h1_11) rfl rfl rfl ?_
            clear hf a; intro a hf
            refine st_no hf rfl rfl (lk_b rfl h1_11) rfl rfl rfl ?_
            clear hf a; intro a hf
            refine st_no hf rfl rfl (lk_b rfl h1_11) rfl rfl rfl ?_
            clear hf a; intro a hf
            refine st_no hf rfl rfl (lk_b rfl h1_11) rfl rfl rfl ?_
            clear hf a; intro a hf
            refine st_y hf rfl rfl rfl (y_pick_t rfl (ev_b rfl h1_11) rfl) ?_
            clear hf a; intro a hf
            refine st_end ?_
            refine x_then_n ?_
            obtain rfl := Option.some.inj hq0_2
            exact ⟨hf.sub ⟨rfl, rfl, trivial⟩, hm.pick [0] (by decide) rfl⟩
          ·
            replace hq0_2 := (ite_f h1_11).symm.trans hq0_2
            have h1_13 := bnot_f' h1_11
            refine st_yg hf rfl rfl (lk_b rfl h1_11) rfl rfl (y_fieldAddr fo_27_3 rfl rfl) ?_
            clear hf a; intro a hf
            refine st_yg hf rfl rfl (lk_b rfl h1_11) rfl rfl (y_load1 Tryd.isAgg3 rfl rfl (hm.blk_cell 0 rfl rfl)) ?_
            clear hf a; intro a hf
            refine st_yg hf rfl rfl (lk_b rfl h1_11) rfl rfl (y_move rfl rfl) ?_
            clear hf a; intro a hf
            obtain ⟨r1_6, hx1_6, hq0_2⟩ := bnd hq0_2
            refine st_efg hf rfl rfl (lk_b rfl h1_11) rfl rfl (e_call hf rfl Tryd.call39 rfl (spec_l1In_ok _ x_.c 0 7 _ hx1_6)) ?_
            clear hf a; rintro _ w1_6 a ⟨rfl, hB⟩ hf
            replace hm := hm.below' hB; clear hB
            refine st_yg hf rfl rfl (lk_b rfl h1_11) rfl rfl (y_not rfl rfl) ?_
            clear hf a; intro a hf
            refine st_y hf rfl rfl rfl (y_pick_f rfl (ev_b rfl h1_11) rfl) ?_
            clear hf a; intro a hf
            refine st_end ?_
            refine x_then_n ?_
            obtain rfl := Option.some.inj hq0_2
            exact ⟨hf.sub ⟨rfl, rfl, trivial⟩, hm.pick [0] (by decide) rfl⟩
      ·
        clear hf hm
        rintro a w ⟨hf, hm⟩
        refine x_then_n ?_
        rcases bcases (s0_2) with h0_2 | h0_2
        ·
          replace hq := (ite_t h0_2).symm.trans hq
          refine cond_t hf rfl h0_2 ?_
          refine wp_seq ?_
          refine wp_region_lit ?_
          refine st_ef hf rfl rfl rfl (e_build0 (α := UInt8) et_24 hm rfl) ?_
          clear hf a; rintro v0_2 w0_4 a hm hf
          refine st_y hf rfl rfl rfl (y_assign rfl rfl) ?_
          clear hf a; intro a hf
          refine st_y hf rfl rfl rfl (y_assign rfl rfl) ?_
          clear hf a; intro a hf
          refine st_end ?_
          refine x_then_n ?_
          refine wp_ret ?_
          refine x_then_ret ?_
          obtain rfl := Option.some.inj hq
          refine ret_tmp2 hf Tryd.results10 rfl rfl ?_
          exact ⟨v0_2, rfl, hm.pick [0] (by decide) rfl⟩
        ·
          replace hq := (ite_f h0_2).symm.trans hq
          refine cond_f hf rfl h0_2 ?_
          refine wp_skip ?_
          refine x_then_n ?_
          refine wp_seq ?_
          refine wp_region_lit ?_
          refine st_y hf rfl rfl rfl (y_loadN (cs := [(.int .i64 (x_.op)), (.int .i64 (x_.a_)), (.int .i64 (x_.b)), (.int .i64 (x_.c)), (.int .i64 (x_.n_))]) Tryd.isAgg27 Tryd.sizeOf27 rfl rfl (hm.blk_at 0 rfl)) ?_
          clear hf a; intro a hf
          obtain ⟨r0_2, hx0_2, hq⟩ := bnd hq
          refine st_ef hf rfl rfl rfl (e_call hf rfl Tryd.call40 rfl (spec_l25Plain_ok _ x_ _ hx0_2)) ?_
          clear hf a; rintro v0_3 w0_5 a ⟨_, rfl, hB⟩ hf
          replace hm := hm.give hB; clear hB
          refine st_y hf rfl rfl rfl (y_assign rfl rfl) ?_
          clear hf a; intro a hf
          refine st_y hf rfl rfl rfl (y_assign rfl rfl) ?_
          clear hf a; intro a hf
          refine st_end ?_
          refine x_then_n ?_
          refine wp_ret ?_
          obtain rfl := Option.some.inj hq
          refine ret_tmp2 hf Tryd.results10 rfl rfl ?_
          exact ⟨v0_3, rfl, hm.pick [0] (by decide) rfl⟩

theorem impl_within_ok (w0 : World) (n_ : Int) (low : Int) (high : Int) (r : Bool) (hq : impl_within n_ low high = some r) :
    Con Tryd.prog 43 [(.int .i64 (n_)), (.int .i64 (low)), (.int .i64 (high))] w0 (fun v w' => v = (.bool (r)) ∧ Below w0.heap.size w0 w') := by
  unfold impl_within at hq
  refine con_body (l := [(0, (.int .i64 (n_))), (1, (.int .i64 (low))), (2, (.int .i64 (high)))]) Tryd.func43 rfl Tryd.ntmps43 (Args.get ⟨rfl, rfl, rfl, trivial⟩) rfl ?_
  intro a hf
  have hm := Mem.start w0
  refine wp_seq ?_
  refine wp_region_lit ?_
  refine st_y hf rfl rfl rfl (y_assign rfl rfl) ?_
  clear hf a; intro a hf
  refine st_end ?_
  refine x_then_n ?_
  refine wp_seq ?_
  obtain ⟨s0_1, hq0_1, hq⟩ := bnd hq
  refine code_cut (K := fun a w => Fr 15 [(6, (.bool (s0_1)))] a ∧ Mem w0 (hp w0) w []) ?_ ?_
  ·
    refine wp_region_lit ?_
    refine st_y hf rfl rfl rfl (y_move rfl rfl) ?_
    clear hf a; intro a hf
    refine st_y hf rfl rfl rfl (y_move rfl rfl) ?_
    clear hf a; intro a hf
    refine st_y hf rfl rfl rfl (y_leq rfl rfl rfl) ?_
    clear hf a; intro a hf
    refine st_y hf rfl rfl rfl (y_move rfl rfl) ?_
    clear hf a; intro a hf
    rcases bcases (decide (low ≤ n_)) with h1_1 | h1_1
    ·
      replace hq0_1 := (ite_t h1_1).symm.trans hq0_1
      have h1_2 := of_decide_eq_true h1_1
      refine st_yg hf rfl rfl (lk_b rfl h1_1) rfl rfl (y_move rfl rfl) ?_
      clear hf a; intro a hf
      refine st_yg hf rfl rfl (lk_b rfl h1_1) rfl rfl (y_move rfl rfl) ?_
      clear hf a; intro a hf
      refine st_yg hf rfl rfl (lk_b rfl h1_1) rfl rfl (y_leq rfl rfl rfl) ?_
      clear hf a; intro a hf
      refine st_y hf rfl rfl rfl (y_pick_t rfl (ev_b rfl h1_1) rfl) ?_
      clear hf a; intro a hf
      refine st_y hf rfl rfl rfl (y_assign rfl rfl) ?_
      clear hf a; intro a hf
      refine st_end ?_
      refine x_then_n ?_
      obtain rfl := Option.some.inj hq0_1
      exact ⟨hf.sub ⟨rfl, trivial⟩, hm.pick [] (by decide) rfl⟩
    ·
      replace hq0_1 := (ite_f h1_1).symm.trans hq0_1
      have h1_3 := of_decide_eq_false h1_1
      refine st_no hf rfl rfl (lk_b rfl h1_1) rfl rfl rfl ?_
      clear hf a; intro a hf
      refine st_no hf rfl rfl (lk_b rfl h1_1) rfl rfl rfl ?_
      clear hf a; intro a hf
      refine st_no hf rfl rfl (lk_b rfl h1_1) rfl rfl rfl ?_
      clear hf a; intro a hf
      refine st_y hf rfl rfl rfl (y_pick_f rfl (ev_b rfl h1_1) rfl) ?_
      clear hf a; intro a hf
      refine st_y hf rfl rfl rfl (y_assign rfl rfl) ?_
      clear hf a; intro a hf
      refine st_end ?_
      refine x_then_n ?_
      obtain rfl := Option.some.inj hq0_1
      exact ⟨hf.sub ⟨rfl, trivial⟩, hm.pick [] (by decide) rfl⟩
  ·
    clear hf hm
    rintro a w ⟨hf, hm⟩
    refine x_then_n ?_
    refine wp_ret ?_
    obtain rfl := Option.some.inj hq
    refine ret_tmp hf Tryd.results43 rfl ?_
    exact ⟨rfl, hm.below⟩

theorem impl_formOf_ok (w0 : World) (x_ : Mins) (hG0 : GT.rep (hp w0) [.slice (some ⟨0, 0, none⟩) 23 23] glob_impl_forms) (r : form × Bool) (hq : impl_formOf x_ = some r) :
    Con Tryd.prog 41 [(.agg #[(.int .i64 (x_.op)), (.int .i64 (x_.a_)), (.int .i64 (x_.b)), (.int .i64 (x_.c)), (.int .i64 (x_.n_))])] w0 (fun v w' => v = (.tuple #[(.agg #[(.string ⟨(r.1.name).b.toArray⟩), (.int .i64 (r.1.fields))]), (.bool (r.2))]) ∧ Below w0.heap.size w0 w') := by
  unfold impl_formOf at hq
  refine con_body (l := [(0, (.agg #[(.int .i64 (x_.op)), (.int .i64 (x_.a_)), (.int .i64 (x_.b)), (.int .i64 (x_.c)), (.int .i64 (x_.n_))]))]) Tryd.func41 rfl Tryd.ntmps41 (Args.get ⟨rfl, trivial⟩) rfl ?_
  intro a hf
  have hm := Mem.start w0
  refine wp_seq ?_
  refine wp_region_lit ?_
  refine st_ef hf rfl rfl rfl (e_box hf hm rfl rfl rfl) ?_
  clear hf a; rintro _ w0_1 a ⟨b0_1, rfl, hm⟩ hf
  refine st_ef hf rfl rfl rfl (e_alloc hm Tryd.zeroValue62 rfl rfl) ?_
  clear hf a; rintro _ w0_2 a ⟨b0_2, rfl, hm⟩ hf
  refine st_y hf rfl rfl rfl (y_assign rfl rfl) ?_
  clear hf a; intro a hf
  refine st_end ?_
  refine x_then_n ?_
  refine wp_seq ?_
  refine wp_seq ?_
  refine wp_region_lit ?_
  refine st_y hf rfl rfl rfl (y_fieldAddr fo_27_0 rfl rfl) ?_
  clear hf a; intro a hf
  refine st_y hf rfl rfl rfl (y_load1 Tryd.isAgg3 rfl rfl (hm.blk_cell 1 rfl rfl)) ?_
  clear hf a; intro a hf
  obtain ⟨r0_1, hx0_1, hq⟩ := bnd hq
  refine st_ef hf rfl rfl rfl (e_call hf rfl Tryd.call43 rfl (impl_within_ok _ x_.op 1 22 _ hx0_1)) ?_
  clear hf a; rintro _ w0_3 a ⟨rfl, hB⟩ hf
  replace hm := hm.below' hB; clear hB
  refine st_y hf rfl rfl rfl (y_not rfl rfl) ?_
  clear hf a; intro a hf
  refine st_end ?_
  refine x_then_n ?_
  rcases bcases (!(r0_1)) with h0_1 | h0_1
  ·
    replace hq := (ite_t h0_1).symm.trans hq
    have h0_2 := bnot_t' h0_1
    refine cond_t hf rfl h0_1 ?_
    refine wp_seq ?_
    refine wp_region_lit ?_
    refine st_y hf rfl rfl rfl (y_build (vs := []) (cs := #[(.string ⟨((mkS [])).b.toArray⟩), (.int .i64 (0))]) rfl rfl (by kernel_rfl)) ?_
    clear hf a; intro a hf
    refine st_ef0 hf rfl rfl (e_storeN 0 hf hm rfl Tryd.sizeOf62 rfl rfl rfl (one_cons rfl (one_cons rfl one_nil)) rfl rfl) ?_
    clear hf a; rintro _ w0_4 a hm hf
    refine st_y hf rfl rfl rfl (y_assign rfl rfl) ?_
    clear hf a; intro a hf
    refine st_end ?_
    refine x_then_n ?_
    refine wp_ret ?_
    refine x_then_ret ?_
    obtain rfl := Option.some.inj hq
    refine ret_cell_tmp 0 hf Tryd.results41 hm rfl rfl Tryd.isAgg62 Tryd.sizeOf62 rfl ?_
    exact ⟨rfl, hm.below⟩
  ·
    replace hq := (ite_f h0_1).symm.trans hq
    have h0_3 := bnot_f' h0_1
    refine cond_f hf rfl h0_1 ?_
    refine wp_skip ?_
    refine x_then_n ?_
    refine wp_seq ?_
    refine wp_region_lit ?_
    refine st_y hf rfl rfl rfl (y_fieldAddr fo_27_0 rfl rfl) ?_
    clear hf a; intro a hf
    refine st_y hf rfl rfl rfl (y_load1 Tryd.isAgg3 rfl rfl (hm.blk_cell 1 rfl rfl)) ?_
    clear hf a; intro a hf
    obtain ⟨x0_1, hx0_2, hq⟩ := bnd hq
    obtain ⟨h0_4, hx0_3⟩ := getI_some.1 hx0_2
    refine st_y hf rfl rfl rfl (y_indexArr Tryd.underlying91 Tryd.sizeOf62 rfl rfl rfl h0_4 (idx_lt2 hx0_3 rfl)) ?_
    clear hf a; intro a hf
    refine st_y hf rfl rfl rfl (y_loadN (cs := [(.string ⟨(x0_1.name).b.toArray⟩), (.int .i64 (x0_1.fields))]) Tryd.isAgg62 Tryd.sizeOf62 rfl rfl (flat_cells (cs := [(.string ⟨(x0_1.name).b.toArray⟩), (.int .i64 (x0_1.fields))]) (hm.now hG0) hx0_3 rfl)) ?_
    clear hf a; intro a hf
    refine st_ef hf rfl rfl rfl (e_alloc hm Tryd.zeroValue62 rfl rfl) ?_
    clear hf a; rintro _ w0_5 a ⟨b0_3, rfl, hm⟩ hf
    refine st_ef0 hf rfl rfl (e_storeN 0 hf hm rfl Tryd.sizeOf62 rfl rfl rfl (one_cons rfl (one_cons rfl one_nil)) rfl rfl) ?_
    clear hf a; rintro _ w0_6 a hm hf
    refine st_end ?_
    refine x_then_n ?_
    refine wp_seq ?_
    refine wp_seq ?_
    refine wp_region_lit ?_
    refine st_y hf rfl rfl rfl (y_fieldAddr fo_27_1 rfl rfl) ?_
    clear hf a; intro a hf
    refine st_y hf rfl rfl rfl (y_load1 Tryd.isAgg3 rfl rfl (hm.blk_cell 2 rfl rfl)) ?_
    clear hf a; intro a hf
    refine st_y hf rfl rfl rfl (y_fieldAddr fo_27_2 rfl rfl) ?_
    clear hf a; intro a hf
    refine st_y hf rfl rfl rfl (y_load1 Tryd.isAgg3 rfl rfl (hm.blk_cell 2 rfl rfl)) ?_
    clear hf a; intro a hf
    refine st_y hf rfl rfl rfl (y_fieldAddr fo_27_3 rfl rfl) ?_
    clear hf a; intro a hf
    refine st_y hf rfl rfl rfl (y_load1 Tryd.isAgg3 rfl rfl (hm.blk_cell 2 rfl rfl)) ?_
    clear hf a; intro a hf
    refine st_y hf rfl rfl rfl (y_fieldAddr fo_27_4 rfl rfl) ?_
    clear hf a; intro a hf
    refine st_y hf rfl rfl rfl (y_load1 Tryd.isAgg3 rfl rfl (hm.blk_cell 2 rfl rfl)) ?_
    clear hf a; intro a hf
    refine st_y hf rfl rfl rfl (y_build (vs := [(0, (.int .i64 (x_.a_))), (1, (.int .i64 (x_.b))), (2, (.int .i64 (x_.c))), (3, (.int .i64 (x_.n_)))]) (cs := #[(.int .i64 (x_.a_)), (.int .i64 (x_.b)), (.int .i64 (x_.c)), (.int .i64 (x_.n_))]) rfl rfl (by kernel_rfl)) ?_
    clear hf a; intro a hf
    refine st_y hf rfl rfl rfl (y_move rfl rfl) ?_
    clear hf a; intro a hf
    refine st_end ?_
    refine x_then_n ?_
    refine wp_block ?_
    obtain ⟨r0_2, hl0_1, hq⟩ := bnd hq
    refine wp_forN _ (fun i1_1 xs1_1 a w => Fr 42 [(2, (.pointer (some ⟨b0_2, 0, none⟩))), (4, (.pointer (some ⟨b0_3, 0, none⟩))), (24, (.agg #[(.int .i64 (x_.a_)), (.int .i64 (x_.b)), (.int .i64 (x_.c)), (.int .i64 (x_.n_))])), (25, (.int .i64 (i1_1)))] a ∧ Mem w0 (hp w0) w [blk b0_2 [(.string ⟨((mkS [])).b.toArray⟩), (.int .i64 (0))] 62, blk b0_3 [(.string ⟨(x0_1.name).b.toArray⟩), (.int .i64 (x0_1.fields))] 62]) (0) (4) hl0_1 ?_ ?_ ?_
    ·
      exact ⟨hf.sub ⟨rfl, rfl, rfl, rfl, trivial⟩, hm.pick [1, 0] (by decide) rfl⟩
    ·
      clear hf hm
      rintro i1_1 xs1_1 a w ⟨hf, hm⟩ hi1_1 hi1_2 q0_1 hb0_1 ho0_1
      refine wp_seq ?_
      refine wp_region_lit ?_
      refine st_y hf rfl rfl rfl (y_lss rfl rfl rfl) ?_
      clear hf a; intro a hf
      refine st_end ?_
      refine x_then_n ?_
      refine wp_seq ?_
      refine cond_t hf rfl (decide_eq_true (by omega)) ?_
      refine wp_skip ?_
      refine x_then_n ?_
      refine wp_seq ?_
      refine wp_block ?_
      refine wp_seq ?_
      refine wp_region_lit ?_
      refine st_y hf rfl rfl rfl (y_move rfl rfl) ?_
      clear hf a; intro a hf
      obtain ⟨x1_1, hx1_1, hb0_1⟩ := bnd hb0_1
      obtain ⟨h1_1, hx1_2⟩ := getI_some.1 hx1_1
      refine st_y hf rfl rfl rfl (y_idx_arr Tryd.underlying92 Tryd.sizeOf3 Tryd.isAgg3 rfl rfl rfl h1_1 (by have := idx_lt hx1_2; simp only [List.length_cons, List.length_nil] at this; omega) (idx_map (f := fun x => (.int .i64 (x))) hx1_2 rfl)) ?_
      clear hf a; intro a hf
      refine st_y hf rfl rfl rfl (y_assign rfl rfl) ?_
      clear hf a; intro a hf
      refine st_y hf rfl rfl rfl (y_assign rfl rfl) ?_
      clear hf a; intro a hf
      refine st_end ?_
      refine x_then_n ?_
      refine wp_seq ?_
      obtain ⟨s1_1, hq1_1, hb0_1⟩ := bnd hb0_1
      refine code_cut (K := fun a w => Fr 42 [(2, (.pointer (some ⟨b0_2, 0, none⟩))), (4, (.pointer (some ⟨b0_3, 0, none⟩))), (24, (.agg #[(.int .i64 (x_.a_)), (.int .i64 (x_.b)), (.int .i64 (x_.c)), (.int .i64 (x_.n_))])), (25, (.int .i64 (i1_1))), (38, (.bool (s1_1)))] a ∧ Mem w0 (hp w0) w [blk b0_2 [(.string ⟨((mkS [])).b.toArray⟩), (.int .i64 (0))] 62, blk b0_3 [(.string ⟨(x0_1.name).b.toArray⟩), (.int .i64 (x0_1.fields))] 62]) ?_ ?_
      ·
        refine wp_draw [(true, 0), (true, 1), (false, 2), (false, 3), (false, 4), (false, 5), (false, 6), (false, 7), (false, 8), (false, 9)] [2, 3] (fun w => Mem w0 (hp w0) w [blk b0_2 [(.string ⟨((mkS [])).b.toArray⟩), (.int .i64 (0))] 62, blk b0_3 [(.string ⟨(x0_1.name).b.toArray⟩), (.int .i64 (x0_1.fields))] 62]) (by kernel_rfl) (by kernel_rfl) (fun _ _ _ h => h.2) ?_
        replace hm := hm.drew
        have hS : Mem w0 (hp w0) _ [blk b0_2 [(.string ⟨((mkS [])).b.toArray⟩), (.int .i64 (0))] 62, blk b0_3 [(.string ⟨(x0_1.name).b.toArray⟩), (.int .i64 (x0_1.fields))] 62] := hm.pick [0, 1] (by decide) rfl
        refine sd_y hf rfl rfl rfl rfl hS (fun w hm => y_fieldAddr fo_62_1 rfl rfl) ?_
        clear hf a; intro a hf
        refine sd_y hf rfl rfl rfl rfl hS (fun w hm => y_load1 Tryd.isAgg3 rfl rfl (hm.blk_cell 1 rfl rfl)) ?_
        clear hf a; intro a hf
        refine sd_ef hf rfl rfl rfl rfl (ef_y hf (y_move rfl rfl)) ?_
        clear hf a; rintro _ _ a ⟨rfl, rfl⟩ hf
        refine ⟨fun _ => hS, ?_⟩
        refine sd_ef hf rfl rfl rfl rfl (ef_y hf (y_shl rfl rfl rfl (by omega))) ?_
        clear hf a; rintro _ _ a ⟨rfl, rfl⟩ hf
        refine ⟨fun _ => hS, ?_⟩
        refine sd_ef hf rfl rfl rfl rfl (ef_y hf (y_and rfl rfl rfl)) ?_
        clear hf a; rintro _ _ a ⟨rfl, rfl⟩ hf
        refine ⟨fun h => absurd h (by decide), ?_⟩
        refine sd_ef hf rfl rfl rfl rfl (ef_y hf (y_eql rfl rfl rfl)) ?_
        clear hf a; rintro _ _ a ⟨rfl, rfl⟩ hf
        refine ⟨fun h => absurd h (by decide), ?_⟩
        refine sd_ef hf rfl rfl rfl rfl (ef_y hf (y_move rfl rfl)) ?_
        clear hf a; rintro _ _ a ⟨rfl, rfl⟩ hf
        refine ⟨fun h => absurd h (by decide), ?_⟩
        rcases bcases (decide ((andI x0_1.fields (shlI 1 i1_1)) = 0)) with h2_1 | h2_1
        ·
          replace hq1_1 := (ite_t h2_1).symm.trans hq1_1
          have h2_2 := of_decide_eq_true h2_1
          refine sd_efg hf rfl rfl rfl (lk_b rfl h2_1) rfl rfl (ef_y hf (y_move rfl rfl)) ?_
          clear hf a; rintro _ _ a ⟨rfl, rfl⟩ hf
          refine ⟨fun h => absurd h (by decide), ?_⟩
          refine sd_efg hf rfl rfl rfl (lk_b rfl h2_1) rfl rfl (ef_y hf (y_neq rfl rfl rfl)) ?_
          clear hf a; rintro _ _ a ⟨rfl, rfl⟩ hf
          refine ⟨fun h => absurd h (by decide), ?_⟩
          refine sd_ef hf rfl rfl rfl rfl (ef_y hf (y_pick_t rfl (ev_b rfl h2_1) rfl)) ?_
          clear hf a; rintro _ _ a ⟨rfl, rfl⟩ hf
          refine ⟨fun h => absurd h (by decide), ?_⟩
          clear hS; refine sd_end ?_
          refine x_then_n ?_
          obtain rfl := Option.some.inj hq1_1
          exact ⟨hf.sub ⟨rfl, rfl, rfl, rfl, rfl, trivial⟩, hm.pick [0, 1] (by decide) rfl⟩
        ·
          replace hq1_1 := (ite_f h2_1).symm.trans hq1_1
          have h2_3 := of_decide_eq_false h2_1
          refine sd_no' hf rfl rfl rfl (lk_b rfl h2_1) rfl rfl rfl ?_
          clear hf a; intro a hf
          refine ⟨fun h => absurd h (by decide), ?_⟩
          refine sd_no' hf rfl rfl rfl (lk_b rfl h2_1) rfl rfl rfl ?_
          clear hf a; intro a hf
          refine ⟨fun h => absurd h (by decide), ?_⟩
          refine sd_ef hf rfl rfl rfl rfl (ef_y hf (y_pick_f rfl (ev_b rfl h2_1) rfl)) ?_
          clear hf a; rintro _ _ a ⟨rfl, rfl⟩ hf
          refine ⟨fun h => absurd h (by decide), ?_⟩
          clear hS; refine sd_end ?_
          refine x_then_n ?_
          obtain rfl := Option.some.inj hq1_1
          exact ⟨hf.sub ⟨rfl, rfl, rfl, rfl, rfl, trivial⟩, hm.pick [0, 1] (by decide) rfl⟩
      ·
        clear hf hm
        rintro a w ⟨hf, hm⟩
        refine x_then_n ?_
        rcases bcases (s1_1) with h1_2 | h1_2
        ·
          replace hb0_1 := (ite_t h1_2).symm.trans hb0_1
          refine cond_t hf rfl h1_2 ?_
          refine wp_seq ?_
          refine wp_region_lit ?_
          refine st_y hf rfl rfl rfl (y_build (vs := []) (cs := #[(.string ⟨((mkS [])).b.toArray⟩), (.int .i64 (0))]) rfl rfl (by kernel_rfl)) ?_
          clear hf a; intro a hf
          refine st_ef0 hf rfl rfl (e_storeN 0 hf hm rfl Tryd.sizeOf62 rfl rfl rfl (one_cons rfl (one_cons rfl one_nil)) rfl rfl) ?_
          clear hf a; rintro _ w1_1 a hm hf
          refine st_y hf rfl rfl rfl (y_assign rfl rfl) ?_
          clear hf a; intro a hf
          refine st_end ?_
          refine x_then_n ?_
          refine wp_ret ?_
          refine x_blk_ret ?_
          refine x_then_ret ?_
          refine x_then_ret ?_
          refine x_blk_ret ?_
          refine x_then_ret ?_
          obtain rfl := Option.some.inj hb0_1
          obtain rfl := ho0_1 _ rfl
          replace hq := sum_r hq
          obtain rfl := Option.some.inj hq
          refine ret_cell_tmp 0 hf Tryd.results41 hm rfl rfl Tryd.isAgg62 Tryd.sizeOf62 rfl ?_
          exact ⟨rfl, hm.below⟩
        ·
          replace hb0_1 := (ite_f h1_2).symm.trans hb0_1
          refine cond_f hf rfl h1_2 ?_
          refine wp_skip ?_
          refine x_blk_n ?_
          refine x_then_n ?_
          refine wp_region_lit ?_
          refine st_y hf rfl rfl rfl (y_add64 rfl rfl rfl (by omega) (by omega)) ?_
          clear hf a; intro a hf
          refine st_y hf rfl rfl rfl (y_move rfl rfl) ?_
          clear hf a; intro a hf
          refine st_end ?_
          refine x_then_n ?_
          obtain rfl := Option.some.inj hb0_1
          exact ⟨_, rfl, hf.sub ⟨rfl, rfl, rfl, rfl, trivial⟩, hm.pick [0, 1] (by decide) rfl⟩
    ·
      clear hf hm
      rintro i0_1 xs0_1 a w ⟨hf, hm⟩ hi0_1 hi0_2 rfl
      replace hq := sum_l hq
      refine wp_seq ?_
      refine wp_region_lit ?_
      refine st_y hf rfl rfl rfl (y_lss rfl rfl rfl) ?_
      clear hf a; intro a hf
      refine st_end ?_
      refine x_then_n ?_
      refine wp_seq ?_
      refine cond_f hf rfl (decide_eq_false (by omega)) ?_
      refine wp_exit ?_
      refine x_then_exit ?_
      refine x_then_exit ?_
      refine x_blk_hit ?_
      refine x_then_n ?_
      refine wp_seq ?_
      refine wp_region_lit ?_
      refine st_y hf rfl rfl rfl (y_loadN (cs := [(.string ⟨(x0_1.name).b.toArray⟩), (.int .i64 (x0_1.fields))]) Tryd.isAgg62 Tryd.sizeOf62 rfl rfl (hm.blk_at 1 rfl)) ?_
      clear hf a; intro a hf
      refine st_ef0 hf rfl rfl (e_storeN 0 hf hm rfl Tryd.sizeOf62 rfl rfl rfl (one_cons rfl (one_cons rfl one_nil)) rfl rfl) ?_
      clear hf a; rintro _ w0_7 a hm hf
      refine st_y hf rfl rfl rfl (y_assign rfl rfl) ?_
      clear hf a; intro a hf
      refine st_end ?_
      refine x_then_n ?_
      refine wp_ret ?_
      obtain rfl := Option.some.inj hq
      refine ret_cell_tmp 0 hf Tryd.results41 hm rfl rfl Tryd.isAgg62 Tryd.sizeOf62 rfl ?_
      exact ⟨rfl, hm.below⟩

theorem impl_jumpOp_ok (w0 : World) (op : Int) (r : Bool) (hq : impl_jumpOp op = some r) :
    Con Tryd.prog 42 [(.int .i64 (op))] w0 (fun v w' => v = (.bool (r)) ∧ Below w0.heap.size w0 w') := by
  unfold impl_jumpOp at hq
  refine con_body (l := [(0, (.int .i64 (op)))]) Tryd.func42 rfl Tryd.ntmps42 (Args.get ⟨rfl, trivial⟩) rfl ?_
  intro a hf
  have hm := Mem.start w0
  refine wp_seq ?_
  refine wp_region_lit ?_
  refine st_y hf rfl rfl rfl (y_assign rfl rfl) ?_
  clear hf a; intro a hf
  refine st_end ?_
  refine x_then_n ?_
  refine wp_seq ?_
  obtain ⟨s0_1, hq0_1, hq⟩ := bnd hq
  refine code_cut (K := fun a w => Fr 9 [(2, (.bool (s0_1)))] a ∧ Mem w0 (hp w0) w []) ?_ ?_
  ·
    refine wp_region_lit ?_
    refine st_y hf rfl rfl rfl (y_move rfl rfl) ?_
    clear hf a; intro a hf
    refine st_y hf rfl rfl rfl (y_eql rfl rfl rfl) ?_
    clear hf a; intro a hf
    refine st_y hf rfl rfl rfl (y_move rfl rfl) ?_
    clear hf a; intro a hf
    rcases bcases (decide (op = 20)) with h1_1 | h1_1
    ·
      replace hq0_1 := (ite_t h1_1).symm.trans hq0_1
      have h1_2 := of_decide_eq_true h1_1
      refine st_no hf rfl rfl (lk_b rfl h1_1) rfl rfl rfl ?_
      clear hf a; intro a hf
      refine st_no hf rfl rfl (lk_b rfl h1_1) rfl rfl rfl ?_
      clear hf a; intro a hf
      refine st_y hf rfl rfl rfl (y_pick_t rfl (ev_b rfl h1_1) rfl) ?_
      clear hf a; intro a hf
      refine st_y hf rfl rfl rfl (y_assign rfl rfl) ?_
      clear hf a; intro a hf
      refine st_end ?_
      refine x_then_n ?_
      obtain rfl := Option.some.inj hq0_1
      exact ⟨hf.sub ⟨rfl, trivial⟩, hm.pick [] (by decide) rfl⟩
    ·
      replace hq0_1 := (ite_f h1_1).symm.trans hq0_1
      have h1_3 := of_decide_eq_false h1_1
      refine st_yg hf rfl rfl (lk_b rfl h1_1) rfl rfl (y_move rfl rfl) ?_
      clear hf a; intro a hf
      refine st_yg hf rfl rfl (lk_b rfl h1_1) rfl rfl (y_eql rfl rfl rfl) ?_
      clear hf a; intro a hf
      refine st_y hf rfl rfl rfl (y_pick_f rfl (ev_b rfl h1_1) rfl) ?_
      clear hf a; intro a hf
      refine st_y hf rfl rfl rfl (y_assign rfl rfl) ?_
      clear hf a; intro a hf
      refine st_end ?_
      refine x_then_n ?_
      obtain rfl := Option.some.inj hq0_1
      exact ⟨hf.sub ⟨rfl, trivial⟩, hm.pick [] (by decide) rfl⟩
  ·
    clear hf hm
    rintro a w ⟨hf, hm⟩
    refine x_then_n ?_
    refine wp_ret ?_
    obtain rfl := Option.some.inj hq
    refine ret_tmp hf Tryd.results42 rfl ?_
    exact ⟨rfl, hm.below⟩

theorem impl_isByte_ok (w0 : World) (n_ : Int) (r : Bool) (hq : impl_isByte n_ = some r) :
    Con Tryd.prog 44 [(.int .i64 (n_))] w0 (fun v w' => v = (.bool (r)) ∧ Below w0.heap.size w0 w') := by
  unfold impl_isByte at hq
  refine con_body (l := [(0, (.int .i64 (n_)))]) Tryd.func44 rfl Tryd.ntmps44 (Args.get ⟨rfl, trivial⟩) rfl ?_
  intro a hf
  have hm := Mem.start w0
  refine wp_seq ?_
  refine wp_region_lit ?_
  refine st_y hf rfl rfl rfl (y_assign rfl rfl) ?_
  clear hf a; intro a hf
  refine st_end ?_
  refine x_then_n ?_
  refine wp_seq ?_
  refine wp_region_lit ?_
  refine st_y hf rfl rfl rfl (y_move rfl rfl) ?_
  clear hf a; intro a hf
  obtain ⟨r0_1, hx0_1, hq⟩ := bnd hq
  refine st_ef hf rfl rfl rfl (e_call hf rfl Tryd.call43 rfl (impl_within_ok _ n_ 0 255 _ hx0_1)) ?_
  clear hf a; rintro _ w0_1 a ⟨rfl, hB⟩ hf
  replace hm := hm.below' hB; clear hB
  refine st_y hf rfl rfl rfl (y_assign rfl rfl) ?_
  clear hf a; intro a hf
  refine st_end ?_
  refine x_then_n ?_
  refine wp_ret ?_
  obtain rfl := Option.some.inj hq
  refine ret_tmp hf Tryd.results44 rfl ?_
  exact ⟨rfl, hm.below⟩

theorem impl_shapeOf_ok (w0 : World) (op : Int) (r : Int) (hq : impl_shapeOf op = some r) :
    Con Tryd.prog 65 [(.int .i64 (op))] w0 (fun v w' => v = (.int .i64 (r)) ∧ Below w0.heap.size w0 w') := by
  unfold impl_shapeOf at hq
  refine con_body (l := [(0, (.int .i64 (op)))]) Tryd.func65 rfl Tryd.ntmps65 (Args.get ⟨rfl, trivial⟩) rfl ?_
  intro a hf
  have hm := Mem.start w0
  refine wp_seq ?_
  refine wp_region_lit ?_
  refine st_y hf rfl rfl rfl (y_assign rfl rfl) ?_
  clear hf a; intro a hf
  refine st_end ?_
  refine x_then_n ?_
  refine wp_seq ?_
  refine wp_seq ?_
  refine wp_region_lit ?_
  refine st_y hf rfl rfl rfl (y_move rfl rfl) ?_
  clear hf a; intro a hf
  refine st_end ?_
  refine x_then_n ?_
  refine wp_block ?_
  refine wp_seq ?_
  refine wp_seq ?_
  refine wp_region_lit ?_
  refine st_y hf rfl rfl rfl (y_eql rfl rfl rfl) ?_
  clear hf a; intro a hf
  refine st_y hf rfl rfl rfl (y_assign rfl rfl) ?_
  clear hf a; intro a hf
  refine st_end ?_
  refine x_then_n ?_
  obtain ⟨s0_1, hq0_1, hq⟩ := bnd hq
  refine code_cut (K := fun a w => Fr 24 [(3, (.int .i64 (op))), (4, (.bool (s0_1)))] a ∧ Mem w0 (hp w0) w []) ?_ ?_
  ·
    rcases bcases (decide (op = 1)) with h1_1 | h1_1
    ·
      replace hq0_1 := (ite_t h1_1).symm.trans hq0_1
      have h1_2 := of_decide_eq_true h1_1
      refine cond_t hf rfl h1_1 ?_
      refine wp_skip ?_
      refine x_then_n ?_
      obtain rfl := Option.some.inj hq0_1
      exact ⟨hf.sub ⟨rfl, rfl, trivial⟩, hm.pick [] (by decide) rfl⟩
    ·
      replace hq0_1 := (ite_f h1_1).symm.trans hq0_1
      have h1_3 := of_decide_eq_false h1_1
      refine cond_f hf rfl h1_1 ?_
      refine wp_seq ?_
      refine wp_region_lit ?_
      refine st_y hf rfl rfl rfl (y_eql rfl rfl rfl) ?_
      clear hf a; intro a hf
      refine st_y hf rfl rfl rfl (y_assign rfl rfl) ?_
      clear hf a; intro a hf
      refine st_end ?_
      refine x_then_n ?_
      obtain ⟨s1_1, hq1_1, hq0_1⟩ := bnd hq0_1
      refine code_cut (K := fun a w => Fr 24 [(3, (.int .i64 (op))), (4, (.bool (s1_1)))] a ∧ Mem w0 (hp w0) w []) ?_ ?_
      ·
        rcases bcases (decide (op = 15)) with h2_1 | h2_1
        ·
          replace hq1_1 := (ite_t h2_1).symm.trans hq1_1
          have h2_2 := of_decide_eq_true h2_1
          refine cond_t hf rfl h2_1 ?_
          refine wp_skip ?_
          refine x_then_n ?_
          obtain rfl := Option.some.inj hq1_1
          exact ⟨hf.sub ⟨rfl, rfl, trivial⟩, hm.pick [] (by decide) rfl⟩
        ·
          replace hq1_1 := (ite_f h2_1).symm.trans hq1_1
          have h2_3 := of_decide_eq_false h2_1
          refine cond_f hf rfl h2_1 ?_
          refine wp_seq ?_
          refine wp_region_lit ?_
          refine st_y hf rfl rfl rfl (y_eql rfl rfl rfl) ?_
          clear hf a; intro a hf
          refine st_y hf rfl rfl rfl (y_assign rfl rfl) ?_
          clear hf a; intro a hf
          refine st_end ?_
          refine x_then_n ?_
          obtain ⟨s2_1, hq2_1, hq1_1⟩ := bnd hq1_1
          refine code_cut (K := fun a w => Fr 24 [(3, (.int .i64 (op))), (4, (.bool (s2_1)))] a ∧ Mem w0 (hp w0) w []) ?_ ?_
          ·
            rcases bcases (decide (op = 16)) with h3_1 | h3_1
            ·
              replace hq2_1 := (ite_t h3_1).symm.trans hq2_1
              have h3_2 := of_decide_eq_true h3_1
              refine cond_t hf rfl h3_1 ?_
              refine wp_skip ?_
              refine x_then_n ?_
              obtain rfl := Option.some.inj hq2_1
              exact ⟨hf.sub ⟨rfl, rfl, trivial⟩, hm.pick [] (by decide) rfl⟩
            ·
              replace hq2_1 := (ite_f h3_1).symm.trans hq2_1
              have h3_3 := of_decide_eq_false h3_1
              refine cond_f hf rfl h3_1 ?_
              refine wp_seq ?_
              refine wp_region_lit ?_
              refine st_y hf rfl rfl rfl (y_eql rfl rfl rfl) ?_
              clear hf a; intro a hf
              refine st_y hf rfl rfl rfl (y_assign rfl rfl) ?_
              clear hf a; intro a hf
              refine st_end ?_
              refine x_then_n ?_
              obtain ⟨s3_1, hq3_1, hq2_1⟩ := bnd hq2_1
              refine code_cut (K := fun a w => Fr 24 [(3, (.int .i64 (op))), (4, (.bool (s3_1)))] a ∧ Mem w0 (hp w0) w []) ?_ ?_
              ·
                rcases bcases (decide (op = 17)) with h4_1 | h4_1
                ·
                  replace hq3_1 := (ite_t h4_1).symm.trans hq3_1
                  have h4_2 := of_decide_eq_true h4_1
                  refine cond_t hf rfl h4_1 ?_
                  refine wp_skip ?_
                  refine x_then_n ?_
                  obtain rfl := Option.some.inj hq3_1
                  exact ⟨hf.sub ⟨rfl, rfl, trivial⟩, hm.pick [] (by decide) rfl⟩
                ·
                  replace hq3_1 := (ite_f h4_1).symm.trans hq3_1
                  have h4_3 := of_decide_eq_false h4_1
                  refine cond_f hf rfl h4_1 ?_
                  refine wp_region_lit ?_
                  refine st_y hf rfl rfl rfl (y_eql rfl rfl rfl) ?_
                  clear hf a; intro a hf
                  refine st_y hf rfl rfl rfl (y_assign rfl rfl) ?_
                  clear hf a; intro a hf
                  refine st_end ?_
                  refine x_then_n ?_
                  obtain rfl := Option.some.inj hq3_1
                  exact ⟨hf.sub ⟨rfl, rfl, trivial⟩, hm.pick [] (by decide) rfl⟩
              ·
                clear hf hm
                rintro a w ⟨hf, hm⟩
                refine x_then_n ?_
                obtain rfl := Option.some.inj hq2_1
                exact ⟨hf.sub ⟨rfl, rfl, trivial⟩, hm.pick [] (by decide) rfl⟩
          ·
            clear hf hm
            rintro a w ⟨hf, hm⟩
            refine x_then_n ?_
            obtain rfl := Option.some.inj hq1_1
            exact ⟨hf.sub ⟨rfl, rfl, trivial⟩, hm.pick [] (by decide) rfl⟩
      ·
        clear hf hm
        rintro a w ⟨hf, hm⟩
        refine x_then_n ?_
        obtain rfl := Option.some.inj hq0_1
        exact ⟨hf.sub ⟨rfl, rfl, trivial⟩, hm.pick [] (by decide) rfl⟩
  ·
    clear hf hm
    rintro a w ⟨hf, hm⟩
    refine x_then_n ?_
    rcases bcases (s0_1) with h0_1 | h0_1
    ·
      replace hq := (ite_t h0_1).symm.trans hq
      refine cond_t hf rfl h0_1 ?_
      refine wp_seq ?_
      refine wp_region_lit ?_
      refine st_y hf rfl rfl rfl (y_assign rfl rfl) ?_
      clear hf a; intro a hf
      refine st_end ?_
      refine x_then_n ?_
      refine wp_ret ?_
      refine x_blk_ret ?_
      refine x_then_ret ?_
      obtain rfl := Option.some.inj hq
      refine ret_tmp hf Tryd.results65 rfl ?_
      exact ⟨rfl, hm.below⟩
    ·
      replace hq := (ite_f h0_1).symm.trans hq
      refine cond_f hf rfl h0_1 ?_
      refine wp_seq ?_
      refine wp_seq ?_
      refine wp_region_lit ?_
      refine st_y hf rfl rfl rfl (y_eql rfl rfl rfl) ?_
      clear hf a; intro a hf
      refine st_y hf rfl rfl rfl (y_assign rfl rfl) ?_
      clear hf a; intro a hf
      refine st_end ?_
      refine x_then_n ?_
      obtain ⟨s0_2, hq0_2, hq⟩ := bnd hq
      refine code_cut (K := fun a w => Fr 24 [(3, (.int .i64 (op))), (10, (.bool (s0_2)))] a ∧ Mem w0 (hp w0) w []) ?_ ?_
      ·
        rcases bcases (decide (op = 2)) with h1_4 | h1_4
        ·
          replace hq0_2 := (ite_t h1_4).symm.trans hq0_2
          have h1_5 := of_decide_eq_true h1_4
          refine cond_t hf rfl h1_4 ?_
          refine wp_skip ?_
          refine x_then_n ?_
          obtain rfl := Option.some.inj hq0_2
          exact ⟨hf.sub ⟨rfl, rfl, trivial⟩, hm.pick [] (by decide) rfl⟩
        ·
          replace hq0_2 := (ite_f h1_4).symm.trans hq0_2
          have h1_6 := of_decide_eq_false h1_4
          refine cond_f hf rfl h1_4 ?_
          refine wp_seq ?_
          refine wp_region_lit ?_
          refine st_y hf rfl rfl rfl (y_eql rfl rfl rfl) ?_
          clear hf a; intro a hf
          refine st_y hf rfl rfl rfl (y_assign rfl rfl) ?_
          clear hf a; intro a hf
          refine st_end ?_
          refine x_then_n ?_
          obtain ⟨s1_2, hq1_2, hq0_2⟩ := bnd hq0_2
          refine code_cut (K := fun a w => Fr 24 [(3, (.int .i64 (op))), (10, (.bool (s1_2)))] a ∧ Mem w0 (hp w0) w []) ?_ ?_
          ·
            rcases bcases (decide (op = 10)) with h2_4 | h2_4
            ·
              replace hq1_2 := (ite_t h2_4).symm.trans hq1_2
              have h2_5 := of_decide_eq_true h2_4
              refine cond_t hf rfl h2_4 ?_
              refine wp_skip ?_
              refine x_then_n ?_
              obtain rfl := Option.some.inj hq1_2
              exact ⟨hf.sub ⟨rfl, rfl, trivial⟩, hm.pick [] (by decide) rfl⟩
            ·
              replace hq1_2 := (ite_f h2_4).symm.trans hq1_2
              have h2_6 := of_decide_eq_false h2_4
              refine cond_f hf rfl h2_4 ?_
              refine wp_seq ?_
              refine wp_region_lit ?_
              refine st_y hf rfl rfl rfl (y_eql rfl rfl rfl) ?_
              clear hf a; intro a hf
              refine st_y hf rfl rfl rfl (y_assign rfl rfl) ?_
              clear hf a; intro a hf
              refine st_end ?_
              refine x_then_n ?_
              obtain ⟨s2_2, hq2_2, hq1_2⟩ := bnd hq1_2
              refine code_cut (K := fun a w => Fr 24 [(3, (.int .i64 (op))), (10, (.bool (s2_2)))] a ∧ Mem w0 (hp w0) w []) ?_ ?_
              ·
                rcases bcases (decide (op = 11)) with h3_4 | h3_4
                ·
                  replace hq2_2 := (ite_t h3_4).symm.trans hq2_2
                  have h3_5 := of_decide_eq_true h3_4
                  refine cond_t hf rfl h3_4 ?_
                  refine wp_skip ?_
                  refine x_then_n ?_
                  obtain rfl := Option.some.inj hq2_2
                  exact ⟨hf.sub ⟨rfl, rfl, trivial⟩, hm.pick [] (by decide) rfl⟩
                ·
                  replace hq2_2 := (ite_f h3_4).symm.trans hq2_2
                  have h3_6 := of_decide_eq_false h3_4
                  refine cond_f hf rfl h3_4 ?_
                  refine wp_region_lit ?_
                  refine st_y hf rfl rfl rfl (y_eql rfl rfl rfl) ?_
                  clear hf a; intro a hf
                  refine st_y hf rfl rfl rfl (y_assign rfl rfl) ?_
                  clear hf a; intro a hf
                  refine st_end ?_
                  refine x_then_n ?_
                  obtain rfl := Option.some.inj hq2_2
                  exact ⟨hf.sub ⟨rfl, rfl, trivial⟩, hm.pick [] (by decide) rfl⟩
              ·
                clear hf hm
                rintro a w ⟨hf, hm⟩
                refine x_then_n ?_
                obtain rfl := Option.some.inj hq1_2
                exact ⟨hf.sub ⟨rfl, rfl, trivial⟩, hm.pick [] (by decide) rfl⟩
          ·
            clear hf hm
            rintro a w ⟨hf, hm⟩
            refine x_then_n ?_
            obtain rfl := Option.some.inj hq0_2
            exact ⟨hf.sub ⟨rfl, rfl, trivial⟩, hm.pick [] (by decide) rfl⟩
      ·
        clear hf hm
        rintro a w ⟨hf, hm⟩
        refine x_then_n ?_
        rcases bcases (s0_2) with h0_2 | h0_2
        ·
          replace hq := (ite_t h0_2).symm.trans hq
          refine cond_t hf rfl h0_2 ?_
          refine wp_seq ?_
          refine wp_region_lit ?_
          refine st_y hf rfl rfl rfl (y_assign rfl rfl) ?_
          clear hf a; intro a hf
          refine st_end ?_
          refine x_then_n ?_
          refine wp_ret ?_
          refine x_blk_ret ?_
          refine x_then_ret ?_
          obtain rfl := Option.some.inj hq
          refine ret_tmp hf Tryd.results65 rfl ?_
          exact ⟨rfl, hm.below⟩
        ·
          replace hq := (ite_f h0_2).symm.trans hq
          refine cond_f hf rfl h0_2 ?_
          refine wp_seq ?_
          refine wp_seq ?_
          refine wp_region_lit ?_
          refine st_y hf rfl rfl rfl (y_eql rfl rfl rfl) ?_
          clear hf a; intro a hf
          refine st_y hf rfl rfl rfl (y_assign rfl rfl) ?_
          clear hf a; intro a hf
          refine st_end ?_
          refine x_then_n ?_
          obtain ⟨s0_3, hq0_3, hq⟩ := bnd hq
          refine code_cut (K := fun a w => Fr 24 [(3, (.int .i64 (op))), (15, (.bool (s0_3)))] a ∧ Mem w0 (hp w0) w []) ?_ ?_
          ·
            rcases bcases (decide (op = 13)) with h1_7 | h1_7
            ·
              replace hq0_3 := (ite_t h1_7).symm.trans hq0_3
              have h1_8 := of_decide_eq_true h1_7
              refine cond_t hf rfl h1_7 ?_
              refine wp_skip ?_
              refine x_then_n ?_
              obtain rfl := Option.some.inj hq0_3
              exact ⟨hf.sub ⟨rfl, rfl, trivial⟩, hm.pick [] (by decide) rfl⟩
            ·
              replace hq0_3 := (ite_f h1_7).symm.trans hq0_3
              have h1_9 := of_decide_eq_false h1_7
              refine cond_f hf rfl h1_7 ?_
              refine wp_seq ?_
              refine wp_region_lit ?_
              refine st_y hf rfl rfl rfl (y_eql rfl rfl rfl) ?_
              clear hf a; intro a hf
              refine st_y hf rfl rfl rfl (y_assign rfl rfl) ?_
              clear hf a; intro a hf
              refine st_end ?_
              refine x_then_n ?_
              obtain ⟨s1_3, hq1_3, hq0_3⟩ := bnd hq0_3
              refine code_cut (K := fun a w => Fr 24 [(3, (.int .i64 (op))), (15, (.bool (s1_3)))] a ∧ Mem w0 (hp w0) w []) ?_ ?_
              ·
                rcases bcases (decide (op = 19)) with h2_7 | h2_7
                ·
                  replace hq1_3 := (ite_t h2_7).symm.trans hq1_3
                  have h2_8 := of_decide_eq_true h2_7
                  refine cond_t hf rfl h2_7 ?_
                  refine wp_skip ?_
                  refine x_then_n ?_
                  obtain rfl := Option.some.inj hq1_3
                  exact ⟨hf.sub ⟨rfl, rfl, trivial⟩, hm.pick [] (by decide) rfl⟩
                ·
                  replace hq1_3 := (ite_f h2_7).symm.trans hq1_3
                  have h2_9 := of_decide_eq_false h2_7
                  refine cond_f hf rfl h2_7 ?_
                  refine wp_region_lit ?_
                  refine st_y hf rfl rfl rfl (y_eql rfl rfl rfl) ?_
                  clear hf a; intro a hf
                  refine st_y hf rfl rfl rfl (y_assign rfl rfl) ?_
                  clear hf a; intro a hf
                  refine st_end ?_
                  refine x_then_n ?_
                  obtain rfl := Option.some.inj hq1_3
                  exact ⟨hf.sub ⟨rfl, rfl, trivial⟩, hm.pick [] (by decide) rfl⟩
              ·
                clear hf hm
                rintro a w ⟨hf, hm⟩
                refine x_then_n ?_
                obtain rfl := Option.some.inj hq0_3
                exact ⟨hf.sub ⟨rfl, rfl, trivial⟩, hm.pick [] (by decide) rfl⟩
          ·
            clear hf hm
            rintro a w ⟨hf, hm⟩
            refine x_then_n ?_
            rcases bcases (s0_3) with h0_3 | h0_3
            ·
              replace hq := (ite_t h0_3).symm.trans hq
              refine cond_t hf rfl h0_3 ?_
              refine wp_seq ?_
              refine wp_region_lit ?_
              refine st_y hf rfl rfl rfl (y_assign rfl rfl) ?_
              clear hf a; intro a hf
              refine st_end ?_
              refine x_then_n ?_
              refine wp_ret ?_
              refine x_blk_ret ?_
              refine x_then_ret ?_
              obtain rfl := Option.some.inj hq
              refine ret_tmp hf Tryd.results65 rfl ?_
              exact ⟨rfl, hm.below⟩
            ·
              replace hq := (ite_f h0_3).symm.trans hq
              refine cond_f hf rfl h0_3 ?_
              refine wp_seq ?_
              refine wp_region_lit ?_
              refine st_y hf rfl rfl rfl (y_eql rfl rfl rfl) ?_
              clear hf a; intro a hf
              refine st_y hf rfl rfl rfl (y_assign rfl rfl) ?_
              clear hf a; intro a hf
              refine st_end ?_
              refine x_then_n ?_
              rcases bcases (decide (op = 14)) with h0_4 | h0_4
              ·
                replace hq := (ite_t h0_4).symm.trans hq
                have h0_5 := of_decide_eq_true h0_4
                refine cond_t hf rfl h0_4 ?_
                refine wp_seq ?_
                refine wp_region_lit ?_
                refine st_y hf rfl rfl rfl (y_assign rfl rfl) ?_
                clear hf a; intro a hf
                refine st_end ?_
                refine x_then_n ?_
                refine wp_ret ?_
                refine x_blk_ret ?_
                refine x_then_ret ?_
                obtain rfl := Option.some.inj hq
                refine ret_tmp hf Tryd.results65 rfl ?_
                exact ⟨rfl, hm.below⟩
              ·
                replace hq := (ite_f h0_4).symm.trans hq
                have h0_6 := of_decide_eq_false h0_4
                refine cond_f hf rfl h0_4 ?_
                refine wp_seq ?_
                refine wp_seq ?_
                refine wp_region_lit ?_
                refine st_y hf rfl rfl rfl (y_eql rfl rfl rfl) ?_
                clear hf a; intro a hf
                refine st_y hf rfl rfl rfl (y_assign rfl rfl) ?_
                clear hf a; intro a hf
                refine st_end ?_
                refine x_then_n ?_
                obtain ⟨s0_4, hq0_4, hq⟩ := bnd hq
                refine code_cut (K := fun a w => Fr 24 [(21, (.bool (s0_4)))] a ∧ Mem w0 (hp w0) w []) ?_ ?_
                ·
                  rcases bcases (decide (op = 20)) with h1_10 | h1_10
                  ·
                    replace hq0_4 := (ite_t h1_10).symm.trans hq0_4
                    have h1_11 := of_decide_eq_true h1_10
                    refine cond_t hf rfl h1_10 ?_
                    refine wp_skip ?_
                    refine x_then_n ?_
                    obtain rfl := Option.some.inj hq0_4
                    exact ⟨hf.sub ⟨rfl, trivial⟩, hm.pick [] (by decide) rfl⟩
                  ·
                    replace hq0_4 := (ite_f h1_10).symm.trans hq0_4
                    have h1_12 := of_decide_eq_false h1_10
                    refine cond_f hf rfl h1_10 ?_
                    refine wp_region_lit ?_
                    refine st_y hf rfl rfl rfl (y_eql rfl rfl rfl) ?_
                    clear hf a; intro a hf
                    refine st_y hf rfl rfl rfl (y_assign rfl rfl) ?_
                    clear hf a; intro a hf
                    refine st_end ?_
                    refine x_then_n ?_
                    obtain rfl := Option.some.inj hq0_4
                    exact ⟨hf.sub ⟨rfl, trivial⟩, hm.pick [] (by decide) rfl⟩
                ·
                  clear hf hm
                  rintro a w ⟨hf, hm⟩
                  refine x_then_n ?_
                  rcases bcases (s0_4) with h0_7 | h0_7
                  ·
                    replace hq := (ite_t h0_7).symm.trans hq
                    refine cond_t hf rfl h0_7 ?_
                    refine wp_seq ?_
                    refine wp_region_lit ?_
                    refine st_y hf rfl rfl rfl (y_assign rfl rfl) ?_
                    clear hf a; intro a hf
                    refine st_end ?_
                    refine x_then_n ?_
                    refine wp_ret ?_
                    refine x_blk_ret ?_
                    refine x_then_ret ?_
                    obtain rfl := Option.some.inj hq
                    refine ret_tmp hf Tryd.results65 rfl ?_
                    exact ⟨rfl, hm.below⟩
                  ·
                    replace hq := (ite_f h0_7).symm.trans hq
                    refine cond_f hf rfl h0_7 ?_
                    refine wp_skip ?_
                    refine x_blk_n ?_
                    refine x_then_n ?_
                    refine wp_seq ?_
                    refine wp_region_lit ?_
                    refine st_y hf rfl rfl rfl (y_assign rfl rfl) ?_
                    clear hf a; intro a hf
                    refine st_end ?_
                    refine x_then_n ?_
                    refine wp_ret ?_
                    obtain rfl := Option.some.inj hq
                    refine ret_tmp hf Tryd.results65 rfl ?_
                    exact ⟨rfl, hm.below⟩

theorem impl_encoded_ok (w0 : World) (x_ : Mins) (r : (List UInt8)) (hq : impl_encoded x_ = some r) :
    Con Tryd.prog 45 [(.agg #[(.int .i64 (x_.op)), (.int .i64 (x_.a_)), (.int .i64 (x_.b)), (.int .i64 (x_.c)), (.int .i64 (x_.n_))])] w0 (fun v w' => ∃ (x1 : Value), v = x1 ∧ Mem w0 (hp w0) w' [ow [x1] r]) := by
  unfold impl_encoded at hq
  refine con_body (l := [(0, (.agg #[(.int .i64 (x_.op)), (.int .i64 (x_.a_)), (.int .i64 (x_.b)), (.int .i64 (x_.c)), (.int .i64 (x_.n_))]))]) Tryd.func45 rfl Tryd.ntmps45 (Args.get ⟨rfl, trivial⟩) rfl ?_
  intro a hf
  have hm := Mem.start w0
  refine wp_seq ?_
  refine wp_region_lit ?_
  refine st_ef hf rfl rfl rfl (e_box hf hm rfl rfl rfl) ?_
  clear hf a; rintro _ w0_1 a ⟨b0_1, rfl, hm⟩ hf
  refine st_y hf rfl rfl rfl (y_assign rfl rfl) ?_
  clear hf a; intro a hf
  refine st_end ?_
  refine x_then_n ?_
  refine wp_seq ?_
  refine wp_draw [(true, 0), (true, 1), (true, 2), (true, 3), (true, 4), (true, 5), (false, 6), (false, 7)] [0, 1, 2, 3, 4, 5, 6] (fun w => Mem w0 (hp w0) w [blk b0_1 [(.int .i64 (x_.op)), (.int .i64 (x_.a_)), (.int .i64 (x_.b)), (.int .i64 (x_.c)), (.int .i64 (x_.n_))] 27]) (by kernel_rfl) (by kernel_rfl) (fun _ _ _ h => h.2) ?_
  replace hm := hm.drew
  have hS : Mem w0 (hp w0) _ [blk b0_1 [(.int .i64 (x_.op)), (.int .i64 (x_.a_)), (.int .i64 (x_.b)), (.int .i64 (x_.c)), (.int .i64 (x_.n_))] 27] := hm.pick [0] (by decide) rfl
  refine sd_y hf rfl rfl rfl rfl hS (fun w hm => y_fieldAddr fo_27_0 rfl rfl) ?_
  clear hf a; intro a hf
  refine sd_y hf rfl rfl rfl rfl hS (fun w hm => y_load1 Tryd.isAgg3 rfl rfl (hm.blk_cell 0 rfl rfl)) ?_
  clear hf a; intro a hf
  refine sd_y hf rfl rfl rfl rfl hS (fun w hm => y_conv8 Tryd.underlying3 Tryd.underlying5 rfl rfl) ?_
  clear hf a; intro a hf
  refine sd_y hf rfl rfl rfl rfl hS (fun w hm => y_fieldAddr fo_27_1 rfl rfl) ?_
  clear hf a; intro a hf
  refine sd_y hf rfl rfl rfl rfl hS (fun w hm => y_load1 Tryd.isAgg3 rfl rfl (hm.blk_cell 0 rfl rfl)) ?_
  clear hf a; intro a hf
  refine sd_y hf rfl rfl rfl rfl hS (fun w hm => y_conv8 Tryd.underlying3 Tryd.underlying5 rfl rfl) ?_
  clear hf a; intro a hf
  refine sd_ef hf rfl rfl rfl rfl (ef_y hf (y_assign rfl rfl)) ?_
  clear hf a; rintro _ _ a ⟨rfl, rfl⟩ hf
  refine ⟨fun _ => hS, ?_⟩
  refine sd_ef hf rfl rfl rfl rfl (ef_y hf (y_assign rfl rfl)) ?_
  clear hf a; rintro _ _ a ⟨rfl, rfl⟩ hf
  refine ⟨fun h => absurd h (by decide), ?_⟩
  clear hS; refine sd_end ?_
  refine x_then_n ?_
  refine wp_seq ?_
  refine wp_seq ?_
  refine wp_region_lit ?_
  refine st_y hf rfl rfl rfl (y_fieldAddr fo_27_0 rfl rfl) ?_
  clear hf a; intro a hf
  refine st_y hf rfl rfl rfl (y_load1 Tryd.isAgg3 rfl rfl (hm.blk_cell 0 rfl rfl)) ?_
  clear hf a; intro a hf
  obtain ⟨r0_1, hx0_1, hq⟩ := bnd hq
  refine st_ef hf rfl rfl rfl (e_call hf rfl Tryd.call65 rfl (impl_shapeOf_ok _ x_.op _ hx0_1)) ?_
  clear hf a; rintro _ w0_2 a ⟨rfl, hB⟩ hf
  replace hm := hm.below' hB; clear hB
  refine st_end ?_
  refine x_then_n ?_
  refine wp_block ?_
  refine wp_seq ?_
  refine wp_region_lit ?_
  refine st_y hf rfl rfl rfl (y_eql rfl rfl rfl) ?_
  clear hf a; intro a hf
  refine st_y hf rfl rfl rfl (y_assign rfl rfl) ?_
  clear hf a; intro a hf
  refine st_end ?_
  refine x_then_n ?_
  rcases bcases (decide (r0_1 = 0)) with h0_1 | h0_1
  ·
    replace hq := (ite_t h0_1).symm.trans hq
    have h0_2 := of_decide_eq_true h0_1
    refine cond_t hf rfl h0_1 ?_
    refine wp_seq ?_
    refine wp_region_lit ?_
    refine st_y hf rfl rfl rfl (y_move rfl rfl) ?_
    clear hf a; intro a hf
    refine st_y hf rfl rfl rfl (y_move rfl rfl) ?_
    clear hf a; intro a hf
    refine st_y hf rfl rfl rfl (y_fieldAddr fo_27_4 rfl rfl) ?_
    clear hf a; intro a hf
    refine st_y hf rfl rfl rfl (y_load1 Tryd.isAgg3 rfl rfl (hm.blk_cell 0 rfl rfl)) ?_
    clear hf a; intro a hf
    refine st_y hf rfl rfl rfl (y_conv8 Tryd.underlying3 Tryd.underlying5 rfl rfl) ?_
    clear hf a; intro a hf
    refine st_ef hf rfl rfl rfl (e_build (vs := #[(0, (.int .u8 (((byteI x_.op)).toNat : Int))), (1, (.int .u8 (((byteI x_.a_)).toNat : Int))), (2, (.int .u8 (((byteI x_.n_)).toNat : Int)))]) (cs := [(.int .u8 (((byteI x_.op)).toNat : Int)), (.int .u8 (((byteI x_.a_)).toNat : Int)), (.int .u8 (((byteI x_.n_)).toNat : Int))]) et_24 hf hm rfl rfl (by kernel_rfl) rfl rfl) ?_
    clear hf a; rintro _ w0_3 a ⟨b0_2, rfl, hm⟩ hf
    replace hm := hm.lit (xs := ([(byteI x_.op), (byteI x_.a_), (byteI x_.n_)] : List UInt8)) 0 rfl rfl rfl rfl
    refine st_y hf rfl rfl rfl (y_assign rfl rfl) ?_
    clear hf a; intro a hf
    refine st_end ?_
    refine x_then_n ?_
    refine wp_ret ?_
    refine x_blk_ret ?_
    refine x_then_ret ?_
    obtain rfl := Option.some.inj hq
    refine ret_tmp hf Tryd.results45 rfl ?_
    exact ⟨(.slice (some ⟨b0_2, 0, none⟩) 3 3), rfl, hm.pick [0] (by decide) rfl⟩
  ·
    replace hq := (ite_f h0_1).symm.trans hq
    have h0_3 := of_decide_eq_false h0_1
    refine cond_f hf rfl h0_1 ?_
    refine wp_seq ?_
    refine wp_region_lit ?_
    refine st_y hf rfl rfl rfl (y_eql rfl rfl rfl) ?_
    clear hf a; intro a hf
    refine st_y hf rfl rfl rfl (y_assign rfl rfl) ?_
    clear hf a; intro a hf
    refine st_end ?_
    refine x_then_n ?_
    rcases bcases (decide (r0_1 = 1)) with h0_4 | h0_4
    ·
      replace hq := (ite_t h0_4).symm.trans hq
      have h0_5 := of_decide_eq_true h0_4
      refine cond_t hf rfl h0_4 ?_
      refine wp_seq ?_
      refine wp_region_lit ?_
      refine st_y hf rfl rfl rfl (y_move rfl rfl) ?_
      clear hf a; intro a hf
      refine st_y hf rfl rfl rfl (y_move rfl rfl) ?_
      clear hf a; intro a hf
      refine st_y hf rfl rfl rfl (y_fieldAddr fo_27_2 rfl rfl) ?_
      clear hf a; intro a hf
      refine st_y hf rfl rfl rfl (y_load1 Tryd.isAgg3 rfl rfl (hm.blk_cell 0 rfl rfl)) ?_
      clear hf a; intro a hf
      refine st_y hf rfl rfl rfl (y_conv8 Tryd.underlying3 Tryd.underlying5 rfl rfl) ?_
      clear hf a; intro a hf
      refine st_y hf rfl rfl rfl (y_mul8 (b := (8 : UInt8)) (c := (byteI x_.b)) rfl rfl rfl) ?_
      clear hf a; intro a hf
      refine st_y hf rfl rfl rfl (y_add8 (b := (byteI x_.a_)) (c := ((8 : UInt8) * (byteI x_.b))) rfl rfl rfl) ?_
      clear hf a; intro a hf
      refine st_ef hf rfl rfl rfl (e_build (vs := #[(0, (.int .u8 (((byteI x_.op)).toNat : Int))), (1, (.int .u8 ((((byteI x_.a_) + ((8 : UInt8) * (byteI x_.b)))).toNat : Int)))]) (cs := [(.int .u8 (((byteI x_.op)).toNat : Int)), (.int .u8 ((((byteI x_.a_) + ((8 : UInt8) * (byteI x_.b)))).toNat : Int))]) et_24 hf hm rfl rfl (by kernel_rfl) rfl rfl) ?_
      clear hf a; rintro _ w0_4 a ⟨b0_3, rfl, hm⟩ hf
      replace hm := hm.lit (xs := ([(byteI x_.op), ((byteI x_.a_) + ((8 : UInt8) * (byteI x_.b)))] : List UInt8)) 0 rfl rfl rfl rfl
      refine st_y hf rfl rfl rfl (y_assign rfl rfl) ?_
      clear hf a; intro a hf
      refine st_end ?_
      refine x_then_n ?_
      refine wp_ret ?_
      refine x_blk_ret ?_
      refine x_then_ret ?_
      obtain rfl := Option.some.inj hq
      refine ret_tmp hf Tryd.results45 rfl ?_
      exact ⟨(.slice (some ⟨b0_3, 0, none⟩) 2 2), rfl, hm.pick [0] (by decide) rfl⟩
    ·
      replace hq := (ite_f h0_4).symm.trans hq
      have h0_6 := of_decide_eq_false h0_4
      refine cond_f hf rfl h0_4 ?_
      refine wp_seq ?_
      refine wp_region_lit ?_
      refine st_y hf rfl rfl rfl (y_eql rfl rfl rfl) ?_
      clear hf a; intro a hf
      refine st_y hf rfl rfl rfl (y_assign rfl rfl) ?_
      clear hf a; intro a hf
      refine st_end ?_
      refine x_then_n ?_
      rcases bcases (decide (r0_1 = 2)) with h0_7 | h0_7
      ·
        replace hq := (ite_t h0_7).symm.trans hq
        have h0_8 := of_decide_eq_true h0_7
        refine cond_t hf rfl h0_7 ?_
        refine wp_seq ?_
        refine wp_region_lit ?_
        refine st_y hf rfl rfl rfl (y_move rfl rfl) ?_
        clear hf a; intro a hf
        refine st_y hf rfl rfl rfl (y_move rfl rfl) ?_
        clear hf a; intro a hf
        refine st_y hf rfl rfl rfl (y_fieldAddr fo_27_2 rfl rfl) ?_
        clear hf a; intro a hf
        refine st_y hf rfl rfl rfl (y_load1 Tryd.isAgg3 rfl rfl (hm.blk_cell 0 rfl rfl)) ?_
        clear hf a; intro a hf
        refine st_y hf rfl rfl rfl (y_conv8 Tryd.underlying3 Tryd.underlying5 rfl rfl) ?_
        clear hf a; intro a hf
        refine st_y hf rfl rfl rfl (y_mul8 (b := (8 : UInt8)) (c := (byteI x_.b)) rfl rfl rfl) ?_
        clear hf a; intro a hf
        refine st_y hf rfl rfl rfl (y_add8 (b := (byteI x_.a_)) (c := ((8 : UInt8) * (byteI x_.b))) rfl rfl rfl) ?_
        clear hf a; intro a hf
        refine st_y hf rfl rfl rfl (y_fieldAddr fo_27_3 rfl rfl) ?_
        clear hf a; intro a hf
        refine st_y hf rfl rfl rfl (y_load1 Tryd.isAgg3 rfl rfl (hm.blk_cell 0 rfl rfl)) ?_
        clear hf a; intro a hf
        refine st_y hf rfl rfl rfl (y_conv8 Tryd.underlying3 Tryd.underlying5 rfl rfl) ?_
        clear hf a; intro a hf
        refine st_ef hf rfl rfl rfl (e_build (vs := #[(0, (.int .u8 (((byteI x_.op)).toNat : Int))), (1, (.int .u8 ((((byteI x_.a_) + ((8 : UInt8) * (byteI x_.b)))).toNat : Int))), (2, (.int .u8 (((byteI x_.c)).toNat : Int)))]) (cs := [(.int .u8 (((byteI x_.op)).toNat : Int)), (.int .u8 ((((byteI x_.a_) + ((8 : UInt8) * (byteI x_.b)))).toNat : Int)), (.int .u8 (((byteI x_.c)).toNat : Int))]) et_24 hf hm rfl rfl (by kernel_rfl) rfl rfl) ?_
        clear hf a; rintro _ w0_5 a ⟨b0_4, rfl, hm⟩ hf
        replace hm := hm.lit (xs := ([(byteI x_.op), ((byteI x_.a_) + ((8 : UInt8) * (byteI x_.b))), (byteI x_.c)] : List UInt8)) 0 rfl rfl rfl rfl
        refine st_y hf rfl rfl rfl (y_assign rfl rfl) ?_
        clear hf a; intro a hf
        refine st_end ?_
        refine x_then_n ?_
        refine wp_ret ?_
        refine x_blk_ret ?_
        refine x_then_ret ?_
        obtain rfl := Option.some.inj hq
        refine ret_tmp hf Tryd.results45 rfl ?_
        exact ⟨(.slice (some ⟨b0_4, 0, none⟩) 3 3), rfl, hm.pick [0] (by decide) rfl⟩
      ·
        replace hq := (ite_f h0_7).symm.trans hq
        have h0_9 := of_decide_eq_false h0_7
        refine cond_f hf rfl h0_7 ?_
        refine wp_seq ?_
        refine wp_region_lit ?_
        refine st_y hf rfl rfl rfl (y_eql rfl rfl rfl) ?_
        clear hf a; intro a hf
        refine st_y hf rfl rfl rfl (y_assign rfl rfl) ?_
        clear hf a; intro a hf
        refine st_end ?_
        refine x_then_n ?_
        rcases bcases (decide (r0_1 = 4)) with h0_10 | h0_10
        ·
          replace hq := (ite_t h0_10).symm.trans hq
          have h0_11 := of_decide_eq_true h0_10
          refine cond_t hf rfl h0_10 ?_
          refine wp_seq ?_
          refine wp_region_lit ?_
          refine st_y hf rfl rfl rfl (y_move rfl rfl) ?_
          clear hf a; intro a hf
          refine st_y hf rfl rfl rfl (y_fieldAddr fo_27_4 rfl rfl) ?_
          clear hf a; intro a hf
          refine st_y hf rfl rfl rfl (y_load1 Tryd.isAgg3 rfl rfl (hm.blk_cell 0 rfl rfl)) ?_
          clear hf a; intro a hf
          refine st_y hf rfl rfl rfl (y_conv8 Tryd.underlying3 Tryd.underlying5 rfl rfl) ?_
          clear hf a; intro a hf
          refine st_ef hf rfl rfl rfl (e_build (vs := #[(0, (.int .u8 (((byteI x_.op)).toNat : Int))), (1, (.int .u8 (((byteI x_.n_)).toNat : Int)))]) (cs := [(.int .u8 (((byteI x_.op)).toNat : Int)), (.int .u8 (((byteI x_.n_)).toNat : Int))]) et_24 hf hm rfl rfl (by kernel_rfl) rfl rfl) ?_
          clear hf a; rintro _ w0_6 a ⟨b0_5, rfl, hm⟩ hf
          replace hm := hm.lit (xs := ([(byteI x_.op), (byteI x_.n_)] : List UInt8)) 0 rfl rfl rfl rfl
          refine st_y hf rfl rfl rfl (y_assign rfl rfl) ?_
          clear hf a; intro a hf
          refine st_end ?_
          refine x_then_n ?_
          refine wp_ret ?_
          refine x_blk_ret ?_
          refine x_then_ret ?_
          obtain rfl := Option.some.inj hq
          refine ret_tmp hf Tryd.results45 rfl ?_
          exact ⟨(.slice (some ⟨b0_5, 0, none⟩) 2 2), rfl, hm.pick [0] (by decide) rfl⟩
        ·
          replace hq := (ite_f h0_10).symm.trans hq
          have h0_12 := of_decide_eq_false h0_10
          refine cond_f hf rfl h0_10 ?_
          refine wp_skip ?_
          refine x_blk_n ?_
          refine x_then_n ?_
          refine wp_seq ?_
          refine wp_region_lit ?_
          refine st_y hf rfl rfl rfl (y_move rfl rfl) ?_
          clear hf a; intro a hf
          refine st_y hf rfl rfl rfl (y_move rfl rfl) ?_
          clear hf a; intro a hf
          refine st_ef hf rfl rfl rfl (e_build (vs := #[(0, (.int .u8 (((byteI x_.op)).toNat : Int))), (1, (.int .u8 (((byteI x_.a_)).toNat : Int)))]) (cs := [(.int .u8 (((byteI x_.op)).toNat : Int)), (.int .u8 (((byteI x_.a_)).toNat : Int))]) et_24 hf hm rfl rfl (by kernel_rfl) rfl rfl) ?_
          clear hf a; rintro _ w0_7 a ⟨b0_6, rfl, hm⟩ hf
          replace hm := hm.lit (xs := ([(byteI x_.op), (byteI x_.a_)] : List UInt8)) 0 rfl rfl rfl rfl
          refine st_y hf rfl rfl rfl (y_assign rfl rfl) ?_
          clear hf a; intro a hf
          refine st_end ?_
          refine x_then_n ?_
          refine wp_ret ?_
          obtain rfl := Option.some.inj hq
          refine ret_tmp hf Tryd.results45 rfl ?_
          exact ⟨(.slice (some ⟨b0_6, 0, none⟩) 2 2), rfl, hm.pick [0] (by decide) rfl⟩

theorem impl_EncodeMins_ok (w0 : World) (x_ : Mins) (hG0 : GT.rep (hp w0) [.slice (some ⟨0, 0, none⟩) 23 23] glob_impl_forms) (r : (List UInt8) × Bool) (hq : impl_EncodeMins x_ = some r) :
    Con Tryd.prog 12 [(.agg #[(.int .i64 (x_.op)), (.int .i64 (x_.a_)), (.int .i64 (x_.b)), (.int .i64 (x_.c)), (.int .i64 (x_.n_))])] w0 (fun v w' => ∃ (x1 : Value), v = (.tuple #[x1, (.bool (r.2))]) ∧ Mem w0 (hp w0) w' [ow [x1] r.1]) := by
  unfold impl_EncodeMins at hq
  refine con_body (l := [(0, (.agg #[(.int .i64 (x_.op)), (.int .i64 (x_.a_)), (.int .i64 (x_.b)), (.int .i64 (x_.c)), (.int .i64 (x_.n_))]))]) Tryd.func12 rfl Tryd.ntmps12 (Args.get ⟨rfl, trivial⟩) rfl ?_
  intro a hf
  have hm := Mem.start w0
  refine wp_seq ?_
  refine wp_region_lit ?_
  refine st_ef hf rfl rfl rfl (e_box hf hm rfl rfl rfl) ?_
  clear hf a; rintro _ w0_1 a ⟨b0_1, rfl, hm⟩ hf
  refine st_y hf rfl rfl rfl (y_assign rfl rfl) ?_
  clear hf a; intro a hf
  refine st_y hf rfl rfl rfl (y_assign rfl rfl) ?_
  clear hf a; intro a hf
  refine st_end ?_
  refine x_then_n ?_
  refine wp_seq ?_
  refine wp_seq ?_
  refine wp_region_lit ?_
  refine st_y hf rfl rfl rfl (y_loadN (cs := [(.int .i64 (x_.op)), (.int .i64 (x_.a_)), (.int .i64 (x_.b)), (.int .i64 (x_.c)), (.int .i64 (x_.n_))]) Tryd.isAgg27 Tryd.sizeOf27 rfl rfl (hm.blk_at 0 rfl)) ?_
  clear hf a; intro a hf
  obtain ⟨r0_1, hx0_1, hq⟩ := bnd hq
  refine st_ef hf rfl rfl rfl (e_call hf rfl Tryd.call41 rfl (impl_formOf_ok _ x_ (hm.now hG0) _ hx0_1)) ?_
  clear hf a; rintro _ w0_2 a ⟨rfl, hB⟩ hf
  replace hm := hm.below' hB; clear hB
  refine st_y hf rfl rfl rfl (y_move rfl rfl) ?_
  clear hf a; intro a hf
  refine st_y hf rfl rfl rfl (y_extract rfl rfl rfl) ?_
  clear hf a; intro a hf
  refine st_y hf rfl rfl rfl (y_extract rfl rfl rfl) ?_
  clear hf a; intro a hf
  refine st_ef hf rfl rfl rfl (e_alloc hm Tryd.zeroValue62 rfl rfl) ?_
  clear hf a; rintro _ w0_3 a ⟨b0_2, rfl, hm⟩ hf
  refine st_ef0 hf rfl rfl (e_storeN 0 hf hm rfl Tryd.sizeOf62 rfl rfl rfl (one_cons rfl (one_cons rfl one_nil)) rfl rfl) ?_
  clear hf a; rintro _ w0_4 a hm hf
  refine st_y hf rfl rfl rfl (y_assign rfl rfl) ?_
  clear hf a; intro a hf
  refine st_end ?_
  refine x_then_n ?_
  refine wp_seq ?_
  obtain ⟨s0_1, hq0_1, hq⟩ := bnd hq
  refine code_cut (K := fun a w => Fr 44 [(1, (.pointer (some ⟨b0_1, 0, none⟩))), (41, (.bool (s0_1)))] a ∧ Mem w0 (hp w0) w [blk b0_1 [(.int .i64 (x_.op)), (.int .i64 (x_.a_)), (.int .i64 (x_.b)), (.int .i64 (x_.c)), (.int .i64 (x_.n_))] 27]) ?_ ?_
  ·
    refine wp_region_lit ?_
    refine st_y hf rfl rfl rfl (y_move rfl rfl) ?_
    clear hf a; intro a hf
    refine st_y hf rfl rfl rfl (y_not rfl rfl) ?_
    clear hf a; intro a hf
    refine st_y hf rfl rfl rfl (y_move rfl rfl) ?_
    clear hf a; intro a hf
    rcases bcases (!(r0_1.2)) with h1_1 | h1_1
    ·
      replace hq0_1 := (ite_t h1_1).symm.trans hq0_1
      have h1_2 := bnot_t' h1_1
      refine st_no hf rfl rfl (lk_b rfl h1_1) rfl rfl rfl ?_
      clear hf a; intro a hf
      refine st_no hf rfl rfl (lk_b rfl h1_1) rfl rfl rfl ?_
      clear hf a; intro a hf
      refine st_no hf rfl rfl (lk_b rfl h1_1) rfl rfl rfl ?_
      clear hf a; intro a hf
      refine st_y hf rfl rfl rfl (y_pick_t rfl (ev_b rfl h1_1) rfl) ?_
      clear hf a; intro a hf
      refine st_y hf rfl rfl rfl (y_move rfl rfl) ?_
      clear hf a; intro a hf
      refine st_no hf rfl rfl (lk_b rfl rfl) rfl rfl rfl ?_
      clear hf a; intro a hf
      refine st_no hf rfl rfl (lk_b rfl rfl) rfl rfl rfl ?_
      clear hf a; intro a hf
      refine st_no hf rfl rfl (lk_b rfl rfl) rfl rfl rfl ?_
      clear hf a; intro a hf
      refine st_no hf rfl rfl (lk_b rfl rfl) rfl rfl rfl ?_
      clear hf a; intro a hf
      refine st_y hf rfl rfl rfl (y_pick_t rfl (ev_b rfl rfl) rfl) ?_
      clear hf a; intro a hf
      refine st_y hf rfl rfl rfl (y_move rfl rfl) ?_
      clear hf a; intro a hf
      refine st_no hf rfl rfl (lk_b rfl rfl) rfl rfl rfl ?_
      clear hf a; intro a hf
      refine st_no hf rfl rfl (lk_b rfl rfl) rfl rfl rfl ?_
      clear hf a; intro a hf
      refine st_no hf rfl rfl (lk_b rfl rfl) rfl rfl rfl ?_
      clear hf a; intro a hf
      refine st_no hf rfl rfl (lk_b rfl rfl) rfl rfl rfl ?_
      clear hf a; intro a hf
      refine st_y hf rfl rfl rfl (y_pick_t rfl (ev_b rfl rfl) rfl) ?_
      clear hf a; intro a hf
      refine st_y hf rfl rfl rfl (y_move rfl rfl) ?_
      clear hf a; intro a hf
      refine st_no hf rfl rfl (lk_b rfl rfl) rfl rfl rfl ?_
      clear hf a; intro a hf
      refine st_no hf rfl rfl (lk_b rfl rfl) rfl rfl rfl ?_
      clear hf a; intro a hf
      refine st_no hf rfl rfl (lk_b rfl rfl) rfl rfl rfl ?_
      clear hf a; intro a hf
      refine st_no hf rfl rfl (lk_b rfl rfl) rfl rfl rfl ?_
      clear hf a; intro a hf
      refine st_y hf rfl rfl rfl (y_pick_t rfl (ev_b rfl rfl) rfl) ?_
      clear hf a; intro a hf
      refine st_y hf rfl rfl rfl (y_move rfl rfl) ?_
      clear hf a; intro a hf
      refine st_no hf rfl rfl (lk_b rfl rfl) rfl rfl rfl ?_
      clear hf a; intro a hf
      refine st_no hf rfl rfl (lk_b rfl rfl) rfl rfl rfl ?_
      clear hf a; intro a hf
      refine st_no hf rfl rfl (lk_b rfl rfl) rfl rfl rfl ?_
      clear hf a; intro a hf
      refine st_no hf rfl rfl (lk_b rfl rfl) rfl rfl rfl ?_
      clear hf a; intro a hf
      refine st_y hf rfl rfl rfl (y_pick_t rfl (ev_b rfl rfl) rfl) ?_
      clear hf a; intro a hf
      refine st_end ?_
      refine x_then_n ?_
      obtain rfl := Option.some.inj hq0_1
      exact ⟨hf.sub ⟨rfl, rfl, trivial⟩, hm.pick [1] (by decide) rfl⟩
    ·
      replace hq0_1 := (ite_f h1_1).symm.trans hq0_1
      have h1_3 := bnot_f' h1_1
      refine st_yg hf rfl rfl (lk_b rfl h1_1) rfl rfl (y_fieldAddr fo_27_0 rfl rfl) ?_
      clear hf a; intro a hf
      refine st_yg hf rfl rfl (lk_b rfl h1_1) rfl rfl (y_load1 Tryd.isAgg3 rfl rfl (hm.blk_cell 1 rfl rfl)) ?_
      clear hf a; intro a hf
      obtain ⟨r1_1, hx1_1, hq0_1⟩ := bnd hq0_1
      refine st_efg hf rfl rfl (lk_b rfl h1_1) rfl rfl (e_call hf rfl Tryd.call42 rfl (impl_jumpOp_ok _ x_.op _ hx1_1)) ?_
      clear hf a; rintro _ w1_1 a ⟨rfl, hB⟩ hf
      replace hm := hm.below' hB; clear hB
      refine st_y hf rfl rfl rfl (y_pick_f rfl (ev_b rfl h1_1) rfl) ?_
      clear hf a; intro a hf
      refine st_y hf rfl rfl rfl (y_move rfl rfl) ?_
      clear hf a; intro a hf
      rcases bcases (r1_1) with h1_4 | h1_4
      ·
        replace hq0_1 := (ite_t h1_4).symm.trans hq0_1
        refine st_no hf rfl rfl (lk_b rfl h1_4) rfl rfl rfl ?_
        clear hf a; intro a hf
        refine st_no hf rfl rfl (lk_b rfl h1_4) rfl rfl rfl ?_
        clear hf a; intro a hf
        refine st_no hf rfl rfl (lk_b rfl h1_4) rfl rfl rfl ?_
        clear hf a; intro a hf
        refine st_no hf rfl rfl (lk_b rfl h1_4) rfl rfl rfl ?_
        clear hf a; intro a hf
        refine st_y hf rfl rfl rfl (y_pick_t rfl (ev_b rfl h1_4) rfl) ?_
        clear hf a; intro a hf
        refine st_y hf rfl rfl rfl (y_move rfl rfl) ?_
        clear hf a; intro a hf
        refine st_no hf rfl rfl (lk_b rfl rfl) rfl rfl rfl ?_
        clear hf a; intro a hf
        refine st_no hf rfl rfl (lk_b rfl rfl) rfl rfl rfl ?_
        clear hf a; intro a hf
        refine st_no hf rfl rfl (lk_b rfl rfl) rfl rfl rfl ?_
        clear hf a; intro a hf
        refine st_no hf rfl rfl (lk_b rfl rfl) rfl rfl rfl ?_
        clear hf a; intro a hf
        refine st_y hf rfl rfl rfl (y_pick_t rfl (ev_b rfl rfl) rfl) ?_
        clear hf a; intro a hf
        refine st_y hf rfl rfl rfl (y_move rfl rfl) ?_
        clear hf a; intro a hf
        refine st_no hf rfl rfl (lk_b rfl rfl) rfl rfl rfl ?_
        clear hf a; intro a hf
        refine st_no hf rfl rfl (lk_b rfl rfl) rfl rfl rfl ?_
        clear hf a; intro a hf
        refine st_no hf rfl rfl (lk_b rfl rfl) rfl rfl rfl ?_
        clear hf a; intro a hf
        refine st_no hf rfl rfl (lk_b rfl rfl) rfl rfl rfl ?_
        clear hf a; intro a hf
        refine st_y hf rfl rfl rfl (y_pick_t rfl (ev_b rfl rfl) rfl) ?_
        clear hf a; intro a hf
        refine st_y hf rfl rfl rfl (y_move rfl rfl) ?_
        clear hf a; intro a hf
        refine st_no hf rfl rfl (lk_b rfl rfl) rfl rfl rfl ?_
        clear hf a; intro a hf
        refine st_no hf rfl rfl (lk_b rfl rfl) rfl rfl rfl ?_
        clear hf a; intro a hf
        refine st_no hf rfl rfl (lk_b rfl rfl) rfl rfl rfl ?_
        clear hf a; intro a hf
        refine st_no hf rfl rfl (lk_b rfl rfl) rfl rfl rfl ?_
        clear hf a; intro a hf
        refine st_y hf rfl rfl rfl (y_pick_t rfl (ev_b rfl rfl) rfl) ?_
        clear hf a; intro a hf
        refine st_end ?_
        refine x_then_n ?_
        obtain rfl := Option.some.inj hq0_1
        exact ⟨hf.sub ⟨rfl, rfl, trivial⟩, hm.pick [1] (by decide) rfl⟩
      ·
        replace hq0_1 := (ite_f h1_4).symm.trans hq0_1
        refine st_yg hf rfl rfl (lk_b rfl h1_4) rfl rfl (y_fieldAddr fo_27_1 rfl rfl) ?_
        clear hf a; intro a hf
        refine st_yg hf rfl rfl (lk_b rfl h1_4) rfl rfl (y_load1 Tryd.isAgg3 rfl rfl (hm.blk_cell 1 rfl rfl)) ?_
        clear hf a; intro a hf
        obtain ⟨r1_2, hx1_2, hq0_1⟩ := bnd hq0_1
        refine st_efg hf rfl rfl (lk_b rfl h1_4) rfl rfl (e_call hf rfl Tryd.call43 rfl (impl_within_ok _ x_.a_ 0 7 _ hx1_2)) ?_
        clear hf a; rintro _ w1_2 a ⟨rfl, hB⟩ hf
        replace hm := hm.below' hB; clear hB
        refine st_yg hf rfl rfl (lk_b rfl h1_4) rfl rfl (y_not rfl rfl) ?_
        clear hf a; intro a hf
        refine st_y hf rfl rfl rfl (y_pick_f rfl (ev_b rfl h1_4) rfl) ?_
        clear hf a; intro a hf
        refine st_y hf rfl rfl rfl (y_move rfl rfl) ?_
        clear hf a; intro a hf
        rcases bcases (!(r1_2)) with h1_5 | h1_5
        ·
          replace hq0_1 := (ite_t h1_5).symm.trans hq0_1
          have h1_6 := bnot_t' h1_5
          refine st_no hf rfl rfl (lk_b rfl h1_5) rfl rfl rfl ?_
          clear hf a; intro a hf
          refine st_no hf rfl rfl (lk_b rfl h1_5) rfl rfl rfl ?_
          clear hf a; intro a hf
          refine st_no hf rfl rfl (lk_b rfl h1_5) rfl rfl rfl ?_
          clear hf a; intro a hf
          refine st_no hf rfl rfl (lk_b rfl h1_5) rfl rfl rfl ?_
          clear hf a; intro a hf
          refine st_y hf rfl rfl rfl (y_pick_t rfl (ev_b rfl h1_5) rfl) ?_
          clear hf a; intro a hf
          refine st_y hf rfl rfl rfl (y_move rfl rfl) ?_
          clear hf a; intro a hf
          refine st_no hf rfl rfl (lk_b rfl rfl) rfl rfl rfl ?_
          clear hf a; intro a hf
          refine st_no hf rfl rfl (lk_b rfl rfl) rfl rfl rfl ?_
          clear hf a; intro a hf
          refine st_no hf rfl rfl (lk_b rfl rfl) rfl rfl rfl ?_
          clear hf a; intro a hf
          refine st_no hf rfl rfl (lk_b rfl rfl) rfl rfl rfl ?_
          clear hf a; intro a hf
          refine st_y hf rfl rfl rfl (y_pick_t rfl (ev_b rfl rfl) rfl) ?_
          clear hf a; intro a hf
          refine st_y hf rfl rfl rfl (y_move rfl rfl) ?_
          clear hf a; intro a hf
          refine st_no hf rfl rfl (lk_b rfl rfl) rfl rfl rfl ?_
          clear hf a; intro a hf
          refine st_no hf rfl rfl (lk_b rfl rfl) rfl rfl rfl ?_
          clear hf a; intro a hf
          refine st_no hf rfl rfl (lk_b rfl rfl) rfl rfl rfl ?_
          clear hf a; intro a hf
          refine st_no hf rfl rfl (lk_b rfl rfl) rfl rfl rfl ?_
          clear hf a; intro a hf
          refine st_y hf rfl rfl rfl (y_pick_t rfl (ev_b rfl rfl) rfl) ?_
          clear hf a; intro a hf
          refine st_end ?_
          refine x_then_n ?_
          obtain rfl := Option.some.inj hq0_1
          exact ⟨hf.sub ⟨rfl, rfl, trivial⟩, hm.pick [1] (by decide) rfl⟩
        ·
          replace hq0_1 := (ite_f h1_5).symm.trans hq0_1
          have h1_7 := bnot_f' h1_5
          refine st_yg hf rfl rfl (lk_b rfl h1_5) rfl rfl (y_fieldAddr fo_27_2 rfl rfl) ?_
          clear hf a; intro a hf
          refine st_yg hf rfl rfl (lk_b rfl h1_5) rfl rfl (y_load1 Tryd.isAgg3 rfl rfl (hm.blk_cell 1 rfl rfl)) ?_
          clear hf a; intro a hf
          obtain ⟨r1_3, hx1_3, hq0_1⟩ := bnd hq0_1
          refine st_efg hf rfl rfl (lk_b rfl h1_5) rfl rfl (e_call hf rfl Tryd.call43 rfl (impl_within_ok _ x_.b 0 7 _ hx1_3)) ?_
          clear hf a; rintro _ w1_3 a ⟨rfl, hB⟩ hf
          replace hm := hm.below' hB; clear hB
          refine st_yg hf rfl rfl (lk_b rfl h1_5) rfl rfl (y_not rfl rfl) ?_
          clear hf a; intro a hf
          refine st_y hf rfl rfl rfl (y_pick_f rfl (ev_b rfl h1_5) rfl) ?_
          clear hf a; intro a hf
          refine st_y hf rfl rfl rfl (y_move rfl rfl) ?_
          clear hf a; intro a hf
          rcases bcases (!(r1_3)) with h1_8 | h1_8
          ·
            replace hq0_1 := (ite_t h1_8).symm.trans hq0_1
            have h1_9 := bnot_t' h1_8
            refine st_no hf rfl rfl (lk_b rfl h1_8) rfl rfl rfl ?_
            clear hf a; intro a hf
            refine st_no hf rfl rfl (lk_b rfl h1_8) rfl rfl rfl ?_
            clear hf a; intro a hf
            refine st_no hf rfl rfl (lk_b rfl h1_8) rfl rfl rfl ?_
            clear hf a; intro a hf
            refine st_no hf rfl rfl (lk_b rfl h1_8) rfl rfl rfl ?_
            clear hf a; intro a hf
            refine st_y hf rfl rfl rfl (y_pick_t rfl (ev_b rfl h1_8) rfl) ?_
            clear hf a; intro a hf
            refine st_y hf rfl rfl rfl (y_move rfl rfl) ?_
            clear hf a; intro a hf
            refine st_no hf rfl rfl (lk_b rfl rfl) rfl rfl rfl ?_
            clear hf a; intro a hf
            refine st_no hf rfl rfl (lk_b rfl rfl) rfl rfl rfl ?_
            clear hf a; intro a hf
            refine st_no hf rfl rfl (lk_b rfl rfl) rfl rfl rfl ?_
            clear hf a; intro a hf
            refine st_no hf rfl rfl (lk_b rfl rfl) rfl rfl rfl ?_
            clear hf a; intro a hf
            refine st_y hf rfl rfl rfl (y_pick_t rfl (ev_b rfl rfl) rfl) ?_
            clear hf a; intro a hf
            refine st_end ?_
            refine x_then_n ?_
            obtain rfl := Option.some.inj hq0_1
            exact ⟨hf.sub ⟨rfl, rfl, trivial⟩, hm.pick [1] (by decide) rfl⟩
          ·
            replace hq0_1 := (ite_f h1_8).symm.trans hq0_1
            have h1_10 := bnot_f' h1_8
            refine st_yg hf rfl rfl (lk_b rfl h1_8) rfl rfl (y_fieldAddr fo_27_3 rfl rfl) ?_
            clear hf a; intro a hf
            refine st_yg hf rfl rfl (lk_b rfl h1_8) rfl rfl (y_load1 Tryd.isAgg3 rfl rfl (hm.blk_cell 1 rfl rfl)) ?_
            clear hf a; intro a hf
            obtain ⟨r1_4, hx1_4, hq0_1⟩ := bnd hq0_1
            refine st_efg hf rfl rfl (lk_b rfl h1_8) rfl rfl (e_call hf rfl Tryd.call43 rfl (impl_within_ok _ x_.c 0 7 _ hx1_4)) ?_
            clear hf a; rintro _ w1_4 a ⟨rfl, hB⟩ hf
            replace hm := hm.below' hB; clear hB
            refine st_yg hf rfl rfl (lk_b rfl h1_8) rfl rfl (y_not rfl rfl) ?_
            clear hf a; intro a hf
            refine st_y hf rfl rfl rfl (y_pick_f rfl (ev_b rfl h1_8) rfl) ?_
            clear hf a; intro a hf
            refine st_y hf rfl rfl rfl (y_move rfl rfl) ?_
            clear hf a; intro a hf
            rcases bcases (!(r1_4)) with h1_11 | h1_11
            ·
              replace hq0_1 := (ite_t h1_11).symm.trans hq0_1
              have h1_12 := bnot_t' h1_11
              refine st_no hf rfl rfl (lk_b rfl h1_11) rfl rfl rfl ?_
              clear hf a; intro a hf
              refine st_no hf rfl rfl (lk_b rfl h1_11) rfl rfl rfl ?_
              clear hf a; intro a hf
              refine st_no hf rfl rfl (lk_b rfl h1_11) rfl rfl rfl ?_
              clear hf a; intro a hf
              refine st_no hf rfl rfl (lk_b rfl h1_11) rfl rfl rfl ?_
              clear hf a; intro a hf
              refine st_y hf rfl rfl rfl (y_pick_t rfl (ev_b rfl h1_11) rfl) ?_
              clear hf a; intro a hf
              refine st_end ?_
              refine x_then_n ?_
              obtain rfl := Option.some.inj hq0_1
              exact ⟨hf.sub ⟨rfl, rfl, trivial⟩, hm.pick [1] (by decide) rfl⟩
            ·
              replace hq0_1 := (ite_f h1_11).symm.trans hq0_1
              have h1_13 := bnot_f' h1_11
              refine st_yg hf rfl rfl (lk_b rfl h1_11) rfl rfl (y_fieldAddr fo_27_4 rfl rfl) ?_
              clear hf a; intro a hf
              refine st_yg hf rfl rfl (lk_b rfl h1_11) rfl rfl (y_load1 Tryd.isAgg3 rfl rfl (hm.blk_cell 1 rfl rfl)) ?_
              clear hf a; intro a hf
              obtain ⟨r1_5, hx1_5, hq0_1⟩ := bnd hq0_1
              refine st_efg hf rfl rfl (lk_b rfl h1_11) rfl rfl (e_call hf rfl Tryd.call44 rfl (impl_isByte_ok _ x_.n_ _ hx1_5)) ?_
              clear hf a; rintro _ w1_5 a ⟨rfl, hB⟩ hf
              replace hm := hm.below' hB; clear hB
              refine st_yg hf rfl rfl (lk_b rfl h1_11) rfl rfl (y_not rfl rfl) ?_
              clear hf a; intro a hf
              refine st_y hf rfl rfl rfl (y_pick_f rfl (ev_b rfl h1_11) rfl) ?_
              clear hf a; intro a hf
              refine st_end ?_
              refine x_then_n ?_
              obtain rfl := Option.some.inj hq0_1
              exact ⟨hf.sub ⟨rfl, rfl, trivial⟩, hm.pick [1] (by decide) rfl⟩
  ·
    clear hf hm
    rintro a w ⟨hf, hm⟩
    refine x_then_n ?_
    rcases bcases (s0_1) with h0_1 | h0_1
    ·
      replace hq := (ite_t h0_1).symm.trans hq
      refine cond_t hf rfl h0_1 ?_
      refine wp_seq ?_
      refine wp_region_lit ?_
      refine st_y hf rfl rfl rfl (y_assign rfl rfl) ?_
      clear hf a; intro a hf
      refine st_y hf rfl rfl rfl (y_assign rfl rfl) ?_
      clear hf a; intro a hf
      refine st_end ?_
      refine x_then_n ?_
      refine wp_ret ?_
      refine x_then_ret ?_
      obtain rfl := Option.some.inj hq
      have hm := hm.nilow (α := UInt8)
      refine ret_tmp2 hf Tryd.results12 rfl rfl ?_
      exact ⟨(.slice none 0 0), rfl, hm.pick [0] (by decide) rfl⟩
    ·
      replace hq := (ite_f h0_1).symm.trans hq
      refine cond_f hf rfl h0_1 ?_
      refine wp_skip ?_
      refine x_then_n ?_
      refine wp_seq ?_
      refine wp_region_lit ?_
      refine st_y hf rfl rfl rfl (y_loadN (cs := [(.int .i64 (x_.op)), (.int .i64 (x_.a_)), (.int .i64 (x_.b)), (.int .i64 (x_.c)), (.int .i64 (x_.n_))]) Tryd.isAgg27 Tryd.sizeOf27 rfl rfl (hm.blk_at 0 rfl)) ?_
      clear hf a; intro a hf
      obtain ⟨r0_2, hx0_2, hq⟩ := bnd hq
      refine st_ef hf rfl rfl rfl (e_call hf rfl Tryd.call45 rfl (impl_encoded_ok _ x_ _ hx0_2)) ?_
      clear hf a; rintro v0_1 w0_5 a ⟨_, rfl, hB⟩ hf
      replace hm := hm.give hB; clear hB
      refine st_y hf rfl rfl rfl (y_assign rfl rfl) ?_
      clear hf a; intro a hf
      refine st_y hf rfl rfl rfl (y_assign rfl rfl) ?_
      clear hf a; intro a hf
      refine st_end ?_
      refine x_then_n ?_
      refine wp_ret ?_
      obtain rfl := Option.some.inj hq
      refine ret_tmp2 hf Tryd.results12 rfl rfl ?_
      exact ⟨v0_1, rfl, hm.pick [0] (by decide) rfl⟩

theorem laws_eqByteS_ok (w0 : World) (a_ : List UInt8) (v1 : Value) (h1 : GT.rep (hp w0) [v1] a_) (b_ : List UInt8) (v2 : Value) (h2 : GT.rep (hp w0) [v2] b_) (r : Bool) (hq : laws_eqByteS a_ b_ = some r) :
    Con Tryd.prog 13 [v1, v2] w0 (fun v w' => v = (.bool (r)) ∧ Below w0.heap.size w0 w') := by
  unfold laws_eqByteS at hq
  refine con_body (l := [(0, v1), (1, v2)]) Tryd.func13 rfl Tryd.ntmps13 (Args.get ⟨rfl, rfl, trivial⟩) rfl ?_
  intro a hf
  have hm := Mem.start w0
  refine wp_seq ?_
  refine wp_region_lit ?_
  refine st_y hf rfl rfl rfl (y_assign rfl rfl) ?_
  clear hf a; intro a hf
  refine st_end ?_
  refine x_then_n ?_
  refine wp_seq ?_
  refine wp_seq ?_
  refine wp_region_lit ?_
  refine st_y hf rfl rfl rfl (y_move rfl rfl) ?_
  clear hf a; intro a hf
  obtain ⟨p0_1, c0_1, he, hl0_1⟩ := ro_slice (hm.now h1)
  subst he
  refine st_y hf rfl rfl rfl (y_len_slice st_24.und rfl rfl) ?_
  clear hf a; intro a hf
  refine st_y hf rfl rfl rfl (y_move rfl rfl) ?_
  clear hf a; intro a hf
  obtain ⟨p0_2, c0_2, he, hl0_2⟩ := ro_slice (hm.now h2)
  subst he
  refine st_y hf rfl rfl rfl (y_len_slice st_24.und rfl rfl) ?_
  clear hf a; intro a hf
  refine st_y hf rfl rfl rfl (y_neq rfl rfl rfl) ?_
  clear hf a; intro a hf
  refine st_end ?_
  refine x_then_n ?_
  rcases bcases (decide (((a_.length : Int)) ≠ ((b_.length : Int)))) with h0_1 | h0_1
  ·
    replace hq := (ite_t h0_1).symm.trans hq
    have h0_2 := of_decide_eq_true h0_1
    refine cond_t hf rfl h0_1 ?_
    refine wp_seq ?_
    refine wp_region_lit ?_
    refine st_y hf rfl rfl rfl (y_assign rfl rfl) ?_
    clear hf a; intro a hf
    refine st_end ?_
    refine x_then_n ?_
    refine wp_ret ?_
    refine x_then_ret ?_
    obtain rfl := Option.some.inj hq
    refine ret_tmp hf Tryd.results13 rfl ?_
    exact ⟨rfl, hm.below⟩
  ·
    replace hq := (ite_f h0_1).symm.trans hq
    have h0_3 := of_decide_eq_false h0_1
    refine cond_f hf rfl h0_1 ?_
    refine wp_skip ?_
    refine x_then_n ?_
    refine wp_seq ?_
    refine wp_seq ?_
    refine wp_region_lit ?_
    refine st_y hf rfl rfl rfl (y_assign rfl rfl) ?_
    clear hf a; intro a hf
    refine st_end ?_
    refine x_then_n ?_
    refine wp_block ?_
    obtain ⟨r0_1, hl0_3, hq⟩ := bnd hq
    refine wp_forN _ (fun i1_1 xs1_1 a w => Fr 26 [(0, (.slice p0_1 a_.length c0_1)), (1, (.slice p0_2 b_.length c0_2)), (5, (.int .i64 (i1_1)))] a ∧ Mem w0 (hp w0) w []) (0) ((a_.length : Int)) hl0_3 ?_ ?_ ?_
    ·
      exact ⟨hf.sub ⟨rfl, rfl, rfl, trivial⟩, hm.pick [] (by decide) rfl⟩
    ·
      clear hf hm
      rintro i1_1 xs1_1 a w ⟨hf, hm⟩ hi1_1 hi1_2 q0_1 hb0_1 ho0_1
      refine wp_seq ?_
      refine wp_seq ?_
      refine wp_region_lit ?_
      refine st_y hf rfl rfl rfl (y_move rfl rfl) ?_
      clear hf a; intro a hf
      refine st_y hf rfl rfl rfl (y_move rfl rfl) ?_
      clear hf a; intro a hf
      refine st_y hf rfl rfl rfl (y_len_slice st_24.und rfl rfl) ?_
      clear hf a; intro a hf
      refine st_y hf rfl rfl rfl (y_lss rfl rfl rfl) ?_
      clear hf a; intro a hf
      refine st_end ?_
      refine x_then_n ?_
      refine cond_t hf rfl (decide_eq_true (by omega)) ?_
      refine wp_skip ?_
      refine x_then_n ?_
      refine wp_seq ?_
      refine wp_block ?_
      refine wp_seq ?_
      refine wp_draw [(true, 0), (true, 1), (true, 2), (true, 3), (true, 4), (false, 5), (false, 6), (false, 7), (false, 8)] [0, 1, 2, 3, 4, 5, 6, 7] (fun w => Mem w0 (hp w0) w []) (by kernel_rfl) (by kernel_rfl) (fun _ _ _ h => h.2) ?_
      replace hm := hm.drew
      have hS : Mem w0 (hp w0) _ [] := hm.pick [] (by decide) rfl
      refine sd_y hf rfl rfl rfl rfl hS (fun w hm => y_move rfl rfl) ?_
      clear hf a; intro a hf
      refine sd_y hf rfl rfl rfl rfl hS (fun w hm => y_move rfl rfl) ?_
      clear hf a; intro a hf
      obtain ⟨x1_1, hx1_1, hb0_1⟩ := bnd hb0_1
      obtain ⟨h1_1, hx1_2⟩ := getI_some.1 hx1_1
      obtain ⟨b1_1, o1_1, c1_1, he⟩ := idx_form h1 hx1_2
      simp only [Value.slice.injEq, Option.some.injEq] at he; obtain ⟨rfl, _, rfl⟩ := he
      refine sd_y hf rfl rfl rfl rfl hS (fun w hm => y_indexAddr st_24 rfl rfl rfl h1_1 (idx_lt hx1_2)) ?_
      clear hf a; intro a hf
      refine sd_y hf rfl rfl rfl rfl hS (fun w hm => y_load1 Tryd.isAgg5 rfl rfl ((flat_cells (cs := [(.int .u8 ((x1_1).toNat : Int))]) (hm.now h1) hx1_2 rfl).cell (j := 0) rfl)) ?_
      clear hf a; intro a hf
      refine sd_y hf rfl rfl rfl rfl hS (fun w hm => y_move rfl rfl) ?_
      clear hf a; intro a hf
      refine sd_ef hf rfl rfl rfl rfl (ef_y hf (y_move rfl rfl)) ?_
      clear hf a; rintro _ _ a ⟨rfl, rfl⟩ hf
      refine ⟨fun _ => hS, ?_⟩
      obtain ⟨x1_2, hx1_3, hb0_1⟩ := bnd hb0_1
      obtain ⟨h1_2, hx1_4⟩ := getI_some.1 hx1_3
      obtain ⟨b1_2, o1_2, c1_2, he⟩ := idx_form h2 hx1_4
      simp only [Value.slice.injEq, Option.some.injEq] at he; obtain ⟨rfl, _, rfl⟩ := he
      refine sd_ef hf rfl rfl rfl rfl (ef_y hf (y_indexAddr st_24 rfl rfl rfl h1_2 (idx_lt hx1_4))) ?_
      clear hf a; rintro _ _ a ⟨rfl, rfl⟩ hf
      refine ⟨fun _ => hS, ?_⟩
      refine sd_ef hf rfl rfl rfl rfl (ef_y hf (y_load1 Tryd.isAgg5 rfl rfl ((flat_cells (cs := [(.int .u8 ((x1_2).toNat : Int))]) (hm.now h2) hx1_4 rfl).cell (j := 0) rfl))) ?_
      clear hf a; rintro _ _ a ⟨rfl, rfl⟩ hf
      refine ⟨fun _ => hS, ?_⟩
      refine sd_ef hf rfl rfl rfl rfl (ef_y hf (y_neq8 (b := x1_1) (c := x1_2) rfl rfl rfl)) ?_
      clear hf a; rintro _ _ a ⟨rfl, rfl⟩ hf
      refine ⟨fun h => absurd h (by decide), ?_⟩
      clear hS; refine sd_end ?_
      refine x_then_n ?_
      rcases bcases (decide (x1_1 ≠ x1_2)) with h1_3 | h1_3
      ·
        replace hb0_1 := (ite_t h1_3).symm.trans hb0_1
        have h1_4 := of_decide_eq_true h1_3
        refine cond_t hf rfl h1_3 ?_
        refine wp_seq ?_
        refine wp_region_lit ?_
        refine st_y hf rfl rfl rfl (y_assign rfl rfl) ?_
        clear hf a; intro a hf
        refine st_end ?_
        refine x_then_n ?_
        refine wp_ret ?_
        refine x_blk_ret ?_
        refine x_then_ret ?_
        refine x_then_ret ?_
        refine x_blk_ret ?_
        refine x_then_ret ?_
        obtain rfl := Option.some.inj hb0_1
        obtain rfl := ho0_1 _ rfl
        replace hq := sum_r hq
        obtain rfl := Option.some.inj hq
        refine ret_tmp hf Tryd.results13 rfl ?_
        exact ⟨rfl, hm.below⟩
      ·
        replace hb0_1 := (ite_f h1_3).symm.trans hb0_1
        have h1_5 := of_decide_eq_false h1_3
        refine cond_f hf rfl h1_3 ?_
        refine wp_skip ?_
        refine x_blk_n ?_
        refine x_then_n ?_
        refine wp_region_lit ?_
        refine st_y hf rfl rfl rfl (y_move rfl rfl) ?_
        clear hf a; intro a hf
        refine st_y hf rfl rfl rfl (y_add64 rfl rfl rfl (by omega) (by omega)) ?_
        clear hf a; intro a hf
        refine st_y hf rfl rfl rfl (y_assign rfl rfl) ?_
        clear hf a; intro a hf
        refine st_end ?_
        refine x_then_n ?_
        obtain rfl := Option.some.inj hb0_1
        exact ⟨_, rfl, hf.sub ⟨rfl, rfl, rfl, trivial⟩, hm.pick [] (by decide) rfl⟩
    ·
      clear hf hm
      rintro i0_1 xs0_1 a w ⟨hf, hm⟩ hi0_1 hi0_2 rfl
      replace hq := sum_l hq
      refine wp_seq ?_
      refine wp_seq ?_
      refine wp_region_lit ?_
      refine st_y hf rfl rfl rfl (y_move rfl rfl) ?_
      clear hf a; intro a hf
      refine st_y hf rfl rfl rfl (y_move rfl rfl) ?_
      clear hf a; intro a hf
      refine st_y hf rfl rfl rfl (y_len_slice st_24.und rfl rfl) ?_
      clear hf a; intro a hf
      refine st_y hf rfl rfl rfl (y_lss rfl rfl rfl) ?_
      clear hf a; intro a hf
      refine st_end ?_
      refine x_then_n ?_
      refine cond_f hf rfl (decide_eq_false (by omega)) ?_
      refine wp_exit ?_
      refine x_then_exit ?_
      refine x_then_exit ?_
      refine x_blk_hit ?_
      refine x_then_n ?_
      refine wp_seq ?_
      refine wp_region_lit ?_
      refine st_y hf rfl rfl rfl (y_assign rfl rfl) ?_
      clear hf a; intro a hf
      refine st_end ?_
      refine x_then_n ?_
      refine wp_ret ?_
      obtain rfl := Option.some.inj hq
      refine ret_tmp hf Tryd.results13 rfl ?_
      exact ⟨rfl, hm.below⟩

theorem laws_markByteS_ok (w0 : World) (hz : Heap) (a_ : List UInt8) (v1 : Value) (k_ : Int) (hm0 : Mem w0 hz w0 [ow [v1] a_]) (r : Int × (List UInt8)) (hq : laws_markByteS a_ k_ = some r) :
    Con Tryd.prog 14 [v1, (.int .i64 (k_))] w0 (fun v w' => v = (.int .i64 (r.1)) ∧ Mem w0 hz w' [ow [v1] r.2]) := by
  unfold laws_markByteS at hq
  refine con_body (l := [(0, v1), (1, (.int .i64 (k_)))]) Tryd.func14 rfl Tryd.ntmps14 (Args.get ⟨rfl, rfl, trivial⟩) rfl ?_
  intro a hf
  have hm := hm0
  refine wp_seq ?_
  refine wp_region_lit ?_
  refine st_y hf rfl rfl rfl (y_assign rfl rfl) ?_
  clear hf a; intro a hf
  refine st_end ?_
  refine x_then_n ?_
  refine wp_seq ?_
  refine wp_seq ?_
  refine wp_region_lit ?_
  refine st_y hf rfl rfl rfl (y_assign rfl rfl) ?_
  clear hf a; intro a hf
  refine st_end ?_
  refine x_then_n ?_
  obtain ⟨p0_1, c0_1, he, hl0_1⟩ := ro_slice (hm.ow_rep 0 rfl)
  subst he
  refine wp_block ?_
  obtain ⟨r0_1, hl0_2, hq⟩ := bnd hq
  refine wp_forN _ (fun i1_1 xs1_1 a w => Fr 20 [(0, (.slice p0_1 a_.length c0_1)), (1, (.int .i64 (xs1_1.2))), (5, (.int .i64 (i1_1)))] a ∧ Mem w0 hz w [ow [(.slice p0_1 a_.length c0_1)] xs1_1.1]) (0) ((a_.length : Int)) hl0_2 ?_ ?_ ?_
  ·
    exact ⟨hf.sub ⟨rfl, rfl, rfl, trivial⟩, hm.pick [0] (by decide) rfl⟩
  ·
    clear hf hm
    rintro i1_1 xs1_1 a w ⟨hf, hm⟩ hi1_1 hi1_2 q0_1 hb0_1 ho0_1
    refine wp_seq ?_
    refine wp_seq ?_
    refine wp_region_lit ?_
    refine st_y hf rfl rfl rfl (y_move rfl rfl) ?_
    clear hf a; intro a hf
    refine st_y hf rfl rfl rfl (y_move rfl rfl) ?_
    clear hf a; intro a hf
    have hl1_1 := rep_len (hm.ow_rep 0 rfl)
    refine st_y hf rfl rfl rfl (y_len_slice st_24.und rfl rfl) ?_
    clear hf a; intro a hf
    refine st_y hf rfl rfl rfl (y_lss rfl rfl rfl) ?_
    clear hf a; intro a hf
    refine st_end ?_
    refine x_then_n ?_
    refine cond_t hf rfl (decide_eq_true (by omega)) ?_
    refine wp_skip ?_
    refine x_then_n ?_
    refine wp_seq ?_
    refine wp_block ?_
    refine wp_seq ?_
    refine wp_region_lit ?_
    refine st_y hf rfl rfl rfl (y_move rfl rfl) ?_
    clear hf a; intro a hf
    refine st_y hf rfl rfl rfl (y_move rfl rfl) ?_
    clear hf a; intro a hf
    refine st_y hf rfl rfl rfl (y_move rfl rfl) ?_
    clear hf a; intro a hf
    refine st_y hf rfl rfl rfl (y_conv8 Tryd.underlying3 Tryd.underlying5 rfl rfl) ?_
    clear hf a; intro a hf
    obtain ⟨x1_1, hx1_1, hb0_1⟩ := bnd hb0_1
    obtain ⟨h1_1, hx1_2⟩ := getI_some.1 hx1_1
    obtain ⟨b1_1, o1_1, c1_1, he⟩ := idx_form (hm.ow_rep 0 rfl) hx1_2
    simp only [Value.slice.injEq, Option.some.injEq] at he; obtain ⟨rfl, _, rfl⟩ := he
    refine st_y hf rfl rfl rfl (y_indexAddr st_24 rfl rfl rfl h1_1 (idx_lt2 hx1_2 (rep_slice_len (hm.ow_rep 0 rfl)))) ?_
    clear hf a; intro a hf
    refine st_ef0 hf rfl rfl (e_setElem (x1 := (byteI xs1_1.2)) (j := 0) (vs := [(.int .u8 (((byteI xs1_1.2)).toNat : Int))]) 0 hf hm rfl hx1_2 rfl Tryd.sizeOf5 rfl rfl rfl (one_cons rfl one_nil) rfl rfl) ?_
    clear hf a; rintro _ w1_1 a hm hf
    have hx1_3 := List.getElem?_set_self (a := (byteI xs1_1.2)) (idx_lt hx1_2)
    refine st_end ?_
    refine x_then_n ?_
    refine wp_region_lit ?_
    refine st_y hf rfl rfl rfl (y_move rfl rfl) ?_
    clear hf a; intro a hf
    refine st_y hf rfl rfl rfl (y_addw rfl rfl rfl) ?_
    clear hf a; intro a hf
    refine st_y hf rfl rfl rfl (y_assign rfl rfl) ?_
    clear hf a; intro a hf
    refine st_end ?_
    refine x_blk_n ?_
    refine x_then_n ?_
    refine wp_region_lit ?_
    refine st_y hf rfl rfl rfl (y_move rfl rfl) ?_
    clear hf a; intro a hf
    refine st_y hf rfl rfl rfl (y_add64 rfl rfl rfl (by omega) (by omega)) ?_
    clear hf a; intro a hf
    refine st_y hf rfl rfl rfl (y_assign rfl rfl) ?_
    clear hf a; intro a hf
    refine st_end ?_
    refine x_then_n ?_
    obtain rfl := Option.some.inj hb0_1
    exact ⟨_, rfl, hf.sub ⟨rfl, rfl, rfl, trivial⟩, hm.pick [0] (by decide) rfl⟩
  ·
    clear hf hm
    rintro i0_1 xs0_1 a w ⟨hf, hm⟩ hi0_1 hi0_2 rfl
    replace hq := sum_l hq
    refine wp_seq ?_
    refine wp_seq ?_
    refine wp_region_lit ?_
    refine st_y hf rfl rfl rfl (y_move rfl rfl) ?_
    clear hf a; intro a hf
    refine st_y hf rfl rfl rfl (y_move rfl rfl) ?_
    clear hf a; intro a hf
    have hl0_3 := rep_len (hm.ow_rep 0 rfl)
    refine st_y hf rfl rfl rfl (y_len_slice st_24.und rfl rfl) ?_
    clear hf a; intro a hf
    refine st_y hf rfl rfl rfl (y_lss rfl rfl rfl) ?_
    clear hf a; intro a hf
    refine st_end ?_
    refine x_then_n ?_
    refine cond_f hf rfl (decide_eq_false (by omega)) ?_
    refine wp_exit ?_
    refine x_then_exit ?_
    refine x_then_exit ?_
    refine x_blk_hit ?_
    refine x_then_n ?_
    refine wp_seq ?_
    refine wp_region_lit ?_
    refine st_y hf rfl rfl rfl (y_move rfl rfl) ?_
    clear hf a; intro a hf
    refine st_y hf rfl rfl rfl (y_assign rfl rfl) ?_
    clear hf a; intro a hf
    refine st_end ?_
    refine x_then_n ?_
    refine wp_ret ?_
    obtain rfl := Option.some.inj hq
    refine ret_tmp hf Tryd.results14 rfl ?_
    exact ⟨rfl, hm.pick [0] (by decide) rfl⟩

theorem laws_heldByteS_ok (w0 : World) (a_ : List UInt8) (v1 : Value) (h1 : GT.rep (hp w0) [v1] a_) (k_ : Int) (r : Int) (hq : laws_heldByteS a_ k_ = some r) :
    Con Tryd.prog 15 [v1, (.int .i64 (k_))] w0 (fun v w' => v = (.int .i64 (r)) ∧ Below w0.heap.size w0 w') := by
  unfold laws_heldByteS at hq
  refine con_body (l := [(0, v1), (1, (.int .i64 (k_)))]) Tryd.func15 rfl Tryd.ntmps15 (Args.get ⟨rfl, rfl, trivial⟩) rfl ?_
  intro a hf
  have hm := Mem.start w0
  refine wp_seq ?_
  refine wp_region_lit ?_
  refine st_y hf rfl rfl rfl (y_assign rfl rfl) ?_
  clear hf a; intro a hf
  refine st_end ?_
  refine x_then_n ?_
  refine wp_seq ?_
  refine wp_seq ?_
  refine wp_region_lit ?_
  refine st_y hf rfl rfl rfl (y_assign rfl rfl) ?_
  clear hf a; intro a hf
  refine st_end ?_
  refine x_then_n ?_
  refine wp_block ?_
  obtain ⟨r0_1, hl0_1, hq⟩ := bnd hq
  refine wp_forN _ (fun i1_1 xs1_1 a w => Fr 22 [(0, v1), (1, (.int .i64 (xs1_1))), (5, (.int .i64 (i1_1)))] a ∧ Mem w0 (hp w0) w []) (0) ((a_.length : Int)) hl0_1 ?_ ?_ ?_
  ·
    exact ⟨hf.sub ⟨rfl, rfl, rfl, trivial⟩, hm.pick [] (by decide) rfl⟩
  ·
    clear hf hm
    rintro i1_1 xs1_1 a w ⟨hf, hm⟩ hi1_1 hi1_2 q0_1 hb0_1 ho0_1
    refine wp_seq ?_
    refine wp_seq ?_
    refine wp_region_lit ?_
    refine st_y hf rfl rfl rfl (y_move rfl rfl) ?_
    clear hf a; intro a hf
    refine st_y hf rfl rfl rfl (y_move rfl rfl) ?_
    clear hf a; intro a hf
    obtain ⟨p1_1, c1_1, he, hl1_1⟩ := ro_slice (hm.now h1)
    subst he
    refine st_y hf rfl rfl rfl (y_len_slice st_24.und rfl rfl) ?_
    clear hf a; intro a hf
    refine st_y hf rfl rfl rfl (y_lss rfl rfl rfl) ?_
    clear hf a; intro a hf
    refine st_end ?_
    refine x_then_n ?_
    refine cond_t hf rfl (decide_eq_true (by omega)) ?_
    refine wp_skip ?_
    refine x_then_n ?_
    refine wp_seq ?_
    refine wp_block ?_
    refine wp_seq ?_
    refine wp_seq ?_
    refine wp_region_lit ?_
    refine st_y hf rfl rfl rfl (y_move rfl rfl) ?_
    clear hf a; intro a hf
    refine st_y hf rfl rfl rfl (y_move rfl rfl) ?_
    clear hf a; intro a hf
    obtain ⟨x1_1, hx1_1, hb0_1⟩ := bnd hb0_1
    obtain ⟨h1_1, hx1_2⟩ := getI_some.1 hx1_1
    obtain ⟨b1_1, o1_1, c1_2, he⟩ := idx_form h1 hx1_2
    simp only [Value.slice.injEq, Option.some.injEq] at he; obtain ⟨rfl, _, rfl⟩ := he
    refine st_y hf rfl rfl rfl (y_indexAddr st_24 rfl rfl rfl h1_1 (idx_lt hx1_2)) ?_
    clear hf a; intro a hf
    refine st_y hf rfl rfl rfl (y_load1 Tryd.isAgg5 rfl rfl ((flat_cells (cs := [(.int .u8 ((x1_1).toNat : Int))]) (hm.now h1) hx1_2 rfl).cell (j := 0) rfl)) ?_
    clear hf a; intro a hf
    refine st_y hf rfl rfl rfl (y_move rfl rfl) ?_
    clear hf a; intro a hf
    refine st_y hf rfl rfl rfl (y_conv8 Tryd.underlying3 Tryd.underlying5 rfl rfl) ?_
    clear hf a; intro a hf
    refine st_y hf rfl rfl rfl (y_neq8 (b := x1_1) (c := (byteI xs1_1)) rfl rfl rfl) ?_
    clear hf a; intro a hf
    refine st_end ?_
    refine x_then_n ?_
    rcases bcases (decide (x1_1 ≠ (byteI xs1_1))) with h1_2 | h1_2
    ·
      replace hb0_1 := (ite_t h1_2).symm.trans hb0_1
      have h1_3 := of_decide_eq_true h1_2
      refine cond_t hf rfl h1_2 ?_
      refine wp_seq ?_
      refine wp_region_lit ?_
      refine st_y hf rfl rfl rfl (y_assign rfl rfl) ?_
      clear hf a; intro a hf
      refine st_end ?_
      refine x_then_n ?_
      refine wp_ret ?_
      refine x_then_ret ?_
      refine x_blk_ret ?_
      refine x_then_ret ?_
      refine x_then_ret ?_
      refine x_blk_ret ?_
      refine x_then_ret ?_
      obtain rfl := Option.some.inj hb0_1
      obtain rfl := ho0_1 _ rfl
      replace hq := sum_r hq
      obtain rfl := Option.some.inj hq
      refine ret_tmp hf Tryd.results15 rfl ?_
      exact ⟨rfl, hm.below⟩
    ·
      replace hb0_1 := (ite_f h1_2).symm.trans hb0_1
      have h1_4 := of_decide_eq_false h1_2
      refine cond_f hf rfl h1_2 ?_
      refine wp_skip ?_
      refine x_then_n ?_
      refine wp_region_lit ?_
      refine st_y hf rfl rfl rfl (y_move rfl rfl) ?_
      clear hf a; intro a hf
      refine st_y hf rfl rfl rfl (y_addw rfl rfl rfl) ?_
      clear hf a; intro a hf
      refine st_y hf rfl rfl rfl (y_assign rfl rfl) ?_
      clear hf a; intro a hf
      refine st_end ?_
      refine x_blk_n ?_
      refine x_then_n ?_
      refine wp_region_lit ?_
      refine st_y hf rfl rfl rfl (y_move rfl rfl) ?_
      clear hf a; intro a hf
      refine st_y hf rfl rfl rfl (y_add64 rfl rfl rfl (by omega) (by omega)) ?_
      clear hf a; intro a hf
      refine st_y hf rfl rfl rfl (y_assign rfl rfl) ?_
      clear hf a; intro a hf
      refine st_end ?_
      refine x_then_n ?_
      obtain rfl := Option.some.inj hb0_1
      exact ⟨_, rfl, hf.sub ⟨rfl, rfl, rfl, trivial⟩, hm.pick [] (by decide) rfl⟩
  ·
    clear hf hm
    rintro i0_1 xs0_1 a w ⟨hf, hm⟩ hi0_1 hi0_2 rfl
    replace hq := sum_l hq
    refine wp_seq ?_
    refine wp_seq ?_
    refine wp_region_lit ?_
    refine st_y hf rfl rfl rfl (y_move rfl rfl) ?_
    clear hf a; intro a hf
    refine st_y hf rfl rfl rfl (y_move rfl rfl) ?_
    clear hf a; intro a hf
    obtain ⟨p0_1, c0_1, he, hl0_2⟩ := ro_slice (hm.now h1)
    subst he
    refine st_y hf rfl rfl rfl (y_len_slice st_24.und rfl rfl) ?_
    clear hf a; intro a hf
    refine st_y hf rfl rfl rfl (y_lss rfl rfl rfl) ?_
    clear hf a; intro a hf
    refine st_end ?_
    refine x_then_n ?_
    refine cond_f hf rfl (decide_eq_false (by omega)) ?_
    refine wp_exit ?_
    refine x_then_exit ?_
    refine x_then_exit ?_
    refine x_blk_hit ?_
    refine x_then_n ?_
    refine wp_seq ?_
    refine wp_region_lit ?_
    refine st_y hf rfl rfl rfl (y_move rfl rfl) ?_
    clear hf a; intro a hf
    refine st_y hf rfl rfl rfl (y_assign rfl rfl) ?_
    clear hf a; intro a hf
    refine st_end ?_
    refine x_then_n ?_
    refine wp_ret ?_
    obtain rfl := Option.some.inj hq
    refine ret_tmp hf Tryd.results15 rfl ?_
    exact ⟨rfl, hm.below⟩

theorem laws_FnExactEncodeMins_ok (w0 : World) (aX : Mins) (hG0 : GT.rep (hp w0) [.slice (some ⟨0, 0, none⟩) 23 23] glob_impl_forms) (r : Bool) (hq : laws_FnExactEncodeMins aX = some r) :
    Con Tryd.prog 3 [(.agg #[(.int .i64 (aX.op)), (.int .i64 (aX.a_)), (.int .i64 (aX.b)), (.int .i64 (aX.c)), (.int .i64 (aX.n_))])] w0 (fun v w' => v = (.bool (r)) ∧ Below w0.heap.size w0 w') := by
  unfold laws_FnExactEncodeMins at hq
  refine con_body (l := [(0, (.agg #[(.int .i64 (aX.op)), (.int .i64 (aX.a_)), (.int .i64 (aX.b)), (.int .i64 (aX.c)), (.int .i64 (aX.n_))]))]) Tryd.func3 rfl Tryd.ntmps3 (Args.get ⟨rfl, trivial⟩) rfl ?_
  intro a hf
  have hm := Mem.start w0
  refine wp_seq ?_
  refine wp_region_lit ?_
  refine st_ef hf rfl rfl rfl (e_box hf hm rfl rfl rfl) ?_
  clear hf a; rintro _ w0_1 a ⟨b0_1, rfl, hm⟩ hf
  refine st_y hf rfl rfl rfl (y_assign rfl rfl) ?_
  clear hf a; intro a hf
  refine st_end ?_
  refine x_then_n ?_
  refine wp_seq ?_
  refine wp_region_lit ?_
  refine st_y hf rfl rfl rfl (y_loadN (cs := [(.int .i64 (aX.op)), (.int .i64 (aX.a_)), (.int .i64 (aX.b)), (.int .i64 (aX.c)), (.int .i64 (aX.n_))]) Tryd.isAgg23 Tryd.sizeOf23 rfl rfl (hm.blk_at 0 rfl)) ?_
  clear hf a; intro a hf
  obtain ⟨r0_1, hx0_1, hq⟩ := bnd hq
  refine st_ef hf rfl rfl rfl (e_call hf rfl Tryd.call11 rfl (laws_toMins_ok _ aX _ hx0_1)) ?_
  clear hf a; rintro _ w0_2 a ⟨rfl, hB⟩ hf
  replace hm := hm.below' hB; clear hB
  obtain ⟨r0_2, hx0_2, hq⟩ := bnd hq
  refine st_ef hf rfl rfl rfl (e_call hf rfl Tryd.call10 rfl (spec_EncodeMins_ok _ r0_1 _ hx0_2)) ?_
  clear hf a; rintro _ w0_3 a ⟨v0_1, rfl, hB⟩ hf
  replace hm := hm.give hB; clear hB
  refine st_y hf rfl rfl rfl (y_move rfl rfl) ?_
  clear hf a; intro a hf
  refine st_y hf rfl rfl rfl (y_extract rfl rfl rfl) ?_
  clear hf a; intro a hf
  refine st_y hf rfl rfl rfl (y_extract rfl rfl rfl) ?_
  clear hf a; intro a hf
  refine st_y hf rfl rfl rfl (y_assign rfl rfl) ?_
  clear hf a; intro a hf
  refine st_y hf rfl rfl rfl (y_assign rfl rfl) ?_
  clear hf a; intro a hf
  refine st_end ?_
  refine x_then_n ?_
  refine wp_seq ?_
  refine wp_region_lit ?_
  refine st_y hf rfl rfl rfl (y_loadN (cs := [(.int .i64 (aX.op)), (.int .i64 (aX.a_)), (.int .i64 (aX.b)), (.int .i64 (aX.c)), (.int .i64 (aX.n_))]) Tryd.isAgg23 Tryd.sizeOf23 rfl rfl (hm.blk_at 1 rfl)) ?_
  clear hf a; intro a hf
  obtain ⟨r0_3, hx0_3, hq⟩ := bnd hq
  refine st_ef hf rfl rfl rfl (e_call hf rfl Tryd.call11 rfl (laws_toMins_ok _ aX _ hx0_3)) ?_
  clear hf a; rintro _ w0_4 a ⟨rfl, hB⟩ hf
  replace hm := hm.below' hB; clear hB
  obtain ⟨r0_4, hx0_4, hq⟩ := bnd hq
  refine st_ef hf rfl rfl rfl (e_call hf rfl Tryd.call12 rfl (impl_EncodeMins_ok _ r0_3 (hm.now hG0) _ hx0_4)) ?_
  clear hf a; rintro _ w0_5 a ⟨v0_2, rfl, hB⟩ hf
  replace hm := hm.give hB; clear hB
  refine st_y hf rfl rfl rfl (y_move rfl rfl) ?_
  clear hf a; intro a hf
  refine st_y hf rfl rfl rfl (y_extract rfl rfl rfl) ?_
  clear hf a; intro a hf
  refine st_y hf rfl rfl rfl (y_extract rfl rfl rfl) ?_
  clear hf a; intro a hf
  refine st_y hf rfl rfl rfl (y_assign rfl rfl) ?_
  clear hf a; intro a hf
  refine st_y hf rfl rfl rfl (y_assign rfl rfl) ?_
  clear hf a; intro a hf
  refine st_end ?_
  refine x_then_n ?_
  refine wp_seq ?_
  refine wp_seq ?_
  obtain ⟨s0_1, hq0_1, hq⟩ := bnd hq
  refine code_cut (K := fun a w => Fr 66 [(1, (.pointer (some ⟨b0_1, 0, none⟩))), (3, v0_1), (4, (.bool (r0_2.2))), (5, v0_2), (31, (.bool (s0_1)))] a ∧ Mem w0 (hp w0) w [blk b0_1 [(.int .i64 (aX.op)), (.int .i64 (aX.a_)), (.int .i64 (aX.b)), (.int .i64 (aX.c)), (.int .i64 (aX.n_))] 23, ow [v0_1] r0_2.1, ow [v0_2] r0_4.1]) ?_ ?_
  ·
    refine wp_region_lit ?_
    refine st_y hf rfl rfl rfl (y_move rfl rfl) ?_
    clear hf a; intro a hf
    refine st_y hf rfl rfl rfl (y_move rfl rfl) ?_
    clear hf a; intro a hf
    obtain ⟨r1_1, hx1_1, hq0_1⟩ := bnd hq0_1
    refine st_ef hf rfl rfl rfl (e_call hf rfl Tryd.call13 rfl (laws_eqByteS_ok _ r0_4.1 v0_2 (hm.ow_rep 0 rfl) r0_2.1 v0_1 (hm.ow_rep 1 rfl) _ hx1_1)) ?_
    clear hf a; rintro _ w1_1 a ⟨rfl, hB⟩ hf
    replace hm := hm.below' hB; clear hB
    refine st_y hf rfl rfl rfl (y_not rfl rfl) ?_
    clear hf a; intro a hf
    refine st_y hf rfl rfl rfl (y_move rfl rfl) ?_
    clear hf a; intro a hf
    rcases bcases (!(r1_1)) with h1_1 | h1_1
    ·
      replace hq0_1 := (ite_t h1_1).symm.trans hq0_1
      have h1_2 := bnot_t' h1_1
      refine st_no hf rfl rfl (lk_b rfl h1_1) rfl rfl rfl ?_
      clear hf a; intro a hf
      refine st_no hf rfl rfl (lk_b rfl h1_1) rfl rfl rfl ?_
      clear hf a; intro a hf
      refine st_no hf rfl rfl (lk_b rfl h1_1) rfl rfl rfl ?_
      clear hf a; intro a hf
      refine st_y hf rfl rfl rfl (y_pick_t rfl (ev_b rfl h1_1) rfl) ?_
      clear hf a; intro a hf
      refine st_end ?_
      refine x_then_n ?_
      obtain rfl := Option.some.inj hq0_1
      exact ⟨hf.sub ⟨rfl, rfl, rfl, rfl, rfl, trivial⟩, hm.pick [2, 1, 0] (by decide) rfl⟩
    ·
      replace hq0_1 := (ite_f h1_1).symm.trans hq0_1
      have h1_3 := bnot_f' h1_1
      refine st_yg hf rfl rfl (lk_b rfl h1_1) rfl rfl (y_move rfl rfl) ?_
      clear hf a; intro a hf
      refine st_yg hf rfl rfl (lk_b rfl h1_1) rfl rfl (y_move rfl rfl) ?_
      clear hf a; intro a hf
      refine st_yg hf rfl rfl (lk_b rfl h1_1) rfl rfl (y_neqb Tryd.underlying4 rfl rfl rfl) ?_
      clear hf a; intro a hf
      refine st_y hf rfl rfl rfl (y_pick_f rfl (ev_b rfl h1_1) rfl) ?_
      clear hf a; intro a hf
      refine st_end ?_
      refine x_then_n ?_
      obtain rfl := Option.some.inj hq0_1
      exact ⟨hf.sub ⟨rfl, rfl, rfl, rfl, rfl, trivial⟩, hm.pick [2, 1, 0] (by decide) rfl⟩
  ·
    clear hf hm
    rintro a w ⟨hf, hm⟩
    refine x_then_n ?_
    rcases bcases (s0_1) with h0_1 | h0_1
    ·
      replace hq := (ite_t h0_1).symm.trans hq
      refine cond_t hf rfl h0_1 ?_
      refine wp_seq ?_
      refine wp_region_lit ?_
      refine st_y hf rfl rfl rfl (y_assign rfl rfl) ?_
      clear hf a; intro a hf
      refine st_end ?_
      refine x_then_n ?_
      refine wp_ret ?_
      refine x_then_ret ?_
      obtain rfl := Option.some.inj hq
      refine ret_tmp hf Tryd.results3 rfl ?_
      exact ⟨rfl, hm.below⟩
    ·
      replace hq := (ite_f h0_1).symm.trans hq
      refine cond_f hf rfl h0_1 ?_
      refine wp_skip ?_
      refine x_then_n ?_
      refine wp_seq ?_
      refine wp_region_lit ?_
      refine st_y hf rfl rfl rfl (y_assign rfl rfl) ?_
      clear hf a; intro a hf
      refine st_end ?_
      refine x_then_n ?_
      refine wp_seq ?_
      refine wp_region_lit ?_
      refine st_y hf rfl rfl rfl (y_move rfl rfl) ?_
      clear hf a; intro a hf
      refine st_y hf rfl rfl rfl (y_move rfl rfl) ?_
      clear hf a; intro a hf
      obtain ⟨r0_5, hx0_5, hq⟩ := bnd hq
      obtain ⟨hz0_1, hle, hm1, hsub, hk0_1⟩ := hm.take (L1 := [ow [v0_2] r0_4.1]) (L2 := [blk b0_1 [(.int .i64 (aX.op)), (.int .i64 (aX.a_)), (.int .i64 (aX.b)), (.int .i64 (aX.c)), (.int .i64 (aX.n_))] 23, ow [v0_1] r0_2.1]) [2] [0, 1] (by decide) rfl rfl
      refine st_ef hf rfl rfl rfl (e_call hf rfl Tryd.call14 rfl (laws_markByteS_ok _ hz0_1 r0_4.1 v0_2 1 hm1  _ hx0_5)) ?_
      clear hf a; rintro _ w0_6 a ⟨rfl, hB⟩ hf
      replace hm := hk0_1 _ _ hB; clear hB
      refine st_y hf rfl rfl rfl (y_assign rfl rfl) ?_
      clear hf a; intro a hf
      refine st_end ?_
      refine x_then_n ?_
      refine wp_seq ?_
      refine wp_region_lit ?_
      refine st_y hf rfl rfl rfl (y_assign rfl rfl) ?_
      clear hf a; intro a hf
      refine st_end ?_
      refine x_then_n ?_
      refine wp_seq ?_
      refine wp_region_lit ?_
      refine st_y hf rfl rfl rfl (y_move rfl rfl) ?_
      clear hf a; intro a hf
      refine st_y hf rfl rfl rfl (y_move rfl rfl) ?_
      clear hf a; intro a hf
      obtain ⟨r0_6, hx0_6, hq⟩ := bnd hq
      refine st_ef hf rfl rfl rfl (e_call hf rfl Tryd.call15 rfl (laws_heldByteS_ok _ r0_5.2 v0_2 (hm.ow_rep 0 rfl) 1 _ hx0_6)) ?_
      clear hf a; rintro _ w0_7 a ⟨rfl, hB⟩ hf
      replace hm := hm.below' hB; clear hB
      refine st_y hf rfl rfl rfl (y_assign rfl rfl) ?_
      clear hf a; intro a hf
      refine st_end ?_
      refine x_then_n ?_
      refine wp_seq ?_
      refine wp_seq ?_
      refine wp_region_lit ?_
      refine st_y hf rfl rfl rfl (y_move rfl rfl) ?_
      clear hf a; intro a hf
      refine st_y hf rfl rfl rfl (y_lss rfl rfl rfl) ?_
      clear hf a; intro a hf
      refine st_end ?_
      refine x_then_n ?_
      rcases bcases (decide (r0_6 < 0)) with h0_2 | h0_2
      ·
        replace hq := (ite_t h0_2).symm.trans hq
        have h0_3 := of_decide_eq_true h0_2
        refine cond_t hf rfl h0_2 ?_
        refine wp_seq ?_
        refine wp_region_lit ?_
        refine st_y hf rfl rfl rfl (y_assign rfl rfl) ?_
        clear hf a; intro a hf
        refine st_end ?_
        refine x_then_n ?_
        refine wp_ret ?_
        refine x_then_ret ?_
        obtain rfl := Option.some.inj hq
        refine ret_tmp hf Tryd.results3 rfl ?_
        exact ⟨rfl, hm.below⟩
      ·
        replace hq := (ite_f h0_2).symm.trans hq
        have h0_4 := of_decide_eq_false h0_2
        refine cond_f hf rfl h0_2 ?_
        refine wp_skip ?_
        refine x_then_n ?_
        refine wp_seq ?_
        refine wp_seq ?_
        refine wp_region_lit ?_
        refine st_y hf rfl rfl rfl (y_move rfl rfl) ?_
        clear hf a; intro a hf
        refine st_y hf rfl rfl rfl (y_move rfl rfl) ?_
        clear hf a; intro a hf
        refine st_y hf rfl rfl rfl (y_neq rfl rfl rfl) ?_
        clear hf a; intro a hf
        refine st_end ?_
        refine x_then_n ?_
        rcases bcases (decide (r0_6 ≠ r0_5.1)) with h0_5 | h0_5
        ·
          replace hq := (ite_t h0_5).symm.trans hq
          have h0_6 := of_decide_eq_true h0_5
          refine cond_t hf rfl h0_5 ?_
          refine wp_seq ?_
          refine wp_region_lit ?_
          refine st_y hf rfl rfl rfl (y_assign rfl rfl) ?_
          clear hf a; intro a hf
          refine st_end ?_
          refine x_then_n ?_
          refine wp_ret ?_
          refine x_then_ret ?_
          obtain rfl := Option.some.inj hq
          refine ret_tmp hf Tryd.results3 rfl ?_
          exact ⟨rfl, hm.below⟩
        ·
          replace hq := (ite_f h0_5).symm.trans hq
          have h0_7 := of_decide_eq_false h0_5
          refine cond_f hf rfl h0_5 ?_
          refine wp_skip ?_
          refine x_then_n ?_
          refine wp_seq ?_
          refine wp_region_lit ?_
          refine st_y hf rfl rfl rfl (y_loadN (cs := [(.int .i64 (aX.op)), (.int .i64 (aX.a_)), (.int .i64 (aX.b)), (.int .i64 (aX.c)), (.int .i64 (aX.n_))]) Tryd.isAgg23 Tryd.sizeOf23 rfl rfl (hm.blk_at 1 rfl)) ?_
          clear hf a; intro a hf
          obtain ⟨r0_7, hx0_7, hq⟩ := bnd hq
          refine st_ef hf rfl rfl rfl (e_call hf rfl Tryd.call11 rfl (laws_toMins_ok _ aX _ hx0_7)) ?_
          clear hf a; rintro _ w0_8 a ⟨rfl, hB⟩ hf
          replace hm := hm.below' hB; clear hB
          obtain ⟨r0_8, hx0_8, hq⟩ := bnd hq
          refine st_ef hf rfl rfl rfl (e_call hf rfl Tryd.call12 rfl (impl_EncodeMins_ok _ r0_7 (hm.now hG0) _ hx0_8)) ?_
          clear hf a; rintro _ w0_9 a ⟨v0_3, rfl, hB⟩ hf
          replace hm := hm.give hB; clear hB
          refine st_y hf rfl rfl rfl (y_move rfl rfl) ?_
          clear hf a; intro a hf
          refine st_y hf rfl rfl rfl (y_extract rfl rfl rfl) ?_
          clear hf a; intro a hf
          refine st_y hf rfl rfl rfl (y_extract rfl rfl rfl) ?_
          clear hf a; intro a hf
          refine st_y hf rfl rfl rfl (y_assign rfl rfl) ?_
          clear hf a; intro a hf
          refine st_y hf rfl rfl rfl (y_assign rfl rfl) ?_
          clear hf a; intro a hf
          refine st_end ?_
          refine x_then_n ?_
          refine wp_seq ?_
          refine wp_seq ?_
          obtain ⟨s0_2, hq0_2, hq⟩ := bnd hq
          refine code_cut (K := fun a w => Fr 66 [(5, v0_2), (7, (.int .i64 (r0_5.1))), (57, (.bool (s0_2)))] a ∧ Mem w0 (hp w0) w [ow [v0_2] r0_5.2]) ?_ ?_
          ·
            refine wp_region_lit ?_
            refine st_y hf rfl rfl rfl (y_move rfl rfl) ?_
            clear hf a; intro a hf
            refine st_y hf rfl rfl rfl (y_move rfl rfl) ?_
            clear hf a; intro a hf
            obtain ⟨r1_2, hx1_2, hq0_2⟩ := bnd hq0_2
            refine st_ef hf rfl rfl rfl (e_call hf rfl Tryd.call13 rfl (laws_eqByteS_ok _ r0_8.1 v0_3 (hm.ow_rep 0 rfl) r0_2.1 v0_1 (hm.ow_rep 3 rfl) _ hx1_2)) ?_
            clear hf a; rintro _ w1_2 a ⟨rfl, hB⟩ hf
            replace hm := hm.below' hB; clear hB
            refine st_y hf rfl rfl rfl (y_not rfl rfl) ?_
            clear hf a; intro a hf
            refine st_y hf rfl rfl rfl (y_move rfl rfl) ?_
            clear hf a; intro a hf
            rcases bcases (!(r1_2)) with h1_4 | h1_4
            ·
              replace hq0_2 := (ite_t h1_4).symm.trans hq0_2
              have h1_5 := bnot_t' h1_4
              refine st_no hf rfl rfl (lk_b rfl h1_4) rfl rfl rfl ?_
              clear hf a; intro a hf
              refine st_no hf rfl rfl (lk_b rfl h1_4) rfl rfl rfl ?_
              clear hf a; intro a hf
              refine st_no hf rfl rfl (lk_b rfl h1_4) rfl rfl rfl ?_
              clear hf a; intro a hf
              refine st_y hf rfl rfl rfl (y_pick_t rfl (ev_b rfl h1_4) rfl) ?_
              clear hf a; intro a hf
              refine st_end ?_
              refine x_then_n ?_
              obtain rfl := Option.some.inj hq0_2
              exact ⟨hf.sub ⟨rfl, rfl, rfl, trivial⟩, hm.pick [1] (by decide) rfl⟩
            ·
              replace hq0_2 := (ite_f h1_4).symm.trans hq0_2
              have h1_6 := bnot_f' h1_4
              refine st_yg hf rfl rfl (lk_b rfl h1_4) rfl rfl (y_move rfl rfl) ?_
              clear hf a; intro a hf
              refine st_yg hf rfl rfl (lk_b rfl h1_4) rfl rfl (y_move rfl rfl) ?_
              clear hf a; intro a hf
              refine st_yg hf rfl rfl (lk_b rfl h1_4) rfl rfl (y_neqb Tryd.underlying4 rfl rfl rfl) ?_
              clear hf a; intro a hf
              refine st_y hf rfl rfl rfl (y_pick_f rfl (ev_b rfl h1_4) rfl) ?_
              clear hf a; intro a hf
              refine st_end ?_
              refine x_then_n ?_
              obtain rfl := Option.some.inj hq0_2
              exact ⟨hf.sub ⟨rfl, rfl, rfl, trivial⟩, hm.pick [1] (by decide) rfl⟩
          ·
            clear hf hm
            rintro a w ⟨hf, hm⟩
            refine x_then_n ?_
            rcases bcases (s0_2) with h0_8 | h0_8
            ·
              replace hq := (ite_t h0_8).symm.trans hq
              refine cond_t hf rfl h0_8 ?_
              refine wp_seq ?_
              refine wp_region_lit ?_
              refine st_y hf rfl rfl rfl (y_assign rfl rfl) ?_
              clear hf a; intro a hf
              refine st_end ?_
              refine x_then_n ?_
              refine wp_ret ?_
              refine x_then_ret ?_
              obtain rfl := Option.some.inj hq
              refine ret_tmp hf Tryd.results3 rfl ?_
              exact ⟨rfl, hm.below⟩
            ·
              replace hq := (ite_f h0_8).symm.trans hq
              refine cond_f hf rfl h0_8 ?_
              refine wp_skip ?_
              refine x_then_n ?_
              refine wp_seq ?_
              refine wp_region_lit ?_
              refine st_y hf rfl rfl rfl (y_assign rfl rfl) ?_
              clear hf a; intro a hf
              refine st_end ?_
              refine x_then_n ?_
              refine wp_seq ?_
              refine wp_region_lit ?_
              refine st_y hf rfl rfl rfl (y_move rfl rfl) ?_
              clear hf a; intro a hf
              refine st_y hf rfl rfl rfl (y_move rfl rfl) ?_
              clear hf a; intro a hf
              obtain ⟨r0_9, hx0_9, hq⟩ := bnd hq
              refine st_ef hf rfl rfl rfl (e_call hf rfl Tryd.call15 rfl (laws_heldByteS_ok _ r0_5.2 v0_2 (hm.ow_rep 0 rfl) 1 _ hx0_9)) ?_
              clear hf a; rintro _ w0_10 a ⟨rfl, hB⟩ hf
              replace hm := hm.below' hB; clear hB
              refine st_y hf rfl rfl rfl (y_assign rfl rfl) ?_
              clear hf a; intro a hf
              refine st_end ?_
              refine x_then_n ?_
              refine wp_seq ?_
              refine wp_seq ?_
              refine wp_region_lit ?_
              refine st_y hf rfl rfl rfl (y_move rfl rfl) ?_
              clear hf a; intro a hf
              refine st_y hf rfl rfl rfl (y_lss rfl rfl rfl) ?_
              clear hf a; intro a hf
              refine st_end ?_
              refine x_then_n ?_
              rcases bcases (decide (r0_9 < 0)) with h0_9 | h0_9
              ·
                replace hq := (ite_t h0_9).symm.trans hq
                have h0_10 := of_decide_eq_true h0_9
                refine cond_t hf rfl h0_9 ?_
                refine wp_seq ?_
                refine wp_region_lit ?_
                refine st_y hf rfl rfl rfl (y_assign rfl rfl) ?_
                clear hf a; intro a hf
                refine st_end ?_
                refine x_then_n ?_
                refine wp_ret ?_
                refine x_then_ret ?_
                obtain rfl := Option.some.inj hq
                refine ret_tmp hf Tryd.results3 rfl ?_
                exact ⟨rfl, hm.below⟩
              ·
                replace hq := (ite_f h0_9).symm.trans hq
                have h0_11 := of_decide_eq_false h0_9
                refine cond_f hf rfl h0_9 ?_
                refine wp_skip ?_
                refine x_then_n ?_
                refine wp_seq ?_
                refine wp_seq ?_
                refine wp_region_lit ?_
                refine st_y hf rfl rfl rfl (y_move rfl rfl) ?_
                clear hf a; intro a hf
                refine st_y hf rfl rfl rfl (y_move rfl rfl) ?_
                clear hf a; intro a hf
                refine st_y hf rfl rfl rfl (y_neq rfl rfl rfl) ?_
                clear hf a; intro a hf
                refine st_end ?_
                refine x_then_n ?_
                rcases bcases (decide (r0_9 ≠ r0_5.1)) with h0_12 | h0_12
                ·
                  replace hq := (ite_t h0_12).symm.trans hq
                  have h0_13 := of_decide_eq_true h0_12
                  refine cond_t hf rfl h0_12 ?_
                  refine wp_seq ?_
                  refine wp_region_lit ?_
                  refine st_y hf rfl rfl rfl (y_assign rfl rfl) ?_
                  clear hf a; intro a hf
                  refine st_end ?_
                  refine x_then_n ?_
                  refine wp_ret ?_
                  refine x_then_ret ?_
                  obtain rfl := Option.some.inj hq
                  refine ret_tmp hf Tryd.results3 rfl ?_
                  exact ⟨rfl, hm.below⟩
                ·
                  replace hq := (ite_f h0_12).symm.trans hq
                  have h0_14 := of_decide_eq_false h0_12
                  refine cond_f hf rfl h0_12 ?_
                  refine wp_skip ?_
                  refine x_then_n ?_
                  refine wp_seq ?_
                  refine wp_region_lit ?_
                  refine st_y hf rfl rfl rfl (y_assign rfl rfl) ?_
                  clear hf a; intro a hf
                  refine st_end ?_
                  refine x_then_n ?_
                  refine wp_ret ?_
                  obtain rfl := Option.some.inj hq
                  refine ret_tmp hf Tryd.results3 rfl ?_
                  exact ⟨rfl, hm.below⟩

end Go.Proofs.YtmhjfaoefcdelaaDoor
