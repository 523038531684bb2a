/- A part of the proof of FnExactDecodeFnCardSaid. -/
import Derived.Test.YtmhjfaoefcdelaaDoorDeModels
import Derived.Test.YtmhjfaoefcdelaaDoorChecked
namespace Go.Proofs.YtmhjfaoefcdelaaDoor
open Go Go.Wk Go.RowKit
set_option maxRecDepth 4000
set_option maxHeartbeats 4000000

theorem fo_27_0 : FieldOff Tryd.prog 27 0 0 := by have h := FieldOff.mk (k := 0) Tryd.underlying27 rfl Tryd.sizeOf3; exact h
theorem fo_27_1 : FieldOff Tryd.prog 27 1 1 := by have h := FieldOff.mk (k := 1) Tryd.underlying27 rfl Tryd.sizeOf3; exact h
theorem fo_27_2 : FieldOff Tryd.prog 27 2 2 := by have h := FieldOff.mk (k := 2) Tryd.underlying27 rfl Tryd.sizeOf3; exact h
theorem fo_27_3 : FieldOff Tryd.prog 27 3 3 := by have h := FieldOff.mk (k := 3) Tryd.underlying27 rfl Tryd.sizeOf3; exact h
theorem fo_27_4 : FieldOff Tryd.prog 27 4 4 := by have h := FieldOff.mk (k := 4) Tryd.underlying27 rfl Tryd.sizeOf3; exact h
theorem fo_35_0 : FieldOff Tryd.prog 35 0 0 := by have h := FieldOff.mk (k := 0) Tryd.underlying35 rfl Tryd.sizeOf3; exact h
theorem fo_35_1 : FieldOff Tryd.prog 35 1 1 := by have h := FieldOff.mk (k := 1) Tryd.underlying35 rfl Tryd.sizeOf3; exact h
theorem fo_35_2 : FieldOff Tryd.prog 35 2 2 := by have h := FieldOff.mk (k := 2) Tryd.underlying35 rfl Tryd.sizeOf33; exact h
theorem fo_62_1 : FieldOff Tryd.prog 62 1 1 := by have h := FieldOff.mk (k := 1) Tryd.underlying62 rfl Tryd.sizeOf3; exact h
theorem fo_70_0 : FieldOff Tryd.prog 70 0 0 := by have h := FieldOff.mk (k := 0) Tryd.underlying70 rfl Tryd.sizeOf35; exact h
theorem fo_70_1 : FieldOff Tryd.prog 70 1 3 := by have h := FieldOff.mk (k := 1) Tryd.underlying70 rfl Tryd.sizeOf68; exact h
theorem fo_70_2 : FieldOff Tryd.prog 70 2 4 := by have h := FieldOff.mk (k := 2) Tryd.underlying70 rfl Tryd.sizeOf46; exact h
theorem fo_70_3 : FieldOff Tryd.prog 70 3 5 := by have h := FieldOff.mk (k := 3) Tryd.underlying70 rfl Tryd.sizeOf46; exact h
theorem fo_70_4 : FieldOff Tryd.prog 70 4 6 := by have h := FieldOff.mk (k := 4) Tryd.underlying70 rfl Tryd.sizeOf3; exact h
theorem fo_99_0 : FieldOff Tryd.prog 99 0 0 := by have h := FieldOff.mk (k := 0) Tryd.underlying99 rfl Tryd.sizeOf97; exact h
theorem st_24 : SliceTy Tryd.prog 24 5 1 := ⟨Tryd.underlying24, Tryd.sizeOf5⟩
theorem st_33 : SliceTy Tryd.prog 33 27 5 := ⟨Tryd.underlying33, Tryd.sizeOf27⟩
theorem st_46 : SliceTy Tryd.prog 46 3 1 := ⟨Tryd.underlying46, Tryd.sizeOf3⟩
theorem st_68 : SliceTy Tryd.prog 68 4 1 := ⟨Tryd.underlying68, Tryd.sizeOf4⟩
theorem st_89 : SliceTy Tryd.prog 89 9 1 := ⟨Tryd.underlying89, Tryd.sizeOf9⟩
theorem st_97 : SliceTy Tryd.prog 97 35 3 := ⟨Tryd.underlying97, Tryd.sizeOf35⟩
theorem et_24 : ElemTy Tryd.prog 24 5 1 (.int .u8 (((0 : UInt8)).toNat : Int)) := ⟨Tryd.underlying24, ⟨_, (by kernel_rfl : Tryd.prog.info? 5 = some Tryd.t5), rfl, by decide, rfl⟩, rfl, by decide⟩
theorem et_33 : ElemTy Tryd.prog 33 27 5 (.agg #[(.int .i64 (0)), (.int .i64 (0)), (.int .i64 (0)), (.int .i64 (0)), (.int .i64 (0))]) := ⟨Tryd.underlying33, ⟨_, (by kernel_rfl : Tryd.prog.info? 27 = some Tryd.t27), rfl, by decide, rfl⟩, rfl, by decide⟩
theorem et_46 : ElemTy Tryd.prog 46 3 1 (.int .i64 (0)) := ⟨Tryd.underlying46, ⟨_, (by kernel_rfl : Tryd.prog.info? 3 = some Tryd.t3), rfl, by decide, rfl⟩, rfl, by decide⟩
theorem et_68 : ElemTy Tryd.prog 68 4 1 (.bool (false)) := ⟨Tryd.underlying68, ⟨_, (by kernel_rfl : Tryd.prog.info? 4 = some Tryd.t4), rfl, by decide, rfl⟩, rfl, by decide⟩
theorem et_89 : ElemTy Tryd.prog 89 9 1 (.string ⟨((mkS [])).b.toArray⟩) := ⟨Tryd.underlying89, ⟨_, (by kernel_rfl : Tryd.prog.info? 9 = some Tryd.t9), rfl, by decide, rfl⟩, rfl, by decide⟩
theorem et_97 : ElemTy Tryd.prog 97 35 3 (.agg #[(.int .i64 (0)), (.int .i64 (0)), (.slice none 0 0)]) := ⟨Tryd.underlying97, ⟨_, (by kernel_rfl : Tryd.prog.info? 35 = some Tryd.t35), rfl, by decide, rfl⟩, rfl, by decide⟩

theorem laws_toByteS_ok (w0 : World) (a_ : List UInt8) (v1 : Value) (h1 : GT.rep (hp w0) [v1] a_) (r : (List UInt8)) (hq : laws_toByteS a_ = some r) :
    Con Tryd.prog 33 [v1] w0 (fun v w' => ∃ (x1 : Value), v = x1 ∧ Mem w0 (hp w0) w' [ow [x1] r]) := by
  unfold laws_toByteS at hq
  refine con_body (l := [(0, v1)]) Tryd.func33 rfl Tryd.ntmps33 (Args.get ⟨rfl, trivial⟩) rfl ?_
  intro a hf
  have hm := Mem.start w0
  refine wp_seq ?_
  refine wp_region_lit ?_
  refine st_y hf rfl rfl rfl (y_assign rfl rfl) ?_
  clear hf a; intro a hf
  refine st_end ?_
  refine x_then_n ?_
  refine wp_seq ?_
  refine wp_region_lit ?_
  refine st_y hf rfl rfl rfl (y_move rfl rfl) ?_
  clear hf a; intro a hf
  obtain ⟨p0_1, c0_1, he, hl0_1⟩ := ro_slice h1
  subst he
  refine st_y hf rfl rfl rfl (y_len_slice st_24.und rfl rfl) ?_
  clear hf a; intro a hf
  obtain ⟨ys0_1, hx0_1, hq⟩ := bnd hq
  obtain ⟨⟨h0_11, h0_12⟩, h0_1e⟩ := makeM_some.1 hx0_1
  refine st_ef hf rfl rfl rfl (e_make (x0 := (0 : UInt8)) et_24 (fun _ => (Flat.own_iff.2 rfl)) hf hm rfl rfl rfl h0_11 (Int.le_refl _) h0_12) ?_
  clear hf a; rintro v0_1 w0_1 a hm hf
  rw [h0_1e] at hm
  have h0_1l : (ys0_1.length : Int) = (a_.length : Int) := by rw [← h0_1e]; simp only [List.length_replicate]; omega
  refine st_y hf rfl rfl rfl (y_assign rfl rfl) ?_
  clear hf a; intro a hf
  refine st_end ?_
  refine x_then_n ?_
  refine wp_seq ?_
  refine wp_seq ?_
  refine wp_region_lit ?_
  refine st_y hf rfl rfl rfl (y_assign rfl rfl) ?_
  clear hf a; intro a hf
  refine st_end ?_
  refine x_then_n ?_
  obtain ⟨p0_2, c0_2, he, hl0_2⟩ := ro_slice (hm.ow_rep 0 rfl)
  subst he
  refine wp_block ?_
  obtain ⟨r0_1, hl0_3, hq⟩ := bnd hq
  refine wp_forN _ (fun i1_1 xs1_1 a w => Fr 22 [(0, (.slice p0_1 a_.length c0_1)), (3, (.slice p0_2 ys0_1.length c0_2)), (4, (.int .i64 (i1_1)))] a ∧ Mem w0 (hp w0) w [ow [(.slice p0_2 ys0_1.length c0_2)] xs1_1]) (0) ((a_.length : Int)) hl0_3 ?_ ?_ ?_
  ·
    exact ⟨hf.sub ⟨rfl, rfl, rfl, trivial⟩, hm.pick [0] (by decide) rfl⟩
  ·
    clear hf hm
    rintro i1_1 xs1_1 a w ⟨hf, hm⟩ hi1_1 hi1_2 q0_1 hb0_1 ho0_1
    refine wp_seq ?_
    refine wp_seq ?_
    refine wp_region_lit ?_
    refine st_y hf rfl rfl rfl (y_move rfl rfl) ?_
    clear hf a; intro a hf
    refine st_y hf rfl rfl rfl (y_move rfl rfl) ?_
    clear hf a; intro a hf
    refine st_y hf rfl rfl rfl (y_len_slice st_24.und rfl rfl) ?_
    clear hf a; intro a hf
    refine st_y hf rfl rfl rfl (y_lss rfl rfl rfl) ?_
    clear hf a; intro a hf
    refine st_end ?_
    refine x_then_n ?_
    refine cond_t hf rfl (decide_eq_true (by omega)) ?_
    refine wp_skip ?_
    refine x_then_n ?_
    refine wp_seq ?_
    refine wp_block ?_
    refine wp_region_lit ?_
    refine st_y hf rfl rfl rfl (y_move rfl rfl) ?_
    clear hf a; intro a hf
    refine st_y hf rfl rfl rfl (y_move rfl rfl) ?_
    clear hf a; intro a hf
    refine st_y hf rfl rfl rfl (y_move rfl rfl) ?_
    clear hf a; intro a hf
    refine st_y hf rfl rfl rfl (y_move rfl rfl) ?_
    clear hf a; intro a hf
    obtain ⟨x1_1, hx1_1, hb0_1⟩ := bnd hb0_1
    obtain ⟨h1_1, hx1_2⟩ := getI_some.1 hx1_1
    obtain ⟨b1_1, o1_1, c1_1, he⟩ := idx_form h1 hx1_2
    simp only [Value.slice.injEq, Option.some.injEq] at he; obtain ⟨rfl, _, rfl⟩ := he
    refine st_y hf rfl rfl rfl (y_indexAddr st_24 rfl rfl rfl h1_1 (idx_lt hx1_2)) ?_
    clear hf a; intro a hf
    refine st_y hf rfl rfl rfl (y_load1 Tryd.isAgg5 rfl rfl ((flat_cells (cs := [(.int .u8 ((x1_1).toNat : Int))]) (hm.now h1) hx1_2 rfl).cell (j := 0) rfl)) ?_
    clear hf a; intro a hf
    obtain ⟨x1_2, hx1_3, hb0_1⟩ := bnd hb0_1
    obtain ⟨h1_2, hx1_4⟩ := getI_some.1 hx1_3
    obtain ⟨b1_2, o1_2, c1_2, he⟩ := idx_form (hm.ow_rep 0 rfl) hx1_4
    simp only [Value.slice.injEq, Option.some.injEq] at he; obtain ⟨rfl, _, rfl⟩ := he
    have hL1_1 := rep_slice_len (hm.ow_rep 0 rfl)
    refine st_y hf rfl rfl rfl (y_indexAddr st_24 rfl rfl rfl h1_2 (idx_lt2 hx1_4 hL1_1)) ?_
    clear hf a; intro a hf
    refine st_ef0 hf rfl rfl (e_setElem (x1 := x1_1) (j := 0) (vs := [(.int .u8 ((x1_1).toNat : Int))]) 0 hf hm rfl hx1_4 rfl Tryd.sizeOf5 rfl rfl rfl (one_cons rfl one_nil) rfl rfl) ?_
    clear hf a; rintro _ w1_1 a hm hf
    have hx1_5 := List.getElem?_set_self (a := x1_1) (idx_lt hx1_4)
    refine st_end ?_
    refine x_blk_n ?_
    refine x_then_n ?_
    refine wp_region_lit ?_
    refine st_y hf rfl rfl rfl (y_move rfl rfl) ?_
    clear hf a; intro a hf
    refine st_y hf rfl rfl rfl (y_add64 rfl rfl rfl (by omega) (by omega)) ?_
    clear hf a; intro a hf
    refine st_y hf rfl rfl rfl (y_assign rfl rfl) ?_
    clear hf a; intro a hf
    refine st_end ?_
    refine x_then_n ?_
    obtain rfl := Option.some.inj hb0_1
    exact ⟨_, rfl, hf.sub ⟨rfl, rfl, rfl, trivial⟩, hm.pick [0] (by decide) rfl⟩
  ·
    clear hf hm
    rintro i0_1 xs0_1 a w ⟨hf, hm⟩ hi0_1 hi0_2 rfl
    replace hq := sum_l hq
    refine wp_seq ?_
    refine wp_seq ?_
    refine wp_region_lit ?_
    refine st_y hf rfl rfl rfl (y_move rfl rfl) ?_
    clear hf a; intro a hf
    refine st_y hf rfl rfl rfl (y_move rfl rfl) ?_
    clear hf a; intro a hf
    refine st_y hf rfl rfl rfl (y_len_slice st_24.und rfl rfl) ?_
    clear hf a; intro a hf
    refine st_y hf rfl rfl rfl (y_lss rfl rfl rfl) ?_
    clear hf a; intro a hf
    refine st_end ?_
    refine x_then_n ?_
    refine cond_f hf rfl (decide_eq_false (by omega)) ?_
    refine wp_exit ?_
    refine x_then_exit ?_
    refine x_then_exit ?_
    refine x_blk_hit ?_
    refine x_then_n ?_
    refine wp_seq ?_
    refine wp_region_lit ?_
    refine st_y hf rfl rfl rfl (y_move rfl rfl) ?_
    clear hf a; intro a hf
    refine st_y hf rfl rfl rfl (y_assign rfl rfl) ?_
    clear hf a; intro a hf
    refine st_end ?_
    refine x_then_n ?_
    refine wp_ret ?_
    obtain rfl := Option.some.inj hq
    refine ret_tmp hf Tryd.results33 rfl ?_
    exact ⟨(.slice p0_2 ys0_1.length c0_2), rfl, hm.pick [0] (by decide) rfl⟩

theorem spec_l1In_ok (w0 : World) (n_ : Int) (low : Int) (high : Int) (r : Bool) (hq : spec_l1In n_ low high = some r) :
    Con Tryd.prog 39 [(.int .i64 (n_)), (.int .i64 (low)), (.int .i64 (high))] w0 (fun v w' => v = (.bool (r)) ∧ Below w0.heap.size w0 w') := by
  unfold spec_l1In at hq
  refine con_body (l := [(0, (.int .i64 (n_))), (1, (.int .i64 (low))), (2, (.int .i64 (high)))]) Tryd.func39 rfl Tryd.ntmps39 (Args.get ⟨rfl, rfl, rfl, trivial⟩) rfl ?_
  intro a hf
  have hm := Mem.start w0
  refine wp_seq ?_
  refine wp_region_lit ?_
  refine st_y hf rfl rfl rfl (y_assign rfl rfl) ?_
  clear hf a; intro a hf
  refine st_end ?_
  refine x_then_n ?_
  refine wp_seq ?_
  obtain ⟨s0_1, hq0_1, hq⟩ := bnd hq
  refine code_cut (K := fun a w => Fr 15 [(6, (.bool (s0_1)))] a ∧ Mem w0 (hp w0) w []) ?_ ?_
  ·
    refine wp_region_lit ?_
    refine st_y hf rfl rfl rfl (y_move rfl rfl) ?_
    clear hf a; intro a hf
    refine st_y hf rfl rfl rfl (y_move rfl rfl) ?_
    clear hf a; intro a hf
    refine st_y hf rfl rfl rfl (y_geq rfl rfl rfl) ?_
    clear hf a; intro a hf
    refine st_y hf rfl rfl rfl (y_move rfl rfl) ?_
    clear hf a; intro a hf
    rcases bcases (decide (low ≤ n_)) with h1_1 | h1_1
    ·
      replace hq0_1 := (ite_t h1_1).symm.trans hq0_1
      have h1_2 := of_decide_eq_true h1_1
      refine st_yg hf rfl rfl (lk_b rfl h1_1) rfl rfl (y_move rfl rfl) ?_
      clear hf a; intro a hf
      refine st_yg hf rfl rfl (lk_b rfl h1_1) rfl rfl (y_move rfl rfl) ?_
      clear hf a; intro a hf
      refine st_yg hf rfl rfl (lk_b rfl h1_1) rfl rfl (y_leq rfl rfl rfl) ?_
      clear hf a; intro a hf
      refine st_y hf rfl rfl rfl (y_pick_t rfl (ev_b rfl h1_1) rfl) ?_
      clear hf a; intro a hf
      refine st_y hf rfl rfl rfl (y_assign rfl rfl) ?_
      clear hf a; intro a hf
      refine st_end ?_
      refine x_then_n ?_
      obtain rfl := Option.some.inj hq0_1
      exact ⟨hf.sub ⟨rfl, trivial⟩, hm.pick [] (by decide) rfl⟩
    ·
      replace hq0_1 := (ite_f h1_1).symm.trans hq0_1
      have h1_3 := of_decide_eq_false h1_1
      refine st_no hf rfl rfl (lk_b rfl h1_1) rfl rfl rfl ?_
      clear hf a; intro a hf
      refine st_no hf rfl rfl (lk_b rfl h1_1) rfl rfl rfl ?_
      clear hf a; intro a hf
      refine st_no hf rfl rfl (lk_b rfl h1_1) rfl rfl rfl ?_
      clear hf a; intro a hf
      refine st_y hf rfl rfl rfl (y_pick_f rfl (ev_b rfl h1_1) rfl) ?_
      clear hf a; intro a hf
      refine st_y hf rfl rfl rfl (y_assign rfl rfl) ?_
      clear hf a; intro a hf
      refine st_end ?_
      refine x_then_n ?_
      obtain rfl := Option.some.inj hq0_1
      exact ⟨hf.sub ⟨rfl, trivial⟩, hm.pick [] (by decide) rfl⟩
  ·
    clear hf hm
    rintro a w ⟨hf, hm⟩
    refine x_then_n ?_
    refine wp_ret ?_
    obtain rfl := Option.some.inj hq
    refine ret_tmp hf Tryd.results39 rfl ?_
    exact ⟨rfl, hm.below⟩

theorem spec_l22Word_ok (w0 : World) (op : Int) (r : Str × Str) (hq : spec_l22Word op = some r) :
    Con Tryd.prog 36 [(.int .i64 (op))] w0 (fun v w' => v = (.tuple #[(.string ⟨(r.1).b.toArray⟩), (.string ⟨(r.2).b.toArray⟩)]) ∧ Below w0.heap.size w0 w') := by
  unfold spec_l22Word at hq
  refine con_body (l := [(0, (.int .i64 (op)))]) Tryd.func36 rfl Tryd.ntmps36 (Args.get ⟨rfl, trivial⟩) rfl ?_
  intro a hf
  have hm := Mem.start w0
  refine wp_seq ?_
  refine wp_region_lit ?_
  refine st_y hf rfl rfl rfl (y_assign rfl rfl) ?_
  clear hf a; intro a hf
  refine st_y hf rfl rfl rfl (y_assign rfl rfl) ?_
  clear hf a; intro a hf
  refine st_end ?_
  refine x_then_n ?_
  refine wp_seq ?_
  refine wp_region_lit ?_
  refine st_ef hf rfl rfl rfl (e_build (vs := #[(0, (.string ⟨((mkS [])).b.toArray⟩)), (1, (.string ⟨((mkS [115, 101, 116])).b.toArray⟩)), (2, (.string ⟨((mkS [109, 111, 118, 101])).b.toArray⟩)), (3, (.string ⟨((mkS [97, 100, 100])).b.toArray⟩)), (4, (.string ⟨((mkS [115, 117, 98])).b.toArray⟩)), (5, (.string ⟨((mkS [109, 117, 108])).b.toArray⟩)), (6, (.string ⟨((mkS [100, 105, 118])).b.toArray⟩)), (7, (.string ⟨((mkS [114, 101, 109])).b.toArray⟩)), (8, (.string ⟨((mkS [108, 101, 115, 115])).b.toArray⟩)), (9, (.string ⟨((mkS [115, 97, 109, 101])).b.toArray⟩)), (10, (.string ⟨((mkS [110, 111, 116])).b.toArray⟩)), (11, (.string ⟨((mkS [108, 111, 97, 100])).b.toArray⟩)), (12, (.string ⟨((mkS [115, 116, 111, 114, 101])).b.toArray⟩)), (13, (.string ⟨((mkS [115, 97, 121])).b.toArray⟩)), (14, (.string ⟨((mkS [99, 97, 108, 108])).b.toArray⟩)), (15, (.string ⟨((mkS [107, 101, 101, 112])).b.toArray⟩)), (16, (.string ⟨((mkS [116, 97, 107, 101])).b.toArray⟩)), (17, (.string ⟨((mkS [103, 105, 118, 101])).b.toArray⟩)), (18, (.string ⟨((mkS [102, 101, 116, 99, 104])).b.toArray⟩)), (19, (.string ⟨((mkS [114, 101, 115, 117, 108, 116])).b.toArray⟩)), (20, (.string ⟨((mkS [106, 117, 109, 112])).b.toArray⟩)), (21, (.string ⟨((mkS [98, 114, 97, 110, 99, 104])).b.toArray⟩)), (22, (.string ⟨((mkS [98, 97, 99, 107])).b.toArray⟩))]) (cs := [(.string ⟨((mkS [])).b.toArray⟩), (.string ⟨((mkS [115, 101, 116])).b.toArray⟩), (.string ⟨((mkS [109, 111, 118, 101])).b.toArray⟩), (.string ⟨((mkS [97, 100, 100])).b.toArray⟩), (.string ⟨((mkS [115, 117, 98])).b.toArray⟩), (.string ⟨((mkS [109, 117, 108])).b.toArray⟩), (.string ⟨((mkS [100, 105, 118])).b.toArray⟩), (.string ⟨((mkS [114, 101, 109])).b.toArray⟩), (.string ⟨((mkS [108, 101, 115, 115])).b.toArray⟩), (.string ⟨((mkS [115, 97, 109, 101])).b.toArray⟩), (.string ⟨((mkS [110, 111, 116])).b.toArray⟩), (.string ⟨((mkS [108, 111, 97, 100])).b.toArray⟩), (.string ⟨((mkS [115, 116, 111, 114, 101])).b.toArray⟩), (.string ⟨((mkS [115, 97, 121])).b.toArray⟩), (.string ⟨((mkS [99, 97, 108, 108])).b.toArray⟩), (.string ⟨((mkS [107, 101, 101, 112])).b.toArray⟩), (.string ⟨((mkS [116, 97, 107, 101])).b.toArray⟩), (.string ⟨((mkS [103, 105, 118, 101])).b.toArray⟩), (.string ⟨((mkS [102, 101, 116, 99, 104])).b.toArray⟩), (.string ⟨((mkS [114, 101, 115, 117, 108, 116])).b.toArray⟩), (.string ⟨((mkS [106, 117, 109, 112])).b.toArray⟩), (.string ⟨((mkS [98, 114, 97, 110, 99, 104])).b.toArray⟩), (.string ⟨((mkS [98, 97, 99, 107])).b.toArray⟩)]) et_89 hf hm rfl rfl (by kernel_rfl) rfl rfl) ?_
  clear hf a; rintro _ w0_1 a ⟨b0_1, rfl, hm⟩ hf
  replace hm := hm.lit (xs := ([(mkS []), (mkS [115, 101, 116]), (mkS [109, 111, 118, 101]), (mkS [97, 100, 100]), (mkS [115, 117, 98]), (mkS [109, 117, 108]), (mkS [100, 105, 118]), (mkS [114, 101, 109]), (mkS [108, 101, 115, 115]), (mkS [115, 97, 109, 101]), (mkS [110, 111, 116]), (mkS [108, 111, 97, 100]), (mkS [115, 116, 111, 114, 101]), (mkS [115, 97, 121]), (mkS [99, 97, 108, 108]), (mkS [107, 101, 101, 112]), (mkS [116, 97, 107, 101]), (mkS [103, 105, 118, 101]), (mkS [102, 101, 116, 99, 104]), (mkS [114, 101, 115, 117, 108, 116]), (mkS [106, 117, 109, 112]), (mkS [98, 114, 97, 110, 99, 104]), (mkS [98, 97, 99, 107])] : List Str)) 0 rfl rfl rfl rfl
  refine st_y hf rfl rfl rfl (y_assign rfl rfl) ?_
  clear hf a; intro a hf
  refine st_end ?_
  refine x_then_n ?_
  refine wp_seq ?_
  refine wp_region_lit ?_
  refine st_ef hf rfl rfl rfl (e_build (vs := #[(0, (.string ⟨((mkS [])).b.toArray⟩)), (1, (.string ⟨((mkS [65, 78])).b.toArray⟩)), (2, (.string ⟨((mkS [65, 66])).b.toArray⟩)), (3, (.string ⟨((mkS [65, 66, 67])).b.toArray⟩)), (4, (.string ⟨((mkS [65, 66, 67])).b.toArray⟩)), (5, (.string ⟨((mkS [65, 66, 67])).b.toArray⟩)), (6, (.string ⟨((mkS [65, 66, 67])).b.toArray⟩)), (7, (.string ⟨((mkS [65, 66, 67])).b.toArray⟩)), (8, (.string ⟨((mkS [65, 66, 67])).b.toArray⟩)), (9, (.string ⟨((mkS [65, 66, 67])).b.toArray⟩)), (10, (.string ⟨((mkS [65, 66])).b.toArray⟩)), (11, (.string ⟨((mkS [65, 66])).b.toArray⟩)), (12, (.string ⟨((mkS [65, 66])).b.toArray⟩)), (13, (.string ⟨((mkS [65])).b.toArray⟩)), (14, (.string ⟨((mkS [78])).b.toArray⟩)), (15, (.string ⟨((mkS [65, 78])).b.toArray⟩)), (16, (.string ⟨((mkS [65, 78])).b.toArray⟩)), (17, (.string ⟨((mkS [65, 78])).b.toArray⟩)), (18, (.string ⟨((mkS [65, 78])).b.toArray⟩)), (19, (.string ⟨((mkS [65])).b.toArray⟩)), (20, (.string ⟨((mkS [78])).b.toArray⟩)), (21, (.string ⟨((mkS [65, 78])).b.toArray⟩)), (22, (.string ⟨((mkS [65])).b.toArray⟩))]) (cs := [(.string ⟨((mkS [])).b.toArray⟩), (.string ⟨((mkS [65, 78])).b.toArray⟩), (.string ⟨((mkS [65, 66])).b.toArray⟩), (.string ⟨((mkS [65, 66, 67])).b.toArray⟩), (.string ⟨((mkS [65, 66, 67])).b.toArray⟩), (.string ⟨((mkS [65, 66, 67])).b.toArray⟩), (.string ⟨((mkS [65, 66, 67])).b.toArray⟩), (.string ⟨((mkS [65, 66, 67])).b.toArray⟩), (.string ⟨((mkS [65, 66, 67])).b.toArray⟩), (.string ⟨((mkS [65, 66, 67])).b.toArray⟩), (.string ⟨((mkS [65, 66])).b.toArray⟩), (.string ⟨((mkS [65, 66])).b.toArray⟩), (.string ⟨((mkS [65, 66])).b.toArray⟩), (.string ⟨((mkS [65])).b.toArray⟩), (.string ⟨((mkS [78])).b.toArray⟩), (.string ⟨((mkS [65, 78])).b.toArray⟩), (.string ⟨((mkS [65, 78])).b.toArray⟩), (.string ⟨((mkS [65, 78])).b.toArray⟩), (.string ⟨((mkS [65, 78])).b.toArray⟩), (.string ⟨((mkS [65])).b.toArray⟩), (.string ⟨((mkS [78])).b.toArray⟩), (.string ⟨((mkS [65, 78])).b.toArray⟩), (.string ⟨((mkS [65])).b.toArray⟩)]) et_89 hf hm rfl rfl (by kernel_rfl) rfl rfl) ?_
  clear hf a; rintro _ w0_2 a ⟨b0_2, rfl, hm⟩ hf
  replace hm := hm.lit (xs := ([(mkS []), (mkS [65, 78]), (mkS [65, 66]), (mkS [65, 66, 67]), (mkS [65, 66, 67]), (mkS [65, 66, 67]), (mkS [65, 66, 67]), (mkS [65, 66, 67]), (mkS [65, 66, 67]), (mkS [65, 66, 67]), (mkS [65, 66]), (mkS [65, 66]), (mkS [65, 66]), (mkS [65]), (mkS [78]), (mkS [65, 78]), (mkS [65, 78]), (mkS [65, 78]), (mkS [65, 78]), (mkS [65]), (mkS [78]), (mkS [65, 78]), (mkS [65])] : List Str)) 0 rfl rfl rfl rfl
  refine st_y hf rfl rfl rfl (y_assign rfl rfl) ?_
  clear hf a; intro a hf
  refine st_end ?_
  refine x_then_n ?_
  refine wp_seq ?_
  refine wp_seq ?_
  refine wp_region_lit ?_
  refine st_y hf rfl rfl rfl (y_move rfl rfl) ?_
  clear hf a; intro a hf
  obtain ⟨r0_1, hx0_1, hq⟩ := bnd hq
  refine st_ef hf rfl rfl rfl (e_call hf rfl Tryd.call39 rfl (spec_l1In_ok _ op 1 22 _ hx0_1)) ?_
  clear hf a; rintro v0_1 w0_3 a ho0_1 hf
  obtain ⟨rfl, hB⟩ := ho0_1
  replace hm := hm.below' hB; clear hB
  refine st_y hf rfl rfl rfl (y_not rfl rfl) ?_
  clear hf a; intro a hf
  refine st_end ?_
  refine x_then_n ?_
  rcases bcases (!(r0_1)) with h0_1 | h0_1
  ·
    replace hq := (ite_t h0_1).symm.trans hq
    have h0_2 := bnot_t' h0_1
    refine cond_t hf rfl h0_1 ?_
    refine wp_seq ?_
    refine wp_region_lit ?_
    refine st_y hf rfl rfl rfl (y_assign rfl rfl) ?_
    clear hf a; intro a hf
    refine st_y hf rfl rfl rfl (y_assign rfl rfl) ?_
    clear hf a; intro a hf
    refine st_end ?_
    refine x_then_n ?_
    refine wp_ret ?_
    refine x_then_ret ?_
    obtain rfl := Option.some.inj hq
    refine ret_tmp2 hf Tryd.results36 rfl rfl ?_
    exact ⟨rfl, hm.below⟩
  ·
    replace hq := (ite_f h0_1).symm.trans hq
    have h0_3 := bnot_f' h0_1
    refine cond_f hf rfl h0_1 ?_
    refine wp_skip ?_
    refine x_then_n ?_
    refine wp_seq ?_
    refine wp_tree (.p 0 (.p 1 (.p 2 (.p 4 (.p 5 (.p 6 (.q 3 (.p 8 (.e 7 (.p 9 .fin) .nil))))))))) [7] [0, 1, 2, 4, 5, 6, 8, 9] (fun w => Mem w0 (hp w0) w [ow [(.slice (some ⟨b0_2, 0, none⟩) 23 23)] ([(mkS []), (mkS [65, 78]), (mkS [65, 66]), (mkS [65, 66, 67]), (mkS [65, 66, 67]), (mkS [65, 66, 67]), (mkS [65, 66, 67]), (mkS [65, 66, 67]), (mkS [65, 66, 67]), (mkS [65, 66, 67]), (mkS [65, 66]), (mkS [65, 66]), (mkS [65, 66]), (mkS [65]), (mkS [78]), (mkS [65, 78]), (mkS [65, 78]), (mkS [65, 78]), (mkS [65, 78]), (mkS [65]), (mkS [78]), (mkS [65, 78]), (mkS [65])] : List Str), ow [(.slice (some ⟨b0_1, 0, none⟩) 23 23)] ([(mkS []), (mkS [115, 101, 116]), (mkS [109, 111, 118, 101]), (mkS [97, 100, 100]), (mkS [115, 117, 98]), (mkS [109, 117, 108]), (mkS [100, 105, 118]), (mkS [114, 101, 109]), (mkS [108, 101, 115, 115]), (mkS [115, 97, 109, 101]), (mkS [110, 111, 116]), (mkS [108, 111, 97, 100]), (mkS [115, 116, 111, 114, 101]), (mkS [115, 97, 121]), (mkS [99, 97, 108, 108]), (mkS [107, 101, 101, 112]), (mkS [116, 97, 107, 101]), (mkS [103, 105, 118, 101]), (mkS [102, 101, 116, 99, 104]), (mkS [114, 101, 115, 117, 108, 116]), (mkS [106, 117, 109, 112]), (mkS [98, 114, 97, 110, 99, 104]), (mkS [98, 97, 99, 107])] : List Str)]) (by kernel_rfl) (by kernel_rfl) (fun _ _ _ h => h.2) ?_
    replace hm := hm.drew
    have hS : Mem w0 (hp w0) _ [ow [(.slice (some ⟨b0_2, 0, none⟩) 23 23)] ([(mkS []), (mkS [65, 78]), (mkS [65, 66]), (mkS [65, 66, 67]), (mkS [65, 66, 67]), (mkS [65, 66, 67]), (mkS [65, 66, 67]), (mkS [65, 66, 67]), (mkS [65, 66, 67]), (mkS [65, 66, 67]), (mkS [65, 66]), (mkS [65, 66]), (mkS [65, 66]), (mkS [65]), (mkS [78]), (mkS [65, 78]), (mkS [65, 78]), (mkS [65, 78]), (mkS [65, 78]), (mkS [65]), (mkS [78]), (mkS [65, 78]), (mkS [65])] : List Str), ow [(.slice (some ⟨b0_1, 0, none⟩) 23 23)] ([(mkS []), (mkS [115, 101, 116]), (mkS [109, 111, 118, 101]), (mkS [97, 100, 100]), (mkS [115, 117, 98]), (mkS [109, 117, 108]), (mkS [100, 105, 118]), (mkS [114, 101, 109]), (mkS [108, 101, 115, 115]), (mkS [115, 97, 109, 101]), (mkS [110, 111, 116]), (mkS [108, 111, 97, 100]), (mkS [115, 116, 111, 114, 101]), (mkS [115, 97, 121]), (mkS [99, 97, 108, 108]), (mkS [107, 101, 101, 112]), (mkS [116, 97, 107, 101]), (mkS [103, 105, 118, 101]), (mkS [102, 101, 116, 99, 104]), (mkS [114, 101, 115, 117, 108, 116]), (mkS [106, 117, 109, 112]), (mkS [98, 114, 97, 110, 99, 104]), (mkS [98, 97, 99, 107])] : List Str)] := hm.pick [0, 1] (by decide) rfl
    refine td_p hf rfl rfl rfl rfl (fun w => y_move rfl rfl) ?_
    clear hf a; intro a hf
    refine td_p hf rfl rfl rfl rfl (fun w => y_move rfl rfl) ?_
    clear hf a; intro a hf
    obtain ⟨x0_1, hx0_2, hq⟩ := bnd hq
    obtain ⟨h0_4, hx0_3⟩ := getI_some.1 hx0_2
    have hL0_1 := rep_slice_len (hm.ow_rep 1 rfl)
    refine td_p hf rfl rfl rfl rfl (fun w => y_indexAddr st_89 rfl rfl rfl h0_4 (idx_lt2 hx0_3 hL0_1)) ?_
    clear hf a; intro a hf
    refine td_p hf rfl rfl rfl rfl (fun w => y_move rfl rfl) ?_
    clear hf a; intro a hf
    refine td_p hf rfl rfl rfl rfl (fun w => y_move rfl rfl) ?_
    clear hf a; intro a hf
    obtain ⟨x0_2, hx0_4, hq⟩ := bnd hq
    obtain ⟨h0_5, hx0_5⟩ := getI_some.1 hx0_4
    have hL0_2 := rep_slice_len (hm.ow_rep 0 rfl)
    refine td_p hf rfl rfl rfl rfl (fun w => y_indexAddr st_89 rfl rfl rfl h0_5 (idx_lt2 hx0_5 hL0_2)) ?_
    clear hf a; intro a hf
    refine td_y hf rfl rfl rfl rfl hS (fun w hm => y_load1 Tryd.isAgg9 rfl rfl ((flat_cells (cs := [(.string ⟨(x0_1).b.toArray⟩)]) (hm.ow_rep 1 rfl) hx0_3 rfl).cell (j := 0) rfl)) ?_
    clear hf a; intro a hf
    refine td_p hf rfl rfl rfl rfl (fun w => y_assign rfl rfl) ?_
    clear hf a; intro a hf
    refine te_one ?_
    refine td_ef hf rfl rfl rfl rfl (ef_y hf (y_load1 Tryd.isAgg9 rfl rfl ((flat_cells (cs := [(.string ⟨(x0_2).b.toArray⟩)]) (hm.ow_rep 0 rfl) hx0_5 rfl).cell (j := 0) rfl))) ?_
    clear hf a; rintro _ _ a ⟨rfl, rfl⟩ hf
    refine ⟨fun _ => hS, ?_⟩
    refine td_p hf rfl rfl rfl rfl (fun w => y_assign rfl rfl) ?_
    clear hf a; intro a hf
    clear hS; refine td_end ?_
    refine x_then_n ?_
    refine wp_ret ?_
    obtain rfl := Option.some.inj hq
    refine ret_tmp2 hf Tryd.results36 rfl rfl ?_
    exact ⟨rfl, hm.below⟩

theorem spec_l24Jumps_ok (w0 : World) (x_ : Mins) (r : Bool) (hq : spec_l24Jumps x_ = some r) :
    Con Tryd.prog 37 [(.agg #[(.int .i64 (x_.op)), (.int .i64 (x_.a_)), (.int .i64 (x_.b)), (.int .i64 (x_.c)), (.int .i64 (x_.n_))])] w0 (fun v w' => v = (.bool (r)) ∧ Below w0.heap.size w0 w') := by
  unfold spec_l24Jumps at hq
  refine con_body (l := [(0, (.agg #[(.int .i64 (x_.op)), (.int .i64 (x_.a_)), (.int .i64 (x_.b)), (.int .i64 (x_.c)), (.int .i64 (x_.n_))]))]) Tryd.func37 rfl Tryd.ntmps37 (Args.get ⟨rfl, trivial⟩) rfl ?_
  intro a hf
  have hm := Mem.start w0
  refine wp_seq ?_
  refine wp_region_lit ?_
  refine st_ef hf rfl rfl rfl (e_box hf hm rfl rfl rfl) ?_
  clear hf a; rintro _ w0_1 a ⟨b0_1, rfl, hm⟩ hf
  refine st_y hf rfl rfl rfl (y_assign rfl rfl) ?_
  clear hf a; intro a hf
  refine st_end ?_
  refine x_then_n ?_
  refine wp_seq ?_
  obtain ⟨s0_1, hq0_1, hq⟩ := bnd hq
  refine code_cut (K := fun a w => Fr 11 [(2, (.bool (s0_1)))] a ∧ Mem w0 (hp w0) w []) ?_ ?_
  ·
    refine wp_region_lit ?_
    refine st_y hf rfl rfl rfl (y_fieldAddr fo_27_0 rfl rfl) ?_
    clear hf a; intro a hf
    refine st_y hf rfl rfl rfl (y_load1 Tryd.isAgg3 rfl rfl (hm.blk_cell 0 rfl rfl)) ?_
    clear hf a; intro a hf
    refine st_y hf rfl rfl rfl (y_eql rfl rfl rfl) ?_
    clear hf a; intro a hf
    refine st_y hf rfl rfl rfl (y_move rfl rfl) ?_
    clear hf a; intro a hf
    rcases bcases (decide (x_.op = 20)) with h1_1 | h1_1
    ·
      replace hq0_1 := (ite_t h1_1).symm.trans hq0_1
      have h1_2 := of_decide_eq_true h1_1
      refine st_no hf rfl rfl (lk_b rfl h1_1) rfl rfl rfl ?_
      clear hf a; intro a hf
      refine st_no hf rfl rfl (lk_b rfl h1_1) rfl rfl rfl ?_
      clear hf a; intro a hf
      refine st_no hf rfl rfl (lk_b rfl h1_1) rfl rfl rfl ?_
      clear hf a; intro a hf
      refine st_y hf rfl rfl rfl (y_pick_t rfl (ev_b rfl h1_1) rfl) ?_
      clear hf a; intro a hf
      refine st_y hf rfl rfl rfl (y_assign rfl rfl) ?_
      clear hf a; intro a hf
      refine st_end ?_
      refine x_then_n ?_
      obtain rfl := Option.some.inj hq0_1
      exact ⟨hf.sub ⟨rfl, trivial⟩, hm.pick [] (by decide) rfl⟩
    ·
      replace hq0_1 := (ite_f h1_1).symm.trans hq0_1
      have h1_3 := of_decide_eq_false h1_1
      refine st_yg hf rfl rfl (lk_b rfl h1_1) rfl rfl (y_fieldAddr fo_27_0 rfl rfl) ?_
      clear hf a; intro a hf
      refine st_yg hf rfl rfl (lk_b rfl h1_1) rfl rfl (y_load1 Tryd.isAgg3 rfl rfl (hm.blk_cell 0 rfl rfl)) ?_
      clear hf a; intro a hf
      refine st_yg hf rfl rfl (lk_b rfl h1_1) rfl rfl (y_eql rfl rfl rfl) ?_
      clear hf a; intro a hf
      refine st_y hf rfl rfl rfl (y_pick_f rfl (ev_b rfl h1_1) rfl) ?_
      clear hf a; intro a hf
      refine st_y hf rfl rfl rfl (y_assign rfl rfl) ?_
      clear hf a; intro a hf
      refine st_end ?_
      refine x_then_n ?_
      obtain rfl := Option.some.inj hq0_1
      exact ⟨hf.sub ⟨rfl, trivial⟩, hm.pick [] (by decide) rfl⟩
  ·
    clear hf hm
    rintro a w ⟨hf, hm⟩
    refine x_then_n ?_
    refine wp_ret ?_
    obtain rfl := Option.some.inj hq
    refine ret_tmp hf Tryd.results37 rfl ?_
    exact ⟨rfl, hm.below⟩

theorem spec_l25Plain_ok (w0 : World) (x_ : Mins) (r : (List UInt8)) (hq : spec_l25Plain x_ = some r) :
    Con Tryd.prog 40 [(.agg #[(.int .i64 (x_.op)), (.int .i64 (x_.a_)), (.int .i64 (x_.b)), (.int .i64 (x_.c)), (.int .i64 (x_.n_))])] w0 (fun v w' => ∃ (x1 : Value), v = x1 ∧ Mem w0 (hp w0) w' [ow [x1] r]) := by
  unfold spec_l25Plain at hq
  refine con_body (l := [(0, (.agg #[(.int .i64 (x_.op)), (.int .i64 (x_.a_)), (.int .i64 (x_.b)), (.int .i64 (x_.c)), (.int .i64 (x_.n_))]))]) Tryd.func40 rfl Tryd.ntmps40 (Args.get ⟨rfl, trivial⟩) rfl ?_
  intro a hf
  have hm := Mem.start w0
  refine wp_seq ?_
  refine wp_region_lit ?_
  refine st_ef hf rfl rfl rfl (e_box hf hm rfl rfl rfl) ?_
  clear hf a; rintro _ w0_1 a ⟨b0_1, rfl, hm⟩ hf
  refine st_y hf rfl rfl rfl (y_assign rfl rfl) ?_
  clear hf a; intro a hf
  refine st_end ?_
  refine x_then_n ?_
  refine wp_seq ?_
  refine wp_block ?_
  refine wp_seq ?_
  obtain ⟨s0_1, hq0_1, hq⟩ := bnd hq
  refine code_cut (K := fun a w => Fr 78 [(1, (.pointer (some ⟨b0_1, 0, none⟩))), (3, (.bool (s0_1)))] a ∧ Mem w0 (hp w0) w [blk b0_1 [(.int .i64 (x_.op)), (.int .i64 (x_.a_)), (.int .i64 (x_.b)), (.int .i64 (x_.c)), (.int .i64 (x_.n_))] 27]) ?_ ?_
  ·
    refine wp_region_lit ?_
    refine st_y hf rfl rfl rfl (y_fieldAddr fo_27_0 rfl rfl) ?_
    clear hf a; intro a hf
    refine st_y hf rfl rfl rfl (y_load1 Tryd.isAgg3 rfl rfl (hm.blk_cell 0 rfl rfl)) ?_
    clear hf a; intro a hf
    refine st_y hf rfl rfl rfl (y_eql rfl rfl rfl) ?_
    clear hf a; intro a hf
    refine st_y hf rfl rfl rfl (y_move rfl rfl) ?_
    clear hf a; intro a hf
    rcases bcases (decide (x_.op = 1)) with h1_1 | h1_1
    ·
      replace hq0_1 := (ite_t h1_1).symm.trans hq0_1
      have h1_2 := of_decide_eq_true h1_1
      refine st_no hf rfl rfl (lk_b rfl h1_1) rfl rfl rfl ?_
      clear hf a; intro a hf
      refine st_no hf rfl rfl (lk_b rfl h1_1) rfl rfl rfl ?_
      clear hf a; intro a hf
      refine st_no hf rfl rfl (lk_b rfl h1_1) rfl rfl rfl ?_
      clear hf a; intro a hf
      refine st_y hf rfl rfl rfl (y_pick_t rfl (ev_b rfl h1_1) rfl) ?_
      clear hf a; intro a hf
      refine st_y hf rfl rfl rfl (y_assign rfl rfl) ?_
      clear hf a; intro a hf
      refine st_end ?_
      refine x_then_n ?_
      obtain rfl := Option.some.inj hq0_1
      exact ⟨hf.sub ⟨rfl, rfl, trivial⟩, hm.pick [0] (by decide) rfl⟩
    ·
      replace hq0_1 := (ite_f h1_1).symm.trans hq0_1
      have h1_3 := of_decide_eq_false h1_1
      refine st_yg hf rfl rfl (lk_b rfl h1_1) rfl rfl (y_fieldAddr fo_27_0 rfl rfl) ?_
      clear hf a; intro a hf
      refine st_yg hf rfl rfl (lk_b rfl h1_1) rfl rfl (y_load1 Tryd.isAgg3 rfl rfl (hm.blk_cell 0 rfl rfl)) ?_
      clear hf a; intro a hf
      obtain ⟨r1_1, hx1_1, hq0_1⟩ := bnd hq0_1
      refine st_efg hf rfl rfl (lk_b rfl h1_1) rfl rfl (e_call hf rfl Tryd.call39 rfl (spec_l1In_ok _ x_.op 15 18 _ hx1_1)) ?_
      clear hf a; rintro v1_1 w1_1 a ho1_1 hf
      obtain ⟨rfl, hB⟩ := ho1_1
      replace hm := hm.below' hB; clear hB
      refine st_y hf rfl rfl rfl (y_pick_f rfl (ev_b rfl h1_1) rfl) ?_
      clear hf a; intro a hf
      refine st_y hf rfl rfl rfl (y_assign rfl rfl) ?_
      clear hf a; intro a hf
      refine st_end ?_
      refine x_then_n ?_
      obtain rfl := Option.some.inj hq0_1
      exact ⟨hf.sub ⟨rfl, rfl, trivial⟩, hm.pick [0] (by decide) rfl⟩
  ·
    clear hf hm
    rintro a w ⟨hf, hm⟩
    refine x_then_n ?_
    rcases bcases (s0_1) with h0_1 | h0_1
    ·
      replace hq := (ite_t h0_1).symm.trans hq
      refine cond_t hf rfl h0_1 ?_
      refine wp_seq ?_
      refine wp_region_lit ?_
      refine st_y hf rfl rfl rfl (y_fieldAddr fo_27_0 rfl rfl) ?_
      clear hf a; intro a hf
      refine st_y hf rfl rfl rfl (y_load1 Tryd.isAgg3 rfl rfl (hm.blk_cell 0 rfl rfl)) ?_
      clear hf a; intro a hf
      refine st_y hf rfl rfl rfl (y_conv8 Tryd.underlying3 Tryd.underlying5 rfl rfl) ?_
      clear hf a; intro a hf
      refine st_y hf rfl rfl rfl (y_fieldAddr fo_27_1 rfl rfl) ?_
      clear hf a; intro a hf
      refine st_y hf rfl rfl rfl (y_load1 Tryd.isAgg3 rfl rfl (hm.blk_cell 0 rfl rfl)) ?_
      clear hf a; intro a hf
      refine st_y hf rfl rfl rfl (y_conv8 Tryd.underlying3 Tryd.underlying5 rfl rfl) ?_
      clear hf a; intro a hf
      refine st_y hf rfl rfl rfl (y_fieldAddr fo_27_4 rfl rfl) ?_
      clear hf a; intro a hf
      refine st_y hf rfl rfl rfl (y_load1 Tryd.isAgg3 rfl rfl (hm.blk_cell 0 rfl rfl)) ?_
      clear hf a; intro a hf
      refine st_y hf rfl rfl rfl (y_conv8 Tryd.underlying3 Tryd.underlying5 rfl rfl) ?_
      clear hf a; intro a hf
      refine st_ef hf rfl rfl rfl (e_build (vs := #[(0, (.int .u8 (((byteI x_.op)).toNat : Int))), (1, (.int .u8 (((byteI x_.a_)).toNat : Int))), (2, (.int .u8 (((byteI x_.n_)).toNat : Int)))]) (cs := [(.int .u8 (((byteI x_.op)).toNat : Int)), (.int .u8 (((byteI x_.a_)).toNat : Int)), (.int .u8 (((byteI x_.n_)).toNat : Int))]) et_24 hf hm rfl rfl (by kernel_rfl) rfl rfl) ?_
      clear hf a; rintro _ w0_2 a ⟨b0_2, rfl, hm⟩ hf
      replace hm := hm.lit (xs := ([(byteI x_.op), (byteI x_.a_), (byteI x_.n_)] : List UInt8)) 0 rfl rfl rfl rfl
      refine st_y hf rfl rfl rfl (y_assign rfl rfl) ?_
      clear hf a; intro a hf
      refine st_end ?_
      refine x_then_n ?_
      refine wp_ret ?_
      refine x_blk_ret ?_
      refine x_then_ret ?_
      obtain rfl := Option.some.inj hq
      refine ret_tmp hf Tryd.results40 rfl ?_
      exact ⟨(.slice (some ⟨b0_2, 0, none⟩) 3 3), rfl, hm.pick [0] (by decide) rfl⟩
    ·
      replace hq := (ite_f h0_1).symm.trans hq
      refine cond_f hf rfl h0_1 ?_
      refine wp_seq ?_
      refine wp_region_lit ?_
      refine st_y hf rfl rfl rfl (y_fieldAddr fo_27_0 rfl rfl) ?_
      clear hf a; intro a hf
      refine st_y hf rfl rfl rfl (y_load1 Tryd.isAgg3 rfl rfl (hm.blk_cell 0 rfl rfl)) ?_
      clear hf a; intro a hf
      obtain ⟨r0_1, hx0_1, hq⟩ := bnd hq
      refine st_ef hf rfl rfl rfl (e_call hf rfl Tryd.call39 rfl (spec_l1In_ok _ x_.op 3 9 _ hx0_1)) ?_
      clear hf a; rintro v0_1 w0_3 a ho0_1 hf
      obtain ⟨rfl, hB⟩ := ho0_1
      replace hm := hm.below' hB; clear hB
      refine st_y hf rfl rfl rfl (y_assign rfl rfl) ?_
      clear hf a; intro a hf
      refine st_end ?_
      refine x_then_n ?_
      rcases bcases (r0_1) with h0_2 | h0_2
      ·
        replace hq := (ite_t h0_2).symm.trans hq
        refine cond_t hf rfl h0_2 ?_
        refine wp_seq ?_
        refine wp_region_lit ?_
        refine st_y hf rfl rfl rfl (y_fieldAddr fo_27_0 rfl rfl) ?_
        clear hf a; intro a hf
        refine st_y hf rfl rfl rfl (y_load1 Tryd.isAgg3 rfl rfl (hm.blk_cell 0 rfl rfl)) ?_
        clear hf a; intro a hf
        refine st_y hf rfl rfl rfl (y_conv8 Tryd.underlying3 Tryd.underlying5 rfl rfl) ?_
        clear hf a; intro a hf
        refine st_y hf rfl rfl rfl (y_fieldAddr fo_27_1 rfl rfl) ?_
        clear hf a; intro a hf
        refine st_y hf rfl rfl rfl (y_load1 Tryd.isAgg3 rfl rfl (hm.blk_cell 0 rfl rfl)) ?_
        clear hf a; intro a hf
        refine st_y hf rfl rfl rfl (y_fieldAddr fo_27_2 rfl rfl) ?_
        clear hf a; intro a hf
        refine st_y hf rfl rfl rfl (y_load1 Tryd.isAgg3 rfl rfl (hm.blk_cell 0 rfl rfl)) ?_
        clear hf a; intro a hf
        refine st_y hf rfl rfl rfl (y_mulw rfl rfl rfl) ?_
        clear hf a; intro a hf
        refine st_y hf rfl rfl rfl (y_addw rfl rfl rfl) ?_
        clear hf a; intro a hf
        refine st_y hf rfl rfl rfl (y_conv8 Tryd.underlying3 Tryd.underlying5 rfl rfl) ?_
        clear hf a; intro a hf
        refine st_y hf rfl rfl rfl (y_fieldAddr fo_27_3 rfl rfl) ?_
        clear hf a; intro a hf
        refine st_y hf rfl rfl rfl (y_load1 Tryd.isAgg3 rfl rfl (hm.blk_cell 0 rfl rfl)) ?_
        clear hf a; intro a hf
        refine st_y hf rfl rfl rfl (y_conv8 Tryd.underlying3 Tryd.underlying5 rfl rfl) ?_
        clear hf a; intro a hf
        refine st_ef hf rfl rfl rfl (e_build (vs := #[(0, (.int .u8 (((byteI x_.op)).toNat : Int))), (1, (.int .u8 (((byteI (w64 (x_.a_ + (w64 (8 * x_.b)))))).toNat : Int))), (2, (.int .u8 (((byteI x_.c)).toNat : Int)))]) (cs := [(.int .u8 (((byteI x_.op)).toNat : Int)), (.int .u8 (((byteI (w64 (x_.a_ + (w64 (8 * x_.b)))))).toNat : Int)), (.int .u8 (((byteI x_.c)).toNat : Int))]) et_24 hf hm rfl rfl (by kernel_rfl) rfl rfl) ?_
        clear hf a; rintro _ w0_4 a ⟨b0_3, rfl, hm⟩ hf
        replace hm := hm.lit (xs := ([(byteI x_.op), (byteI (w64 (x_.a_ + (w64 (8 * x_.b))))), (byteI x_.c)] : List UInt8)) 0 rfl rfl rfl rfl
        refine st_y hf rfl rfl rfl (y_assign rfl rfl) ?_
        clear hf a; intro a hf
        refine st_end ?_
        refine x_then_n ?_
        refine wp_ret ?_
        refine x_blk_ret ?_
        refine x_then_ret ?_
        obtain rfl := Option.some.inj hq
        refine ret_tmp hf Tryd.results40 rfl ?_
        exact ⟨(.slice (some ⟨b0_3, 0, none⟩) 3 3), rfl, hm.pick [0] (by decide) rfl⟩
      ·
        replace hq := (ite_f h0_2).symm.trans hq
        refine cond_f hf rfl h0_2 ?_
        refine wp_seq ?_
        obtain ⟨s0_2, hq0_2, hq⟩ := bnd hq
        refine code_cut (K := fun a w => Fr 78 [(1, (.pointer (some ⟨b0_1, 0, none⟩))), (40, (.bool (s0_2)))] a ∧ Mem w0 (hp w0) w [blk b0_1 [(.int .i64 (x_.op)), (.int .i64 (x_.a_)), (.int .i64 (x_.b)), (.int .i64 (x_.c)), (.int .i64 (x_.n_))] 27]) ?_ ?_
        ·
          refine wp_region_lit ?_
          refine st_y hf rfl rfl rfl (y_fieldAddr fo_27_0 rfl rfl) ?_
          clear hf a; intro a hf
          refine st_y hf rfl rfl rfl (y_load1 Tryd.isAgg3 rfl rfl (hm.blk_cell 0 rfl rfl)) ?_
          clear hf a; intro a hf
          refine st_y hf rfl rfl rfl (y_eql rfl rfl rfl) ?_
          clear hf a; intro a hf
          refine st_y hf rfl rfl rfl (y_move rfl rfl) ?_
          clear hf a; intro a hf
          rcases bcases (decide (x_.op = 2)) with h1_4 | h1_4
          ·
            replace hq0_2 := (ite_t h1_4).symm.trans hq0_2
            have h1_5 := of_decide_eq_true h1_4
            refine st_no hf rfl rfl (lk_b rfl h1_4) rfl rfl rfl ?_
            clear hf a; intro a hf
            refine st_no hf rfl rfl (lk_b rfl h1_4) rfl rfl rfl ?_
            clear hf a; intro a hf
            refine st_no hf rfl rfl (lk_b rfl h1_4) rfl rfl rfl ?_
            clear hf a; intro a hf
            refine st_y hf rfl rfl rfl (y_pick_t rfl (ev_b rfl h1_4) rfl) ?_
            clear hf a; intro a hf
            refine st_y hf rfl rfl rfl (y_assign rfl rfl) ?_
            clear hf a; intro a hf
            refine st_end ?_
            refine x_then_n ?_
            obtain rfl := Option.some.inj hq0_2
            exact ⟨hf.sub ⟨rfl, rfl, trivial⟩, hm.pick [0] (by decide) rfl⟩
          ·
            replace hq0_2 := (ite_f h1_4).symm.trans hq0_2
            have h1_6 := of_decide_eq_false h1_4
            refine st_yg hf rfl rfl (lk_b rfl h1_4) rfl rfl (y_fieldAddr fo_27_0 rfl rfl) ?_
            clear hf a; intro a hf
            refine st_yg hf rfl rfl (lk_b rfl h1_4) rfl rfl (y_load1 Tryd.isAgg3 rfl rfl (hm.blk_cell 0 rfl rfl)) ?_
            clear hf a; intro a hf
            obtain ⟨r1_2, hx1_2, hq0_2⟩ := bnd hq0_2
            refine st_efg hf rfl rfl (lk_b rfl h1_4) rfl rfl (e_call hf rfl Tryd.call39 rfl (spec_l1In_ok _ x_.op 10 12 _ hx1_2)) ?_
            clear hf a; rintro v1_2 w1_2 a ho1_2 hf
            obtain ⟨rfl, hB⟩ := ho1_2
            replace hm := hm.below' hB; clear hB
            refine st_y hf rfl rfl rfl (y_pick_f rfl (ev_b rfl h1_4) rfl) ?_
            clear hf a; intro a hf
            refine st_y hf rfl rfl rfl (y_assign rfl rfl) ?_
            clear hf a; intro a hf
            refine st_end ?_
            refine x_then_n ?_
            obtain rfl := Option.some.inj hq0_2
            exact ⟨hf.sub ⟨rfl, rfl, trivial⟩, hm.pick [0] (by decide) rfl⟩
        ·
          clear hf hm
          rintro a w ⟨hf, hm⟩
          refine x_then_n ?_
          rcases bcases (s0_2) with h0_3 | h0_3
          ·
            replace hq := (ite_t h0_3).symm.trans hq
            refine cond_t hf rfl h0_3 ?_
            refine wp_seq ?_
            refine wp_region_lit ?_
            refine st_y hf rfl rfl rfl (y_fieldAddr fo_27_0 rfl rfl) ?_
            clear hf a; intro a hf
            refine st_y hf rfl rfl rfl (y_load1 Tryd.isAgg3 rfl rfl (hm.blk_cell 0 rfl rfl)) ?_
            clear hf a; intro a hf
            refine st_y hf rfl rfl rfl (y_conv8 Tryd.underlying3 Tryd.underlying5 rfl rfl) ?_
            clear hf a; intro a hf
            refine st_y hf rfl rfl rfl (y_fieldAddr fo_27_1 rfl rfl) ?_
            clear hf a; intro a hf
            refine st_y hf rfl rfl rfl (y_load1 Tryd.isAgg3 rfl rfl (hm.blk_cell 0 rfl rfl)) ?_
            clear hf a; intro a hf
            refine st_y hf rfl rfl rfl (y_fieldAddr fo_27_2 rfl rfl) ?_
            clear hf a; intro a hf
            refine st_y hf rfl rfl rfl (y_load1 Tryd.isAgg3 rfl rfl (hm.blk_cell 0 rfl rfl)) ?_
            clear hf a; intro a hf
            refine st_y hf rfl rfl rfl (y_mulw rfl rfl rfl) ?_
            clear hf a; intro a hf
            refine st_y hf rfl rfl rfl (y_addw rfl rfl rfl) ?_
            clear hf a; intro a hf
            refine st_y hf rfl rfl rfl (y_conv8 Tryd.underlying3 Tryd.underlying5 rfl rfl) ?_
            clear hf a; intro a hf
            refine st_ef hf rfl rfl rfl (e_build (vs := #[(0, (.int .u8 (((byteI x_.op)).toNat : Int))), (1, (.int .u8 (((byteI (w64 (x_.a_ + (w64 (8 * x_.b)))))).toNat : Int)))]) (cs := [(.int .u8 (((byteI x_.op)).toNat : Int)), (.int .u8 (((byteI (w64 (x_.a_ + (w64 (8 * x_.b)))))).toNat : Int))]) et_24 hf hm rfl rfl (by kernel_rfl) rfl rfl) ?_
            clear hf a; rintro _ w0_5 a ⟨b0_4, rfl, hm⟩ hf
            replace hm := hm.lit (xs := ([(byteI x_.op), (byteI (w64 (x_.a_ + (w64 (8 * x_.b)))))] : List UInt8)) 0 rfl rfl rfl rfl
            refine st_y hf rfl rfl rfl (y_assign rfl rfl) ?_
            clear hf a; intro a hf
            refine st_end ?_
            refine x_then_n ?_
            refine wp_ret ?_
            refine x_blk_ret ?_
            refine x_then_ret ?_
            obtain rfl := Option.some.inj hq
            refine ret_tmp hf Tryd.results40 rfl ?_
            exact ⟨(.slice (some ⟨b0_4, 0, none⟩) 2 2), rfl, hm.pick [0] (by decide) rfl⟩
          ·
            replace hq := (ite_f h0_3).symm.trans hq
            refine cond_f hf rfl h0_3 ?_
            refine wp_seq ?_
            refine wp_region_lit ?_
            refine st_y hf rfl rfl rfl (y_fieldAddr fo_27_0 rfl rfl) ?_
            clear hf a; intro a hf
            refine st_y hf rfl rfl rfl (y_load1 Tryd.isAgg3 rfl rfl (hm.blk_cell 0 rfl rfl)) ?_
            clear hf a; intro a hf
            refine st_y hf rfl rfl rfl (y_eql rfl rfl rfl) ?_
            clear hf a; intro a hf
            refine st_y hf rfl rfl rfl (y_assign rfl rfl) ?_
            clear hf a; intro a hf
            refine st_end ?_
            refine x_then_n ?_
            rcases bcases (decide (x_.op = 14)) with h0_4 | h0_4
            ·
              replace hq := (ite_t h0_4).symm.trans hq
              have h0_5 := of_decide_eq_true h0_4
              refine cond_t hf rfl h0_4 ?_
              refine wp_seq ?_
              refine wp_region_lit ?_
              refine st_y hf rfl rfl rfl (y_fieldAddr fo_27_0 rfl rfl) ?_
              clear hf a; intro a hf
              refine st_y hf rfl rfl rfl (y_load1 Tryd.isAgg3 rfl rfl (hm.blk_cell 0 rfl rfl)) ?_
              clear hf a; intro a hf
              refine st_y hf rfl rfl rfl (y_conv8 Tryd.underlying3 Tryd.underlying5 rfl rfl) ?_
              clear hf a; intro a hf
              refine st_y hf rfl rfl rfl (y_fieldAddr fo_27_4 rfl rfl) ?_
              clear hf a; intro a hf
              refine st_y hf rfl rfl rfl (y_load1 Tryd.isAgg3 rfl rfl (hm.blk_cell 0 rfl rfl)) ?_
              clear hf a; intro a hf
              refine st_y hf rfl rfl rfl (y_conv8 Tryd.underlying3 Tryd.underlying5 rfl rfl) ?_
              clear hf a; intro a hf
              refine st_ef hf rfl rfl rfl (e_build (vs := #[(0, (.int .u8 (((byteI x_.op)).toNat : Int))), (1, (.int .u8 (((byteI x_.n_)).toNat : Int)))]) (cs := [(.int .u8 (((byteI x_.op)).toNat : Int)), (.int .u8 (((byteI x_.n_)).toNat : Int))]) et_24 hf hm rfl rfl (by kernel_rfl) rfl rfl) ?_
              clear hf a; rintro _ w0_6 a ⟨b0_5, rfl, hm⟩ hf
              replace hm := hm.lit (xs := ([(byteI x_.op), (byteI x_.n_)] : List UInt8)) 0 rfl rfl rfl rfl
              refine st_y hf rfl rfl rfl (y_assign rfl rfl) ?_
              clear hf a; intro a hf
              refine st_end ?_
              refine x_then_n ?_
              refine wp_ret ?_
              refine x_blk_ret ?_
              refine x_then_ret ?_
              obtain rfl := Option.some.inj hq
              refine ret_tmp hf Tryd.results40 rfl ?_
              exact ⟨(.slice (some ⟨b0_5, 0, none⟩) 2 2), rfl, hm.pick [0] (by decide) rfl⟩
            ·
              replace hq := (ite_f h0_4).symm.trans hq
              have h0_6 := of_decide_eq_false h0_4
              refine cond_f hf rfl h0_4 ?_
              refine wp_skip ?_
              refine x_blk_n ?_
              refine x_then_n ?_
              refine wp_seq ?_
              refine wp_region_lit ?_
              refine st_y hf rfl rfl rfl (y_fieldAddr fo_27_0 rfl rfl) ?_
              clear hf a; intro a hf
              refine st_y hf rfl rfl rfl (y_load1 Tryd.isAgg3 rfl rfl (hm.blk_cell 0 rfl rfl)) ?_
              clear hf a; intro a hf
              refine st_y hf rfl rfl rfl (y_conv8 Tryd.underlying3 Tryd.underlying5 rfl rfl) ?_
              clear hf a; intro a hf
              refine st_y hf rfl rfl rfl (y_fieldAddr fo_27_1 rfl rfl) ?_
              clear hf a; intro a hf
              refine st_y hf rfl rfl rfl (y_load1 Tryd.isAgg3 rfl rfl (hm.blk_cell 0 rfl rfl)) ?_
              clear hf a; intro a hf
              refine st_y hf rfl rfl rfl (y_conv8 Tryd.underlying3 Tryd.underlying5 rfl rfl) ?_
              clear hf a; intro a hf
              refine st_ef hf rfl rfl rfl (e_build (vs := #[(0, (.int .u8 (((byteI x_.op)).toNat : Int))), (1, (.int .u8 (((byteI x_.a_)).toNat : Int)))]) (cs := [(.int .u8 (((byteI x_.op)).toNat : Int)), (.int .u8 (((byteI x_.a_)).toNat : Int))]) et_24 hf hm rfl rfl (by kernel_rfl) rfl rfl) ?_
              clear hf a; rintro _ w0_7 a ⟨b0_6, rfl, hm⟩ hf
              replace hm := hm.lit (xs := ([(byteI x_.op), (byteI x_.a_)] : List UInt8)) 0 rfl rfl rfl rfl
              refine st_y hf rfl rfl rfl (y_assign rfl rfl) ?_
              clear hf a; intro a hf
              refine st_end ?_
              refine x_then_n ?_
              refine wp_ret ?_
              obtain rfl := Option.some.inj hq
              refine ret_tmp hf Tryd.results40 rfl ?_
              exact ⟨(.slice (some ⟨b0_6, 0, none⟩) 2 2), rfl, hm.pick [0] (by decide) rfl⟩

theorem spec_l5Truth_ok (w0 : World) (is : Bool) (r : Int) (hq : spec_l5Truth is = some r) :
    Con Tryd.prog 58 [(.bool (is))] w0 (fun v w' => v = (.int .i64 (r)) ∧ Below w0.heap.size w0 w') := by
  unfold spec_l5Truth at hq
  refine con_body (l := [(0, (.bool (is)))]) Tryd.func58 rfl Tryd.ntmps58 (Args.get ⟨rfl, trivial⟩) rfl ?_
  intro a hf
  have hm := Mem.start w0
  refine wp_seq ?_
  refine wp_region_lit ?_
  refine st_y hf rfl rfl rfl (y_assign rfl rfl) ?_
  clear hf a; intro a hf
  refine st_end ?_
  refine x_then_n ?_
  refine wp_seq ?_
  refine wp_seq ?_
  refine wp_region_lit ?_
  refine st_y hf rfl rfl rfl (y_move rfl rfl) ?_
  clear hf a; intro a hf
  refine st_end ?_
  refine x_then_n ?_
  rcases bcases (is) with h0_1 | h0_1
  ·
    replace hq := (ite_t h0_1).symm.trans hq
    refine cond_t hf rfl h0_1 ?_
    refine wp_seq ?_
    refine wp_region_lit ?_
    refine st_y hf rfl rfl rfl (y_assign rfl rfl) ?_
    clear hf a; intro a hf
    refine st_end ?_
    refine x_then_n ?_
    refine wp_ret ?_
    refine x_then_ret ?_
    obtain rfl := Option.some.inj hq
    refine ret_tmp hf Tryd.results58 rfl ?_
    exact ⟨rfl, hm.below⟩
  ·
    replace hq := (ite_f h0_1).symm.trans hq
    refine cond_f hf rfl h0_1 ?_
    refine wp_skip ?_
    refine x_then_n ?_
    refine wp_seq ?_
    refine wp_region_lit ?_
    refine st_y hf rfl rfl rfl (y_assign rfl rfl) ?_
    clear hf a; intro a hf
    refine st_end ?_
    refine x_then_n ?_
    refine wp_ret ?_
    obtain rfl := Option.some.inj hq
    refine ret_tmp hf Tryd.results58 rfl ?_
    exact ⟨rfl, hm.below⟩

theorem spec_l25Size_ok (w0 : World) (x_ : Mins) (long : Bool) (r : Int) (hq : spec_l25Size x_ long = some r) :
    Con Tryd.prog 57 [(.agg #[(.int .i64 (x_.op)), (.int .i64 (x_.a_)), (.int .i64 (x_.b)), (.int .i64 (x_.c)), (.int .i64 (x_.n_))]), (.bool (long))] w0 (fun v w' => v = (.int .i64 (r)) ∧ Below w0.heap.size w0 w') := by
  unfold spec_l25Size at hq
  refine con_body (l := [(0, (.agg #[(.int .i64 (x_.op)), (.int .i64 (x_.a_)), (.int .i64 (x_.b)), (.int .i64 (x_.c)), (.int .i64 (x_.n_))])), (1, (.bool (long)))]) Tryd.func57 rfl Tryd.ntmps57 (Args.get ⟨rfl, rfl, trivial⟩) rfl ?_
  intro a hf
  have hm := Mem.start w0
  refine wp_seq ?_
  refine wp_region_lit ?_
  refine st_ef hf rfl rfl rfl (e_box hf hm rfl rfl rfl) ?_
  clear hf a; rintro _ w0_1 a ⟨b0_1, rfl, hm⟩ hf
  refine st_y hf rfl rfl rfl (y_assign rfl rfl) ?_
  clear hf a; intro a hf
  refine st_end ?_
  refine x_then_n ?_
  refine wp_seq ?_
  refine wp_seq ?_
  refine wp_region_lit ?_
  refine st_y hf rfl rfl rfl (y_loadN (cs := [(.int .i64 (x_.op)), (.int .i64 (x_.a_)), (.int .i64 (x_.b)), (.int .i64 (x_.c)), (.int .i64 (x_.n_))]) Tryd.isAgg27 Tryd.sizeOf27 rfl rfl (hm.blk_at 0 rfl)) ?_
  clear hf a; intro a hf
  obtain ⟨r0_1, hx0_1, hq⟩ := bnd hq
  refine st_ef hf rfl rfl rfl (e_call hf rfl Tryd.call37 rfl (spec_l24Jumps_ok _ x_ _ hx0_1)) ?_
  clear hf a; rintro v0_1 w0_2 a ho0_1 hf
  obtain ⟨rfl, hB⟩ := ho0_1
  replace hm := hm.below' hB; clear hB
  refine st_y hf rfl rfl rfl (y_not rfl rfl) ?_
  clear hf a; intro a hf
  refine st_end ?_
  refine x_then_n ?_
  rcases bcases (!(r0_1)) with h0_1 | h0_1
  ·
    replace hq := (ite_t h0_1).symm.trans hq
    have h0_2 := bnot_t' h0_1
    refine cond_t hf rfl h0_1 ?_
    refine wp_seq ?_
    refine wp_region_lit ?_
    refine st_y hf rfl rfl rfl (y_loadN (cs := [(.int .i64 (x_.op)), (.int .i64 (x_.a_)), (.int .i64 (x_.b)), (.int .i64 (x_.c)), (.int .i64 (x_.n_))]) Tryd.isAgg27 Tryd.sizeOf27 rfl rfl (hm.blk_at 0 rfl)) ?_
    clear hf a; intro a hf
    obtain ⟨r0_2, hx0_2, hq⟩ := bnd hq
    refine st_ef hf rfl rfl rfl (e_call hf rfl Tryd.call40 rfl (spec_l25Plain_ok _ x_ _ hx0_2)) ?_
    clear hf a; rintro v0_2 w0_3 a ho0_2 hf
    obtain ⟨_, rfl, hB⟩ := ho0_2
    replace hm := hm.give hB; clear hB
    obtain ⟨p0_1, c0_1, he, hl0_1⟩ := ro_slice (hm.ow_rep 0 rfl)
    subst he
    refine st_y hf rfl rfl rfl (y_len_slice st_24.und rfl rfl) ?_
    clear hf a; intro a hf
    refine st_y hf rfl rfl rfl (y_assign rfl rfl) ?_
    clear hf a; intro a hf
    refine st_end ?_
    refine x_then_n ?_
    refine wp_ret ?_
    refine x_then_ret ?_
    obtain rfl := Option.some.inj hq
    refine ret_tmp hf Tryd.results57 rfl ?_
    exact ⟨rfl, hm.below⟩
  ·
    replace hq := (ite_f h0_1).symm.trans hq
    have h0_3 := bnot_f' h0_1
    refine cond_f hf rfl h0_1 ?_
    refine wp_skip ?_
    refine x_then_n ?_
    refine wp_seq ?_
    refine wp_tree (.p 0 (.p 3 (.q 4 (.p 5 (.e 1 (.p 2 (.e 6 (.p 7 (.p 8 .fin)) .nil)) .nil))))) [1] [0, 2, 3, 5, 7, 8] (fun w => Mem w0 (hp w0) w [blk b0_1 [(.int .i64 (x_.op)), (.int .i64 (x_.a_)), (.int .i64 (x_.b)), (.int .i64 (x_.c)), (.int .i64 (x_.n_))] 27]) (by kernel_rfl) (by kernel_rfl) (fun _ _ _ h => h.2) ?_
    replace hm := hm.drew
    have hS : Mem w0 (hp w0) _ [blk b0_1 [(.int .i64 (x_.op)), (.int .i64 (x_.a_)), (.int .i64 (x_.b)), (.int .i64 (x_.c)), (.int .i64 (x_.n_))] 27] := hm.pick [0] (by decide) rfl
    refine td_p hf rfl rfl rfl rfl (fun w => y_move rfl rfl) ?_
    clear hf a; intro a hf
    refine td_p hf rfl rfl rfl rfl (fun w => y_fieldAddr fo_27_0 rfl rfl) ?_
    clear hf a; intro a hf
    refine td_y hf rfl rfl rfl rfl hS (fun w hm => y_load1 Tryd.isAgg3 rfl rfl (hm.blk_cell 0 rfl rfl)) ?_
    clear hf a; intro a hf
    refine td_p hf rfl rfl rfl rfl (fun w => y_eql rfl rfl rfl) ?_
    clear hf a; intro a hf
    refine te_one ?_
    obtain ⟨r0_3, hx0_3, hq⟩ := bnd hq
    refine td_ef hf rfl rfl rfl rfl (e_call hf rfl Tryd.call58 rfl (spec_l5Truth_ok _ long _ hx0_3)) ?_
    clear hf a; rintro v0_4 w0_4 a ho0_3 hf
    obtain ⟨rfl, hB⟩ := ho0_3
    replace hm := hm.below' hB; clear hB
    clear hS
    have hS : Mem w0 (hp w0) _ [blk b0_1 [(.int .i64 (x_.op)), (.int .i64 (x_.a_)), (.int .i64 (x_.b)), (.int .i64 (x_.c)), (.int .i64 (x_.n_))] 27] := hm.pick [0] (by decide) rfl
    refine ⟨fun _ => hS, ?_⟩
    refine td_p hf rfl rfl rfl rfl (fun w => y_addw rfl rfl rfl) ?_
    clear hf a; intro a hf
    refine te_one ?_
    obtain ⟨r0_4, hx0_4, hq⟩ := bnd hq
    refine td_ef hf rfl rfl rfl rfl (e_call hf rfl Tryd.call58 rfl (spec_l5Truth_ok _ (decide (x_.op = 21)) _ hx0_4)) ?_
    clear hf a; rintro v0_5 w0_5 a ho0_4 hf
    obtain ⟨rfl, hB⟩ := ho0_4
    replace hm := hm.below' hB; clear hB
    refine ⟨fun h => absurd h (by decide), ?_⟩
    refine td_p hf rfl rfl rfl rfl (fun w => y_addw rfl rfl rfl) ?_
    clear hf a; intro a hf
    refine td_p hf rfl rfl rfl rfl (fun w => y_assign rfl rfl) ?_
    clear hf a; intro a hf
    clear hS; refine td_end ?_
    refine x_then_n ?_
    refine wp_ret ?_
    obtain rfl := Option.some.inj hq
    refine ret_tmp hf Tryd.results57 rfl ?_
    exact ⟨rfl, hm.below⟩

theorem spec_l25One_ok (w0 : World) (code : List UInt8) (v1 : Value) (h1 : GT.rep (hp w0) [v1] code) (at_ : Int) (r : Mins × Int × Bool) (hq : spec_l25One code at_ = some r) :
    Con Tryd.prog 59 [v1, (.int .i64 (at_))] w0 (fun v w' => v = (.tuple #[(.agg #[(.int .i64 (r.1.op)), (.int .i64 (r.1.a_)), (.int .i64 (r.1.b)), (.int .i64 (r.1.c)), (.int .i64 (r.1.n_))]), (.int .i64 (r.2.1)), (.bool (r.2.2))]) ∧ Below w0.heap.size w0 w') := by
  unfold spec_l25One at hq
  refine con_body (l := [(0, v1), (1, (.int .i64 (at_)))]) Tryd.func59 rfl Tryd.ntmps59 (Args.get ⟨rfl, rfl, trivial⟩) rfl ?_
  intro a hf
  have hm := Mem.start w0
  refine wp_seq ?_
  refine wp_region_lit ?_
  refine st_ef hf rfl rfl rfl (e_alloc hm Tryd.zeroValue27 rfl rfl) ?_
  clear hf a; rintro _ w0_1 a ⟨b0_1, rfl, hm⟩ hf
  refine st_y hf rfl rfl rfl (y_assign rfl rfl) ?_
  clear hf a; intro a hf
  refine st_y hf rfl rfl rfl (y_assign rfl rfl) ?_
  clear hf a; intro a hf
  refine st_end ?_
  refine x_then_n ?_
  refine wp_seq ?_
  refine wp_region_lit ?_
  refine st_y hf rfl rfl rfl (y_move rfl rfl) ?_
  clear hf a; intro a hf
  refine st_y hf rfl rfl rfl (y_move rfl rfl) ?_
  clear hf a; intro a hf
  obtain ⟨x0_1, hx0_1, hq⟩ := bnd hq
  obtain ⟨h0_1, hx0_2⟩ := getI_some.1 hx0_1
  obtain ⟨b0_2, o0_1, c0_1, he⟩ := idx_form h1 hx0_2
  subst he
  refine st_y hf rfl rfl rfl (y_indexAddr st_24 rfl rfl rfl h0_1 (idx_lt hx0_2)) ?_
  clear hf a; intro a hf
  refine st_y hf rfl rfl rfl (y_load1 Tryd.isAgg5 rfl rfl ((flat_cells (cs := [(.int .u8 ((x0_1).toNat : Int))]) (hm.now h1) hx0_2 rfl).cell (j := 0) rfl)) ?_
  clear hf a; intro a hf
  refine st_y hf rfl rfl rfl (y_geq8 (b := x0_1) (c := (128 : UInt8)) rfl rfl rfl) ?_
  clear hf a; intro a hf
  refine st_y hf rfl rfl rfl (y_assign rfl rfl) ?_
  clear hf a; intro a hf
  refine st_end ?_
  refine x_then_n ?_
  refine wp_seq ?_
  refine wp_region_lit ?_
  refine st_y hf rfl rfl rfl (y_move rfl rfl) ?_
  clear hf a; intro a hf
  refine st_y hf rfl rfl rfl (y_move rfl rfl) ?_
  clear hf a; intro a hf
  refine st_y hf rfl rfl rfl (y_indexAddr st_24 rfl rfl rfl h0_1 (idx_lt hx0_2)) ?_
  clear hf a; intro a hf
  refine st_y hf rfl rfl rfl (y_load1 Tryd.isAgg5 rfl rfl ((flat_cells (cs := [(.int .u8 ((x0_1).toNat : Int))]) (hm.now h1) hx0_2 rfl).cell (j := 0) rfl)) ?_
  clear hf a; intro a hf
  refine st_y hf rfl rfl rfl (y_rem8 (b := x0_1) (c := (128 : UInt8)) rfl rfl rfl (by decide)) ?_
  clear hf a; intro a hf
  refine st_y hf rfl rfl rfl (y_conv64 (b := (x0_1 % (128 : UInt8))) Tryd.underlying5 Tryd.underlying3 rfl rfl) ?_
  clear hf a; intro a hf
  have hu0_1 := UInt8.toNat_lt ((x0_1 % (128 : UInt8)))
  refine st_y hf rfl rfl rfl (y_build (vs := [(0, (.int .i64 ((((x0_1 % (128 : UInt8))).toNat : Int))))]) (cs := #[(.int .i64 ((((x0_1 % (128 : UInt8))).toNat : Int))), (.int .i64 (0)), (.int .i64 (0)), (.int .i64 (0)), (.int .i64 (0))]) rfl rfl (by kernel_rfl)) ?_
  clear hf a; intro a hf
  refine st_ef hf rfl rfl rfl (e_alloc hm Tryd.zeroValue27 rfl rfl) ?_
  clear hf a; rintro _ w0_2 a ⟨b0_3, rfl, hm⟩ hf
  refine st_ef0 hf rfl rfl (e_storeN 0 hf hm rfl Tryd.sizeOf27 rfl rfl rfl (one_cons rfl (one_cons rfl (one_cons rfl (one_cons rfl (one_cons rfl one_nil))))) rfl rfl) ?_
  clear hf a; rintro _ w0_3 a hm hf
  refine st_end ?_
  refine x_then_n ?_
  refine wp_seq ?_
  refine wp_region_lit ?_
  refine st_y hf rfl rfl rfl (y_assign rfl rfl) ?_
  clear hf a; intro a hf
  refine st_end ?_
  refine x_then_n ?_
  refine wp_seq ?_
  refine wp_seq ?_
  refine wp_region_lit ?_
  refine st_y hf rfl rfl rfl (y_fieldAddr fo_27_0 rfl rfl) ?_
  clear hf a; intro a hf
  refine st_y hf rfl rfl rfl (y_load1 Tryd.isAgg3 rfl rfl (hm.blk_cell 0 rfl rfl)) ?_
  clear hf a; intro a hf
  obtain ⟨r0_1, hx0_3, hq⟩ := bnd hq
  refine st_ef hf rfl rfl rfl (e_call hf rfl Tryd.call36 rfl (spec_l22Word_ok _ (((x0_1 % (128 : UInt8))).toNat : Int) _ hx0_3)) ?_
  clear hf a; rintro v0_1 w0_4 a ho0_1 hf
  obtain ⟨rfl, hB⟩ := ho0_1
  replace hm := hm.below' hB; clear hB
  refine st_y hf rfl rfl rfl (y_move rfl rfl) ?_
  clear hf a; intro a hf
  refine st_y hf rfl rfl rfl (y_extract rfl rfl rfl) ?_
  clear hf a; intro a hf
  refine st_y hf rfl rfl rfl (y_extract rfl rfl rfl) ?_
  clear hf a; intro a hf
  refine st_y hf rfl rfl rfl (y_assign rfl rfl) ?_
  clear hf a; intro a hf
  refine st_y hf rfl rfl rfl (y_assign rfl rfl) ?_
  clear hf a; intro a hf
  refine st_end ?_
  refine x_then_n ?_
  refine wp_seq ?_
  obtain ⟨s0_1, hq0_1, hq⟩ := bnd hq
  refine code_cut (K := fun a w => Fr 204 [(0, (.slice (some ⟨b0_2, o0_1, none⟩) code.length c0_1)), (1, (.int .i64 (at_))), (4, (.pointer (some ⟨b0_1, 0, none⟩))), (7, (.bool (decide ((128 : UInt8) ≤ x0_1)))), (8, (.pointer (some ⟨b0_3, 0, none⟩))), (39, (.bool (s0_1)))] a ∧ Mem w0 (hp w0) w [blk b0_1 [(.int .i64 (0)), (.int .i64 (0)), (.int .i64 (0)), (.int .i64 (0)), (.int .i64 (0))] 27, blk b0_3 [(.int .i64 ((((x0_1 % (128 : UInt8))).toNat : Int))), (.int .i64 (0)), (.int .i64 (0)), (.int .i64 (0)), (.int .i64 (0))] 27]) ?_ ?_
  ·
    refine wp_region_lit ?_
    refine st_y hf rfl rfl rfl (y_move rfl rfl) ?_
    clear hf a; intro a hf
    refine st_y hf rfl rfl rfl (y_eqls (p := r0_1.2) (q := (mkS [])) rfl rfl rfl) ?_
    clear hf a; intro a hf
    refine st_y hf rfl rfl rfl (y_move rfl rfl) ?_
    clear hf a; intro a hf
    rcases bcases (decide (r0_1.2 = (mkS []))) with h1_1 | h1_1
    ·
      replace hq0_1 := (ite_t h1_1).symm.trans hq0_1
      have h1_2 := of_decide_eq_true h1_1
      refine st_no hf rfl rfl (lk_b rfl h1_1) rfl rfl rfl ?_
      clear hf a; intro a hf
      refine st_no hf rfl rfl (lk_b rfl h1_1) rfl rfl rfl ?_
      clear hf a; intro a hf
      refine st_nou hf rfl rfl rfl rfl rfl ?_
      clear hf a; intro a hf
      refine st_nou hf rfl rfl rfl rfl rfl ?_
      clear hf a; intro a hf
      refine st_nou hf rfl rfl rfl rfl rfl ?_
      clear hf a; intro a hf
      refine st_no hf rfl rfl (lk_b rfl h1_1) rfl rfl rfl ?_
      clear hf a; intro a hf
      refine st_y hf rfl rfl rfl (y_pick_t rfl (ev_b rfl h1_1) rfl) ?_
      clear hf a; intro a hf
      refine st_end ?_
      refine x_then_n ?_
      obtain rfl := Option.some.inj hq0_1
      exact ⟨hf.sub ⟨rfl, rfl, rfl, rfl, rfl, rfl, trivial⟩, hm.pick [1, 0] (by decide) rfl⟩
    ·
      replace hq0_1 := (ite_f h1_1).symm.trans hq0_1
      have h1_3 := of_decide_eq_false h1_1
      refine st_yg hf rfl rfl (lk_b rfl h1_1) rfl rfl (y_move rfl rfl) ?_
      clear hf a; intro a hf
      refine st_yg hf rfl rfl (lk_b rfl h1_1) rfl rfl (y_move rfl rfl) ?_
      clear hf a; intro a hf
      rcases bcases (decide ((128 : UInt8) ≤ x0_1)) with h1_4 | h1_4
      ·
        replace hq0_1 := (ite_t h1_4).symm.trans hq0_1
        have h1_5 := of_decide_eq_true h1_4
        refine st_yg hf rfl rfl (lk_b rfl h1_4) rfl rfl (y_loadN (cs := [(.int .i64 ((((x0_1 % (128 : UInt8))).toNat : Int))), (.int .i64 (0)), (.int .i64 (0)), (.int .i64 (0)), (.int .i64 (0))]) Tryd.isAgg27 Tryd.sizeOf27 rfl rfl (hm.blk_at 0 rfl)) ?_
        clear hf a; intro a hf
        obtain ⟨r1_1, hx1_1, hq0_1⟩ := bnd hq0_1
        refine st_efg hf rfl rfl (lk_b rfl h1_4) rfl rfl (e_call hf rfl Tryd.call37 rfl (spec_l24Jumps_ok _ (⟨(((x0_1 % (128 : UInt8))).toNat : Int), 0, 0, 0, 0⟩ : Mins) _ hx1_1)) ?_
        clear hf a; rintro v1_1 w1_1 a ho1_1 hf
        obtain ⟨rfl, hB⟩ := ho1_1
        replace hm := hm.below' hB; clear hB
        refine st_yg hf rfl rfl (lk_b rfl h1_4) rfl rfl (y_not rfl rfl) ?_
        clear hf a; intro a hf
        refine st_yg hf rfl rfl (lk_b rfl h1_1) rfl rfl (y_pick_t rfl (ev_b rfl h1_4) rfl) ?_
        clear hf a; intro a hf
        refine st_y hf rfl rfl rfl (y_pick_f rfl (ev_b rfl h1_1) rfl) ?_
        clear hf a; intro a hf
        refine st_end ?_
        refine x_then_n ?_
        obtain rfl := Option.some.inj hq0_1
        exact ⟨hf.sub ⟨rfl, rfl, rfl, rfl, rfl, rfl, trivial⟩, hm.pick [1, 0] (by decide) rfl⟩
      ·
        replace hq0_1 := (ite_f h1_4).symm.trans hq0_1
        have h1_6 := of_decide_eq_false h1_4
        refine st_no hf rfl rfl (lk_b rfl h1_4) rfl rfl rfl ?_
        clear hf a; intro a hf
        refine st_no hf rfl rfl (lk_b rfl h1_4) rfl rfl rfl ?_
        clear hf a; intro a hf
        refine st_no hf rfl rfl (lk_b rfl h1_4) rfl rfl rfl ?_
        clear hf a; intro a hf
        refine st_yg hf rfl rfl (lk_b rfl h1_1) rfl rfl (y_pick_f rfl (ev_b rfl h1_4) rfl) ?_
        clear hf a; intro a hf
        refine st_y hf rfl rfl rfl (y_pick_f rfl (ev_b rfl h1_1) rfl) ?_
        clear hf a; intro a hf
        refine st_end ?_
        refine x_then_n ?_
        obtain rfl := Option.some.inj hq0_1
        exact ⟨hf.sub ⟨rfl, rfl, rfl, rfl, rfl, rfl, trivial⟩, hm.pick [1, 0] (by decide) rfl⟩
  ·
    clear hf hm
    rintro a w ⟨hf, hm⟩
    refine x_then_n ?_
    rcases bcases (s0_1) with h0_2 | h0_2
    ·
      replace hq := (ite_t h0_2).symm.trans hq
      refine cond_t hf rfl h0_2 ?_
      refine wp_seq ?_
      refine wp_region_lit ?_
      refine st_y hf rfl rfl rfl (y_loadN (cs := [(.int .i64 ((((x0_1 % (128 : UInt8))).toNat : Int))), (.int .i64 (0)), (.int .i64 (0)), (.int .i64 (0)), (.int .i64 (0))]) Tryd.isAgg27 Tryd.sizeOf27 rfl rfl (hm.blk_at 1 rfl)) ?_
      clear hf a; intro a hf
      refine st_ef0 hf rfl rfl (e_storeN 0 hf hm rfl Tryd.sizeOf27 rfl rfl rfl (one_cons rfl (one_cons rfl (one_cons rfl (one_cons rfl (one_cons rfl one_nil))))) rfl rfl) ?_
      clear hf a; rintro _ w0_5 a hm hf
      refine st_y hf rfl rfl rfl (y_assign rfl rfl) ?_
      clear hf a; intro a hf
      refine st_y hf rfl rfl rfl (y_assign rfl rfl) ?_
      clear hf a; intro a hf
      refine st_end ?_
      refine x_then_n ?_
      refine wp_ret ?_
      refine x_then_ret ?_
      obtain rfl := Option.some.inj hq
      refine ret_cell_tmp2 0 hf Tryd.results59 hm rfl rfl Tryd.isAgg27 Tryd.sizeOf27 rfl rfl ?_
      exact ⟨rfl, hm.below⟩
    ·
      replace hq := (ite_f h0_2).symm.trans hq
      refine cond_f hf rfl h0_2 ?_
      refine wp_skip ?_
      refine x_then_n ?_
      refine wp_seq ?_
      refine wp_region_lit ?_
      refine st_y hf rfl rfl rfl (y_loadN (cs := [(.int .i64 ((((x0_1 % (128 : UInt8))).toNat : Int))), (.int .i64 (0)), (.int .i64 (0)), (.int .i64 (0)), (.int .i64 (0))]) Tryd.isAgg27 Tryd.sizeOf27 rfl rfl (hm.blk_at 1 rfl)) ?_
      clear hf a; intro a hf
      refine st_y hf rfl rfl rfl (y_move rfl rfl) ?_
      clear hf a; intro a hf
      obtain ⟨r0_2, hx0_4, hq⟩ := bnd hq
      refine st_ef hf rfl rfl rfl (e_call hf rfl Tryd.call57 rfl (spec_l25Size_ok _ (⟨(((x0_1 % (128 : UInt8))).toNat : Int), 0, 0, 0, 0⟩ : Mins) (decide ((128 : UInt8) ≤ x0_1)) _ hx0_4)) ?_
      clear hf a; rintro v0_2 w0_6 a ho0_2 hf
      obtain ⟨rfl, hB⟩ := ho0_2
      replace hm := hm.below' hB; clear hB
      refine st_y hf rfl rfl rfl (y_assign rfl rfl) ?_
      clear hf a; intro a hf
      refine st_end ?_
      refine x_then_n ?_
      refine wp_seq ?_
      refine wp_seq ?_
      refine wp_region_lit ?_
      refine st_y hf rfl rfl rfl (y_move rfl rfl) ?_
      clear hf a; intro a hf
      refine st_y hf rfl rfl rfl (y_move rfl rfl) ?_
      clear hf a; intro a hf
      refine st_y hf rfl rfl rfl (y_addw rfl rfl rfl) ?_
      clear hf a; intro a hf
      refine st_y hf rfl rfl rfl (y_move rfl rfl) ?_
      clear hf a; intro a hf
      have hl0_1 := rep_len h1
      refine st_y hf rfl rfl rfl (y_len_slice st_24.und rfl rfl) ?_
      clear hf a; intro a hf
      refine st_y hf rfl rfl rfl (y_gtr rfl rfl rfl) ?_
      clear hf a; intro a hf
      refine st_end ?_
      refine x_then_n ?_
      rcases bcases (decide (((code.length : Int)) < (w64 (at_ + r0_2)))) with h0_3 | h0_3
      ·
        replace hq := (ite_t h0_3).symm.trans hq
        have h0_4 := of_decide_eq_true h0_3
        refine cond_t hf rfl h0_3 ?_
        refine wp_seq ?_
        refine wp_region_lit ?_
        refine st_y hf rfl rfl rfl (y_loadN (cs := [(.int .i64 ((((x0_1 % (128 : UInt8))).toNat : Int))), (.int .i64 (0)), (.int .i64 (0)), (.int .i64 (0)), (.int .i64 (0))]) Tryd.isAgg27 Tryd.sizeOf27 rfl rfl (hm.blk_at 1 rfl)) ?_
        clear hf a; intro a hf
        refine st_ef0 hf rfl rfl (e_storeN 0 hf hm rfl Tryd.sizeOf27 rfl rfl rfl (one_cons rfl (one_cons rfl (one_cons rfl (one_cons rfl (one_cons rfl one_nil))))) rfl rfl) ?_
        clear hf a; rintro _ w0_7 a hm hf
        refine st_y hf rfl rfl rfl (y_assign rfl rfl) ?_
        clear hf a; intro a hf
        refine st_y hf rfl rfl rfl (y_assign rfl rfl) ?_
        clear hf a; intro a hf
        refine st_end ?_
        refine x_then_n ?_
        refine wp_ret ?_
        refine x_then_ret ?_
        obtain rfl := Option.some.inj hq
        refine ret_cell_tmp2 0 hf Tryd.results59 hm rfl rfl Tryd.isAgg27 Tryd.sizeOf27 rfl rfl ?_
        exact ⟨rfl, hm.below⟩
      ·
        replace hq := (ite_f h0_3).symm.trans hq
        have h0_5 := of_decide_eq_false h0_3
        refine cond_f hf rfl h0_3 ?_
        refine wp_skip ?_
        refine x_then_n ?_
        refine wp_seq ?_
        obtain ⟨s0_2, hq0_2, hq⟩ := bnd hq
        refine code_cut (K := fun a w => 0 ≤ s0_2.2.2.1 ∧ s0_2.2.2.1 ≤ 255 ∧ Fr 204 [(4, (.pointer (some ⟨b0_1, 0, none⟩))), (8, (.pointer (some ⟨b0_3, 0, none⟩))), (9, (.int .i64 (r0_2)))] a ∧ Mem w0 (hp w0) w [blk b0_1 [(.int .i64 (0)), (.int .i64 (0)), (.int .i64 (0)), (.int .i64 (0)), (.int .i64 (0))] 27, blk b0_3 [(.int .i64 ((((x0_1 % (128 : UInt8))).toNat : Int))), (.int .i64 (s0_2.1)), (.int .i64 (s0_2.2.1)), (.int .i64 (s0_2.2.2.1)), (.int .i64 (s0_2.2.2.2))] 27]) ?_ ?_
        ·
          refine wp_block ?_
          refine wp_seq ?_
          refine wp_region_lit ?_
          refine st_y hf rfl rfl rfl (y_loadN (cs := [(.int .i64 ((((x0_1 % (128 : UInt8))).toNat : Int))), (.int .i64 (0)), (.int .i64 (0)), (.int .i64 (0)), (.int .i64 (0))]) Tryd.isAgg27 Tryd.sizeOf27 rfl rfl (hm.blk_at 1 rfl)) ?_
          clear hf a; intro a hf
          obtain ⟨r1_2, hx1_2, hq0_2⟩ := bnd hq0_2
          refine st_ef hf rfl rfl rfl (e_call hf rfl Tryd.call37 rfl (spec_l24Jumps_ok _ (⟨(((x0_1 % (128 : UInt8))).toNat : Int), 0, 0, 0, 0⟩ : Mins) _ hx1_2)) ?_
          clear hf a; rintro v1_2 w1_2 a ho1_2 hf
          obtain ⟨rfl, hB⟩ := ho1_2
          replace hm := hm.below' hB; clear hB
          refine st_y hf rfl rfl rfl (y_assign rfl rfl) ?_
          clear hf a; intro a hf
          refine st_end ?_
          refine x_then_n ?_
          obtain ⟨s1_1, hq1_1, hq0_2⟩ := bnd hq0_2
          refine code_cut (K := fun a w => 0 ≤ s1_1.2.2.1 ∧ s1_1.2.2.1 ≤ 255 ∧ Fr 204 [(4, (.pointer (some ⟨b0_1, 0, none⟩))), (8, (.pointer (some ⟨b0_3, 0, none⟩))), (9, (.int .i64 (r0_2)))] a ∧ Mem w0 (hp w0) w [blk b0_1 [(.int .i64 (0)), (.int .i64 (0)), (.int .i64 (0)), (.int .i64 (0)), (.int .i64 (0))] 27, blk b0_3 [(.int .i64 ((((x0_1 % (128 : UInt8))).toNat : Int))), (.int .i64 (s1_1.1)), (.int .i64 (s1_1.2.1)), (.int .i64 (s1_1.2.2.1)), (.int .i64 (s1_1.2.2.2))] 27]) ?_ ?_
          ·
            rcases bcases (r1_2) with h2_1 | h2_1
            ·
              replace hq1_1 := (ite_t h2_1).symm.trans hq1_1
              refine cond_t hf rfl h2_1 ?_
              refine wp_seq ?_
              refine wp_seq ?_
              refine wp_region_lit ?_
              refine st_y hf rfl rfl rfl (y_fieldAddr fo_27_0 rfl rfl) ?_
              clear hf a; intro a hf
              refine st_y hf rfl rfl rfl (y_load1 Tryd.isAgg3 rfl rfl (hm.blk_cell 1 rfl rfl)) ?_
              clear hf a; intro a hf
              refine st_y hf rfl rfl rfl (y_eql rfl rfl rfl) ?_
              clear hf a; intro a hf
              refine st_end ?_
              refine x_then_n ?_
              obtain ⟨s2_1, hq2_1, hq1_1⟩ := bnd hq1_1
              refine code_cut (K := fun a w => 0 ≤ s2_1 ∧ s2_1 ≤ 255 ∧ Fr 204 [(0, (.slice (some ⟨b0_2, o0_1, none⟩) code.length c0_1)), (1, (.int .i64 (at_))), (4, (.pointer (some ⟨b0_1, 0, none⟩))), (7, (.bool (decide ((128 : UInt8) ≤ x0_1)))), (8, (.pointer (some ⟨b0_3, 0, none⟩))), (9, (.int .i64 (r0_2)))] a ∧ Mem w0 (hp w0) w [blk b0_1 [(.int .i64 (0)), (.int .i64 (0)), (.int .i64 (0)), (.int .i64 (0)), (.int .i64 (0))] 27, blk b0_3 [(.int .i64 ((((x0_1 % (128 : UInt8))).toNat : Int))), (.int .i64 (s2_1)), (.int .i64 (0)), (.int .i64 (0)), (.int .i64 (0))] 27]) ?_ ?_
              ·
                rcases bcases (decide (((((x0_1 % (128 : UInt8))).toNat : Int)) = 21)) with h3_1 | h3_1
                ·
                  replace hq2_1 := (ite_t h3_1).symm.trans hq2_1
                  have h3_2 := of_decide_eq_true h3_1
                  refine cond_t hf rfl h3_1 ?_
                  refine wp_region_lit ?_
                  refine st_y hf rfl rfl rfl (y_move rfl rfl) ?_
                  clear hf a; intro a hf
                  refine st_y hf rfl rfl rfl (y_move rfl rfl) ?_
                  clear hf a; intro a hf
                  refine st_y hf rfl rfl rfl (y_addw rfl rfl rfl) ?_
                  clear hf a; intro a hf
                  obtain ⟨x3_1, hx3_1, hq2_1⟩ := bnd hq2_1
                  obtain ⟨h3_3, hx3_2⟩ := getI_some.1 hx3_1
                  refine st_y hf rfl rfl rfl (y_indexAddr st_24 rfl rfl rfl h3_3 (idx_lt hx3_2)) ?_
                  clear hf a; intro a hf
                  refine st_y hf rfl rfl rfl (y_load1 Tryd.isAgg5 rfl rfl ((flat_cells (cs := [(.int .u8 ((x3_1).toNat : Int))]) (hm.now h1) hx3_2 rfl).cell (j := 0) rfl)) ?_
                  clear hf a; intro a hf
                  refine st_y hf rfl rfl rfl (y_conv64 (b := x3_1) Tryd.underlying5 Tryd.underlying3 rfl rfl) ?_
                  clear hf a; intro a hf
                  have hu3_1 := UInt8.toNat_lt (x3_1)
                  refine st_y hf rfl rfl rfl (y_fieldAddr fo_27_1 rfl rfl) ?_
                  clear hf a; intro a hf
                  refine st_ef0 hf rfl rfl (e_store1 1 hf hm rfl Tryd.sizeOf3 rfl rfl rfl rfl rfl) ?_
                  clear hf a; rintro _ w3_1 a hm hf
                  refine st_end ?_
                  refine x_then_n ?_
                  obtain rfl := Option.some.inj hq2_1
                  exact ⟨(by first | omega | (dsimp only; omega)), (by first | omega | (dsimp only; omega)), hf.sub ⟨rfl, rfl, rfl, rfl, rfl, rfl, trivial⟩, hm.pick [0, 1] (by decide) rfl⟩
                ·
                  replace hq2_1 := (ite_f h3_1).symm.trans hq2_1
                  have h3_4 := of_decide_eq_false h3_1
                  refine cond_f hf rfl h3_1 ?_
                  refine wp_skip ?_
                  refine x_then_n ?_
                  obtain rfl := Option.some.inj hq2_1
                  exact ⟨(by first | omega | (dsimp only; omega)), (by first | omega | (dsimp only; omega)), hf.sub ⟨rfl, rfl, rfl, rfl, rfl, rfl, trivial⟩, hm.pick [0, 1] (by decide) rfl⟩
              ·
                clear hf hm
                rintro a w ⟨hn2_1, hn2_2, hf, hm⟩
                refine x_then_n ?_
                refine wp_seq ?_
                refine wp_region_lit ?_
                refine st_y hf rfl rfl rfl (y_move rfl rfl) ?_
                clear hf a; intro a hf
                refine st_end ?_
                refine x_then_n ?_
                obtain ⟨s2_2, hq2_2, hq1_1⟩ := bnd hq1_1
                refine code_cut (K := fun a w => Fr 204 [(4, (.pointer (some ⟨b0_1, 0, none⟩))), (8, (.pointer (some ⟨b0_3, 0, none⟩))), (9, (.int .i64 (r0_2)))] a ∧ Mem w0 (hp w0) w [blk b0_1 [(.int .i64 (0)), (.int .i64 (0)), (.int .i64 (0)), (.int .i64 (0)), (.int .i64 (0))] 27, blk b0_3 [(.int .i64 ((((x0_1 % (128 : UInt8))).toNat : Int))), (.int .i64 (s2_1)), (.int .i64 (0)), (.int .i64 (0)), (.int .i64 (s2_2))] 27]) ?_ ?_
                ·
                  rcases bcases (decide ((128 : UInt8) ≤ x0_1)) with h3_5 | h3_5
                  ·
                    replace hq2_2 := (ite_t h3_5).symm.trans hq2_2
                    have h3_6 := of_decide_eq_true h3_5
                    refine cond_t hf rfl h3_5 ?_
                    refine wp_tree (.p 0 (.p 1 (.p 2 (.p 3 (.p 4 (.p 5 (.p 8 (.p 9 (.p 10 (.p 11 (.p 12 (.p 13 (.q 6 (.p 7 (.e 14 (.p 15 (.p 16 (.p 17 (.p 18 (.e 19 .fin .nil))))) .nil))))))))))))))) [14] [0, 1, 2, 3, 4, 5, 7, 8, 9, 10, 11, 12, 13, 15, 16, 17, 18] (fun w => Mem w0 (hp w0) w [blk b0_1 [(.int .i64 (0)), (.int .i64 (0)), (.int .i64 (0)), (.int .i64 (0)), (.int .i64 (0))] 27, blk b0_3 [(.int .i64 ((((x0_1 % (128 : UInt8))).toNat : Int))), (.int .i64 (s2_1)), (.int .i64 (0)), (.int .i64 (0)), (.int .i64 (0))] 27]) (by kernel_rfl) (by kernel_rfl) (fun _ _ _ h => h.2) ?_
                    replace hm := hm.drew
                    have hS : Mem w0 (hp w0) _ [blk b0_1 [(.int .i64 (0)), (.int .i64 (0)), (.int .i64 (0)), (.int .i64 (0)), (.int .i64 (0))] 27, blk b0_3 [(.int .i64 ((((x0_1 % (128 : UInt8))).toNat : Int))), (.int .i64 (s2_1)), (.int .i64 (0)), (.int .i64 (0)), (.int .i64 (0))] 27] := hm.pick [0, 1] (by decide) rfl
                    refine td_p hf rfl rfl rfl rfl (fun w => y_move rfl rfl) ?_
                    clear hf a; intro a hf
                    refine td_p hf rfl rfl rfl rfl (fun w => y_move rfl rfl) ?_
                    clear hf a; intro a hf
                    refine td_p hf rfl rfl rfl rfl (fun w => y_move rfl rfl) ?_
                    clear hf a; intro a hf
                    refine td_p hf rfl rfl rfl rfl (fun w => y_addw rfl rfl rfl) ?_
                    clear hf a; intro a hf
                    refine td_p hf rfl rfl rfl rfl (fun w => y_subw rfl rfl rfl) ?_
                    clear hf a; intro a hf
                    obtain ⟨x3_2, hx3_3, hq2_2⟩ := bnd hq2_2
                    obtain ⟨h3_7, hx3_4⟩ := getI_some.1 hx3_3
                    refine td_p hf rfl rfl rfl rfl (fun w => y_indexAddr st_24 rfl rfl rfl h3_7 (idx_lt hx3_4)) ?_
                    clear hf a; intro a hf
                    refine td_p hf rfl rfl rfl rfl (fun w => y_move rfl rfl) ?_
                    clear hf a; intro a hf
                    refine td_p hf rfl rfl rfl rfl (fun w => y_move rfl rfl) ?_
                    clear hf a; intro a hf
                    refine td_p hf rfl rfl rfl rfl (fun w => y_move rfl rfl) ?_
                    clear hf a; intro a hf
                    refine td_p hf rfl rfl rfl rfl (fun w => y_addw rfl rfl rfl) ?_
                    clear hf a; intro a hf
                    refine td_p hf rfl rfl rfl rfl (fun w => y_subw rfl rfl rfl) ?_
                    clear hf a; intro a hf
                    obtain ⟨x3_3, hx3_5, hq2_2⟩ := bnd hq2_2
                    obtain ⟨h3_8, hx3_6⟩ := getI_some.1 hx3_5
                    refine td_p hf rfl rfl rfl rfl (fun w => y_indexAddr st_24 rfl rfl rfl h3_8 (idx_lt hx3_6)) ?_
                    clear hf a; intro a hf
                    refine td_y hf rfl rfl rfl rfl hS (fun w hm => y_load1 Tryd.isAgg5 rfl rfl ((flat_cells (cs := [(.int .u8 ((x3_2).toNat : Int))]) (hm.now h1) hx3_4 rfl).cell (j := 0) rfl)) ?_
                    clear hf a; intro a hf
                    refine td_p hf rfl rfl rfl rfl (fun w => y_conv64 (b := x3_2) Tryd.underlying5 Tryd.underlying3 rfl rfl) ?_
                    clear hf a; intro a hf
                    have hu3_2 := UInt8.toNat_lt (x3_2)
                    refine te_one ?_
                    refine td_ef hf rfl rfl rfl rfl (ef_y hf (y_load1 Tryd.isAgg5 rfl rfl ((flat_cells (cs := [(.int .u8 ((x3_3).toNat : Int))]) (hm.now h1) hx3_6 rfl).cell (j := 0) rfl))) ?_
                    clear hf a; rintro _ _ a ⟨rfl, rfl⟩ hf
                    refine ⟨fun _ => hS, ?_⟩
                    refine td_p hf rfl rfl rfl rfl (fun w => y_conv64 (b := x3_3) Tryd.underlying5 Tryd.underlying3 rfl rfl) ?_
                    clear hf a; intro a hf
                    have hu3_3 := UInt8.toNat_lt (x3_3)
                    refine td_p hf rfl rfl rfl rfl (fun w => y_mulw rfl rfl rfl) ?_
                    clear hf a; intro a hf
                    refine td_p hf rfl rfl rfl rfl (fun w => y_addw rfl rfl rfl) ?_
                    clear hf a; intro a hf
                    refine td_p hf rfl rfl rfl rfl (fun w => y_fieldAddr fo_27_4 rfl rfl) ?_
                    clear hf a; intro a hf
                    refine te_one ?_
                    refine td_ef0 hf rfl rfl rfl (e_store1 1 hf hm rfl Tryd.sizeOf3 rfl rfl rfl rfl rfl) ?_
                    clear hf a; rintro _ w3_2 a hm hf
                    refine ⟨fun h => absurd h (by decide), ?_⟩
                    clear hS; refine td_end ?_
                    refine x_then_n ?_
                    obtain rfl := Option.some.inj hq2_2
                    exact ⟨hf.sub ⟨rfl, rfl, rfl, trivial⟩, hm.pick [0, 1] (by decide) rfl⟩
                  ·
                    replace hq2_2 := (ite_f h3_5).symm.trans hq2_2
                    have h3_9 := of_decide_eq_false h3_5
                    refine cond_f hf rfl h3_5 ?_
                    refine wp_tree (.p 0 (.p 1 (.p 2 (.p 3 (.p 4 (.p 5 (.p 6 (.p 7 (.p 8 (.p 12 (.p 13 (.p 14 (.p 15 (.p 16 (.p 17 (.q 9 (.p 10 (.p 11 (.e 18 (.p 19 (.p 20 (.e 21 (.p 22 (.p 23 (.p 24 (.e 25 .fin .nil)))) .nil))) .nil))))))))))))))))))) [18, 21] [0, 1, 2, 3, 4, 5, 6, 7, 8, 10, 11, 12, 13, 14, 15, 16, 17, 19, 20, 22, 23, 24] (fun w => Mem w0 (hp w0) w [blk b0_1 [(.int .i64 (0)), (.int .i64 (0)), (.int .i64 (0)), (.int .i64 (0)), (.int .i64 (0))] 27, blk b0_3 [(.int .i64 ((((x0_1 % (128 : UInt8))).toNat : Int))), (.int .i64 (s2_1)), (.int .i64 (0)), (.int .i64 (0)), (.int .i64 (0))] 27]) (by kernel_rfl) (by kernel_rfl) (fun _ _ _ h => h.2) ?_
                    replace hm := hm.drew
                    have hS : Mem w0 (hp w0) _ [blk b0_1 [(.int .i64 (0)), (.int .i64 (0)), (.int .i64 (0)), (.int .i64 (0)), (.int .i64 (0))] 27, blk b0_3 [(.int .i64 ((((x0_1 % (128 : UInt8))).toNat : Int))), (.int .i64 (s2_1)), (.int .i64 (0)), (.int .i64 (0)), (.int .i64 (0))] 27] := hm.pick [0, 1] (by decide) rfl
                    refine td_p hf rfl rfl rfl rfl (fun w => y_move rfl rfl) ?_
                    clear hf a; intro a hf
                    refine td_p hf rfl rfl rfl rfl (fun w => y_move rfl rfl) ?_
                    clear hf a; intro a hf
                    refine td_p hf rfl rfl rfl rfl (fun w => y_addw rfl rfl rfl) ?_
                    clear hf a; intro a hf
                    refine td_p hf rfl rfl rfl rfl (fun w => y_move rfl rfl) ?_
                    clear hf a; intro a hf
                    refine td_p hf rfl rfl rfl rfl (fun w => y_move rfl rfl) ?_
                    clear hf a; intro a hf
                    refine td_p hf rfl rfl rfl rfl (fun w => y_move rfl rfl) ?_
                    clear hf a; intro a hf
                    refine td_p hf rfl rfl rfl rfl (fun w => y_addw rfl rfl rfl) ?_
                    clear hf a; intro a hf
                    refine td_p hf rfl rfl rfl rfl (fun w => y_subw rfl rfl rfl) ?_
                    clear hf a; intro a hf
                    obtain ⟨x3_4, hx3_7, hq2_2⟩ := bnd hq2_2
                    obtain ⟨h3_10, hx3_8⟩ := getI_some.1 hx3_7
                    refine td_p hf rfl rfl rfl rfl (fun w => y_indexAddr st_24 rfl rfl rfl h3_10 (idx_lt hx3_8)) ?_
                    clear hf a; intro a hf
                    refine td_p hf rfl rfl rfl rfl (fun w => y_move rfl rfl) ?_
                    clear hf a; intro a hf
                    refine td_p hf rfl rfl rfl rfl (fun w => y_move rfl rfl) ?_
                    clear hf a; intro a hf
                    refine td_p hf rfl rfl rfl rfl (fun w => y_move rfl rfl) ?_
                    clear hf a; intro a hf
                    refine td_p hf rfl rfl rfl rfl (fun w => y_addw rfl rfl rfl) ?_
                    clear hf a; intro a hf
                    refine td_p hf rfl rfl rfl rfl (fun w => y_subw rfl rfl rfl) ?_
                    clear hf a; intro a hf
                    refine td_p hf rfl rfl rfl rfl (fun w => y_indexAddr st_24 rfl rfl rfl h3_10 (idx_lt hx3_8)) ?_
                    clear hf a; intro a hf
                    refine td_y hf rfl rfl rfl rfl hS (fun w hm => y_load1 Tryd.isAgg5 rfl rfl ((flat_cells (cs := [(.int .u8 ((x3_4).toNat : Int))]) (hm.now h1) hx3_8 rfl).cell (j := 0) rfl)) ?_
                    clear hf a; intro a hf
                    refine td_p hf rfl rfl rfl rfl (fun w => y_conv64 (b := x3_4) Tryd.underlying5 Tryd.underlying3 rfl rfl) ?_
                    clear hf a; intro a hf
                    have hu3_4 := UInt8.toNat_lt (x3_4)
                    refine td_p hf rfl rfl rfl rfl (fun w => y_addw rfl rfl rfl) ?_
                    clear hf a; intro a hf
                    refine te_one ?_
                    refine td_ef hf rfl rfl rfl rfl (ef_y hf (y_load1 Tryd.isAgg5 rfl rfl ((flat_cells (cs := [(.int .u8 ((x3_4).toNat : Int))]) (hm.now h1) hx3_8 rfl).cell (j := 0) rfl))) ?_
                    clear hf a; rintro _ _ a ⟨rfl, rfl⟩ hf
                    refine ⟨fun _ => hS, ?_⟩
                    refine td_p hf rfl rfl rfl rfl (fun w => y_conv64 (b := x3_4) Tryd.underlying5 Tryd.underlying3 rfl rfl) ?_
                    clear hf a; intro a hf
                    have hu3_5 := UInt8.toNat_lt (x3_4)
                    refine td_p hf rfl rfl rfl rfl (fun w => y_gtr rfl rfl rfl) ?_
                    clear hf a; intro a hf
                    refine te_one ?_
                    obtain ⟨r3_1, hx3_9, hq2_2⟩ := bnd hq2_2
                    refine td_ef hf rfl rfl rfl rfl (e_call hf rfl Tryd.call58 rfl (spec_l5Truth_ok _ (decide (127 < (((x3_4).toNat : Int)))) _ hx3_9)) ?_
                    clear hf a; rintro v3_1 w3_3 a ho3_1 hf
                    obtain ⟨rfl, hB⟩ := ho3_1
                    replace hm := hm.below' hB; clear hB
                    clear hS
                    have hS : Mem w0 (hp w0) _ [blk b0_1 [(.int .i64 (0)), (.int .i64 (0)), (.int .i64 (0)), (.int .i64 (0)), (.int .i64 (0))] 27, blk b0_3 [(.int .i64 ((((x0_1 % (128 : UInt8))).toNat : Int))), (.int .i64 (s2_1)), (.int .i64 (0)), (.int .i64 (0)), (.int .i64 (0))] 27] := hm.pick [0, 1] (by decide) rfl
                    refine ⟨fun _ => hS, ?_⟩
                    refine td_p hf rfl rfl rfl rfl (fun w => y_mulw rfl rfl rfl) ?_
                    clear hf a; intro a hf
                    refine td_p hf rfl rfl rfl rfl (fun w => y_subw rfl rfl rfl) ?_
                    clear hf a; intro a hf
                    refine td_p hf rfl rfl rfl rfl (fun w => y_fieldAddr fo_27_4 rfl rfl) ?_
                    clear hf a; intro a hf
                    refine te_one ?_
                    refine td_ef0 hf rfl rfl rfl (e_store1 1 hf hm rfl Tryd.sizeOf3 rfl rfl rfl rfl rfl) ?_
                    clear hf a; rintro _ w3_4 a hm hf
                    refine ⟨fun h => absurd h (by decide), ?_⟩
                    clear hS; refine td_end ?_
                    refine x_then_n ?_
                    obtain rfl := Option.some.inj hq2_2
                    exact ⟨hf.sub ⟨rfl, rfl, rfl, trivial⟩, hm.pick [0, 1] (by decide) rfl⟩
                ·
                  clear hf hm
                  rintro a w ⟨hf, hm⟩
                  refine x_then_n ?_
                  obtain rfl := Option.some.inj hq1_1
                  exact ⟨(by first | omega | (dsimp only; omega)), (by first | omega | (dsimp only; omega)), hf.sub ⟨rfl, rfl, rfl, trivial⟩, hm.pick [0, 1] (by decide) rfl⟩
            ·
              replace hq1_1 := (ite_f h2_1).symm.trans hq1_1
              refine cond_f hf rfl h2_1 ?_
              refine wp_seq ?_
              obtain ⟨s2_3, hq2_3, hq1_1⟩ := bnd hq1_1
              refine code_cut (K := fun a w => Fr 204 [(0, (.slice (some ⟨b0_2, o0_1, none⟩) code.length c0_1)), (1, (.int .i64 (at_))), (4, (.pointer (some ⟨b0_1, 0, none⟩))), (8, (.pointer (some ⟨b0_3, 0, none⟩))), (9, (.int .i64 (r0_2))), (116, (.bool (s2_3)))] a ∧ Mem w0 (hp w0) w [blk b0_1 [(.int .i64 (0)), (.int .i64 (0)), (.int .i64 (0)), (.int .i64 (0)), (.int .i64 (0))] 27, blk b0_3 [(.int .i64 ((((x0_1 % (128 : UInt8))).toNat : Int))), (.int .i64 (0)), (.int .i64 (0)), (.int .i64 (0)), (.int .i64 (0))] 27]) ?_ ?_
              ·
                refine wp_region_lit ?_
                refine st_y hf rfl rfl rfl (y_fieldAddr fo_27_0 rfl rfl) ?_
                clear hf a; intro a hf
                refine st_y hf rfl rfl rfl (y_load1 Tryd.isAgg3 rfl rfl (hm.blk_cell 1 rfl rfl)) ?_
                clear hf a; intro a hf
                refine st_y hf rfl rfl rfl (y_eql rfl rfl rfl) ?_
                clear hf a; intro a hf
                refine st_y hf rfl rfl rfl (y_move rfl rfl) ?_
                clear hf a; intro a hf
                rcases bcases (decide (((((x0_1 % (128 : UInt8))).toNat : Int)) = 1)) with h3_11 | h3_11
                ·
                  replace hq2_3 := (ite_t h3_11).symm.trans hq2_3
                  have h3_12 := of_decide_eq_true h3_11
                  refine st_no hf rfl rfl (lk_b rfl h3_11) rfl rfl rfl ?_
                  clear hf a; intro a hf
                  refine st_no hf rfl rfl (lk_b rfl h3_11) rfl rfl rfl ?_
                  clear hf a; intro a hf
                  refine st_no hf rfl rfl (lk_b rfl h3_11) rfl rfl rfl ?_
                  clear hf a; intro a hf
                  refine st_y hf rfl rfl rfl (y_pick_t rfl (ev_b rfl h3_11) rfl) ?_
                  clear hf a; intro a hf
                  refine st_y hf rfl rfl rfl (y_assign rfl rfl) ?_
                  clear hf a; intro a hf
                  refine st_end ?_
                  refine x_then_n ?_
                  obtain rfl := Option.some.inj hq2_3
                  exact ⟨hf.sub ⟨rfl, rfl, rfl, rfl, rfl, rfl, trivial⟩, hm.pick [0, 1] (by decide) rfl⟩
                ·
                  replace hq2_3 := (ite_f h3_11).symm.trans hq2_3
                  have h3_13 := of_decide_eq_false h3_11
                  refine st_yg hf rfl rfl (lk_b rfl h3_11) rfl rfl (y_fieldAddr fo_27_0 rfl rfl) ?_
                  clear hf a; intro a hf
                  refine st_yg hf rfl rfl (lk_b rfl h3_11) rfl rfl (y_load1 Tryd.isAgg3 rfl rfl (hm.blk_cell 1 rfl rfl)) ?_
                  clear hf a; intro a hf
                  obtain ⟨r3_2, hx3_10, hq2_3⟩ := bnd hq2_3
                  refine st_efg hf rfl rfl (lk_b rfl h3_11) rfl rfl (e_call hf rfl Tryd.call39 rfl (spec_l1In_ok _ (((x0_1 % (128 : UInt8))).toNat : Int) 15 18 _ hx3_10)) ?_
                  clear hf a; rintro v3_2 w3_5 a ho3_2 hf
                  obtain ⟨rfl, hB⟩ := ho3_2
                  replace hm := hm.below' hB; clear hB
                  refine st_y hf rfl rfl rfl (y_pick_f rfl (ev_b rfl h3_11) rfl) ?_
                  clear hf a; intro a hf
                  refine st_y hf rfl rfl rfl (y_assign rfl rfl) ?_
                  clear hf a; intro a hf
                  refine st_end ?_
                  refine x_then_n ?_
                  obtain rfl := Option.some.inj hq2_3
                  exact ⟨hf.sub ⟨rfl, rfl, rfl, rfl, rfl, rfl, trivial⟩, hm.pick [0, 1] (by decide) rfl⟩
              ·
                clear hf hm
                rintro a w ⟨hf, hm⟩
                refine x_then_n ?_
                obtain ⟨s2_4, hq2_4, hq1_1⟩ := bnd hq1_1
                refine code_cut (K := fun a w => 0 ≤ s2_4.2.2.1 ∧ s2_4.2.2.1 ≤ 255 ∧ 0 ≤ s2_4.2.2.2 ∧ s2_4.2.2.2 ≤ 255 ∧ Fr 204 [(4, (.pointer (some ⟨b0_1, 0, none⟩))), (8, (.pointer (some ⟨b0_3, 0, none⟩))), (9, (.int .i64 (r0_2)))] a ∧ Mem w0 (hp w0) w [blk b0_1 [(.int .i64 (0)), (.int .i64 (0)), (.int .i64 (0)), (.int .i64 (0)), (.int .i64 (0))] 27, blk b0_3 [(.int .i64 ((((x0_1 % (128 : UInt8))).toNat : Int))), (.int .i64 (s2_4.1)), (.int .i64 (s2_4.2.1)), (.int .i64 (s2_4.2.2.1)), (.int .i64 (s2_4.2.2.2))] 27]) ?_ ?_
                ·
                  rcases bcases (s2_3) with h3_14 | h3_14
                  ·
                    replace hq2_4 := (ite_t h3_14).symm.trans hq2_4
                    refine cond_t hf rfl h3_14 ?_
                    refine wp_seq ?_
                    refine wp_region_lit ?_
                    refine st_y hf rfl rfl rfl (y_move rfl rfl) ?_
                    clear hf a; intro a hf
                    refine st_y hf rfl rfl rfl (y_move rfl rfl) ?_
                    clear hf a; intro a hf
                    refine st_y hf rfl rfl rfl (y_addw rfl rfl rfl) ?_
                    clear hf a; intro a hf
                    obtain ⟨x3_5, hx3_11, hq2_4⟩ := bnd hq2_4
                    obtain ⟨h3_15, hx3_12⟩ := getI_some.1 hx3_11
                    refine st_y hf rfl rfl rfl (y_indexAddr st_24 rfl rfl rfl h3_15 (idx_lt hx3_12)) ?_
                    clear hf a; intro a hf
                    refine st_y hf rfl rfl rfl (y_load1 Tryd.isAgg5 rfl rfl ((flat_cells (cs := [(.int .u8 ((x3_5).toNat : Int))]) (hm.now h1) hx3_12 rfl).cell (j := 0) rfl)) ?_
                    clear hf a; intro a hf
                    refine st_y hf rfl rfl rfl (y_conv64 (b := x3_5) Tryd.underlying5 Tryd.underlying3 rfl rfl) ?_
                    clear hf a; intro a hf
                    have hu3_6 := UInt8.toNat_lt (x3_5)
                    refine st_y hf rfl rfl rfl (y_fieldAddr fo_27_1 rfl rfl) ?_
                    clear hf a; intro a hf
                    refine st_ef0 hf rfl rfl (e_store1 1 hf hm rfl Tryd.sizeOf3 rfl rfl rfl rfl rfl) ?_
                    clear hf a; rintro _ w3_6 a hm hf
                    refine st_end ?_
                    refine x_then_n ?_
                    refine wp_region_lit ?_
                    refine st_y hf rfl rfl rfl (y_move rfl rfl) ?_
                    clear hf a; intro a hf
                    refine st_y hf rfl rfl rfl (y_move rfl rfl) ?_
                    clear hf a; intro a hf
                    refine st_y hf rfl rfl rfl (y_addw rfl rfl rfl) ?_
                    clear hf a; intro a hf
                    obtain ⟨x3_6, hx3_13, hq2_4⟩ := bnd hq2_4
                    obtain ⟨h3_16, hx3_14⟩ := getI_some.1 hx3_13
                    refine st_y hf rfl rfl rfl (y_indexAddr st_24 rfl rfl rfl h3_16 (idx_lt hx3_14)) ?_
                    clear hf a; intro a hf
                    refine st_y hf rfl rfl rfl (y_load1 Tryd.isAgg5 rfl rfl ((flat_cells (cs := [(.int .u8 ((x3_6).toNat : Int))]) (hm.now h1) hx3_14 rfl).cell (j := 0) rfl)) ?_
                    clear hf a; intro a hf
                    refine st_y hf rfl rfl rfl (y_conv64 (b := x3_6) Tryd.underlying5 Tryd.underlying3 rfl rfl) ?_
                    clear hf a; intro a hf
                    have hu3_7 := UInt8.toNat_lt (x3_6)
                    refine st_y hf rfl rfl rfl (y_fieldAddr fo_27_4 rfl rfl) ?_
                    clear hf a; intro a hf
                    refine st_ef0 hf rfl rfl (e_store1 1 hf hm rfl Tryd.sizeOf3 rfl rfl rfl rfl rfl) ?_
                    clear hf a; rintro _ w3_7 a hm hf
                    refine st_end ?_
                    refine x_then_n ?_
                    obtain rfl := Option.some.inj hq2_4
                    exact ⟨(by first | omega | (dsimp only; omega)), (by first | omega | (dsimp only; omega)), (by first | omega | (dsimp only; omega)), (by first | omega | (dsimp only; omega)), hf.sub ⟨rfl, rfl, rfl, trivial⟩, hm.pick [0, 1] (by decide) rfl⟩
                  ·
                    replace hq2_4 := (ite_f h3_14).symm.trans hq2_4
                    refine cond_f hf rfl h3_14 ?_
                    refine wp_seq ?_
                    refine wp_region_lit ?_
                    refine st_y hf rfl rfl rfl (y_fieldAddr fo_27_0 rfl rfl) ?_
                    clear hf a; intro a hf
                    refine st_y hf rfl rfl rfl (y_load1 Tryd.isAgg3 rfl rfl (hm.blk_cell 1 rfl rfl)) ?_
                    clear hf a; intro a hf
                    obtain ⟨r3_3, hx3_15, hq2_4⟩ := bnd hq2_4
                    refine st_ef hf rfl rfl rfl (e_call hf rfl Tryd.call39 rfl (spec_l1In_ok _ (((x0_1 % (128 : UInt8))).toNat : Int) 3 9 _ hx3_15)) ?_
                    clear hf a; rintro v3_3 w3_8 a ho3_3 hf
                    obtain ⟨rfl, hB⟩ := ho3_3
                    replace hm := hm.below' hB; clear hB
                    refine st_y hf rfl rfl rfl (y_assign rfl rfl) ?_
                    clear hf a; intro a hf
                    refine st_end ?_
                    refine x_then_n ?_
                    obtain ⟨s3_1, hq3_1, hq2_4⟩ := bnd hq2_4
                    refine code_cut (K := fun a w => 0 ≤ s3_1.2.2.1 ∧ s3_1.2.2.1 ≤ 255 ∧ 0 ≤ s3_1.2.2.2 ∧ s3_1.2.2.2 ≤ 255 ∧ Fr 204 [(4, (.pointer (some ⟨b0_1, 0, none⟩))), (8, (.pointer (some ⟨b0_3, 0, none⟩))), (9, (.int .i64 (r0_2)))] a ∧ Mem w0 (hp w0) w [blk b0_1 [(.int .i64 (0)), (.int .i64 (0)), (.int .i64 (0)), (.int .i64 (0)), (.int .i64 (0))] 27, blk b0_3 [(.int .i64 ((((x0_1 % (128 : UInt8))).toNat : Int))), (.int .i64 (s3_1.1)), (.int .i64 (s3_1.2.1)), (.int .i64 (s3_1.2.2.1)), (.int .i64 (s3_1.2.2.2))] 27]) ?_ ?_
                    ·
                      rcases bcases (r3_3) with h4_1 | h4_1
                      ·
                        replace hq3_1 := (ite_t h4_1).symm.trans hq3_1
                        refine cond_t hf rfl h4_1 ?_
                        refine wp_seq ?_
                        refine wp_region_lit ?_
                        refine st_y hf rfl rfl rfl (y_move rfl rfl) ?_
                        clear hf a; intro a hf
                        refine st_y hf rfl rfl rfl (y_move rfl rfl) ?_
                        clear hf a; intro a hf
                        refine st_y hf rfl rfl rfl (y_addw rfl rfl rfl) ?_
                        clear hf a; intro a hf
                        obtain ⟨x4_1, hx4_1, hq3_1⟩ := bnd hq3_1
                        obtain ⟨h4_2, hx4_2⟩ := getI_some.1 hx4_1
                        refine st_y hf rfl rfl rfl (y_indexAddr st_24 rfl rfl rfl h4_2 (idx_lt hx4_2)) ?_
                        clear hf a; intro a hf
                        refine st_y hf rfl rfl rfl (y_load1 Tryd.isAgg5 rfl rfl ((flat_cells (cs := [(.int .u8 ((x4_1).toNat : Int))]) (hm.now h1) hx4_2 rfl).cell (j := 0) rfl)) ?_
                        clear hf a; intro a hf
                        refine st_y hf rfl rfl rfl (y_conv64 (b := x4_1) Tryd.underlying5 Tryd.underlying3 rfl rfl) ?_
                        clear hf a; intro a hf
                        have hu4_1 := UInt8.toNat_lt (x4_1)
                        refine st_y hf rfl rfl rfl (y_rem rfl rfl rfl (by decide)) ?_
                        clear hf a; intro a hf
                        refine st_y hf rfl rfl rfl (y_fieldAddr fo_27_1 rfl rfl) ?_
                        clear hf a; intro a hf
                        refine st_ef0 hf rfl rfl (e_store1 1 hf hm rfl Tryd.sizeOf3 rfl rfl rfl rfl rfl) ?_
                        clear hf a; rintro _ w4_1 a hm hf
                        refine st_end ?_
                        refine x_then_n ?_
                        refine wp_seq ?_
                        refine wp_region_lit ?_
                        refine st_y hf rfl rfl rfl (y_move rfl rfl) ?_
                        clear hf a; intro a hf
                        refine st_y hf rfl rfl rfl (y_move rfl rfl) ?_
                        clear hf a; intro a hf
                        refine st_y hf rfl rfl rfl (y_addw rfl rfl rfl) ?_
                        clear hf a; intro a hf
                        refine st_y hf rfl rfl rfl (y_indexAddr st_24 rfl rfl rfl h4_2 (idx_lt hx4_2)) ?_
                        clear hf a; intro a hf
                        refine st_y hf rfl rfl rfl (y_load1 Tryd.isAgg5 rfl rfl ((flat_cells (cs := [(.int .u8 ((x4_1).toNat : Int))]) (hm.now h1) hx4_2 rfl).cell (j := 0) rfl)) ?_
                        clear hf a; intro a hf
                        refine st_y hf rfl rfl rfl (y_conv64 (b := x4_1) Tryd.underlying5 Tryd.underlying3 rfl rfl) ?_
                        clear hf a; intro a hf
                        have hu4_2 := UInt8.toNat_lt (x4_1)
                        refine st_y hf rfl rfl rfl (y_quo rfl rfl rfl (by decide)) ?_
                        clear hf a; intro a hf
                        refine st_y hf rfl rfl rfl (y_fieldAddr fo_27_2 rfl rfl) ?_
                        clear hf a; intro a hf
                        refine st_ef0 hf rfl rfl (e_store1 1 hf hm rfl Tryd.sizeOf3 rfl rfl rfl rfl rfl) ?_
                        clear hf a; rintro _ w4_2 a hm hf
                        refine st_end ?_
                        refine x_then_n ?_
                        refine wp_region_lit ?_
                        refine st_y hf rfl rfl rfl (y_move rfl rfl) ?_
                        clear hf a; intro a hf
                        refine st_y hf rfl rfl rfl (y_move rfl rfl) ?_
                        clear hf a; intro a hf
                        refine st_y hf rfl rfl rfl (y_addw rfl rfl rfl) ?_
                        clear hf a; intro a hf
                        obtain ⟨x4_2, hx4_3, hq3_1⟩ := bnd hq3_1
                        obtain ⟨h4_3, hx4_4⟩ := getI_some.1 hx4_3
                        refine st_y hf rfl rfl rfl (y_indexAddr st_24 rfl rfl rfl h4_3 (idx_lt hx4_4)) ?_
                        clear hf a; intro a hf
                        refine st_y hf rfl rfl rfl (y_load1 Tryd.isAgg5 rfl rfl ((flat_cells (cs := [(.int .u8 ((x4_2).toNat : Int))]) (hm.now h1) hx4_4 rfl).cell (j := 0) rfl)) ?_
                        clear hf a; intro a hf
                        refine st_y hf rfl rfl rfl (y_conv64 (b := x4_2) Tryd.underlying5 Tryd.underlying3 rfl rfl) ?_
                        clear hf a; intro a hf
                        have hu4_3 := UInt8.toNat_lt (x4_2)
                        refine st_y hf rfl rfl rfl (y_fieldAddr fo_27_3 rfl rfl) ?_
                        clear hf a; intro a hf
                        refine st_ef0 hf rfl rfl (e_store1 1 hf hm rfl Tryd.sizeOf3 rfl rfl rfl rfl rfl) ?_
                        clear hf a; rintro _ w4_3 a hm hf
                        refine st_end ?_
                        refine x_then_n ?_
                        obtain rfl := Option.some.inj hq3_1
                        exact ⟨(by first | omega | (dsimp only; omega)), (by first | omega | (dsimp only; omega)), (by first | omega | (dsimp only; omega)), (by first | omega | (dsimp only; omega)), hf.sub ⟨rfl, rfl, rfl, trivial⟩, hm.pick [0, 1] (by decide) rfl⟩
                      ·
                        replace hq3_1 := (ite_f h4_1).symm.trans hq3_1
                        refine cond_f hf rfl h4_1 ?_
                        refine wp_seq ?_
                        obtain ⟨s4_1, hq4_1, hq3_1⟩ := bnd hq3_1
                        refine code_cut (K := fun a w => Fr 204 [(0, (.slice (some ⟨b0_2, o0_1, none⟩) code.length c0_1)), (1, (.int .i64 (at_))), (4, (.pointer (some ⟨b0_1, 0, none⟩))), (8, (.pointer (some ⟨b0_3, 0, none⟩))), (9, (.int .i64 (r0_2))), (166, (.bool (s4_1)))] a ∧ Mem w0 (hp w0) w [blk b0_1 [(.int .i64 (0)), (.int .i64 (0)), (.int .i64 (0)), (.int .i64 (0)), (.int .i64 (0))] 27, blk b0_3 [(.int .i64 ((((x0_1 % (128 : UInt8))).toNat : Int))), (.int .i64 (0)), (.int .i64 (0)), (.int .i64 (0)), (.int .i64 (0))] 27]) ?_ ?_
                        ·
                          refine wp_region_lit ?_
                          refine st_y hf rfl rfl rfl (y_fieldAddr fo_27_0 rfl rfl) ?_
                          clear hf a; intro a hf
                          refine st_y hf rfl rfl rfl (y_load1 Tryd.isAgg3 rfl rfl (hm.blk_cell 1 rfl rfl)) ?_
                          clear hf a; intro a hf
                          refine st_y hf rfl rfl rfl (y_eql rfl rfl rfl) ?_
                          clear hf a; intro a hf
                          refine st_y hf rfl rfl rfl (y_move rfl rfl) ?_
                          clear hf a; intro a hf
                          rcases bcases (decide (((((x0_1 % (128 : UInt8))).toNat : Int)) = 2)) with h5_1 | h5_1
                          ·
                            replace hq4_1 := (ite_t h5_1).symm.trans hq4_1
                            have h5_2 := of_decide_eq_true h5_1
                            refine st_no hf rfl rfl (lk_b rfl h5_1) rfl rfl rfl ?_
                            clear hf a; intro a hf
                            refine st_no hf rfl rfl (lk_b rfl h5_1) rfl rfl rfl ?_
                            clear hf a; intro a hf
                            refine st_no hf rfl rfl (lk_b rfl h5_1) rfl rfl rfl ?_
                            clear hf a; intro a hf
                            refine st_y hf rfl rfl rfl (y_pick_t rfl (ev_b rfl h5_1) rfl) ?_
                            clear hf a; intro a hf
                            refine st_y hf rfl rfl rfl (y_assign rfl rfl) ?_
                            clear hf a; intro a hf
                            refine st_end ?_
                            refine x_then_n ?_
                            obtain rfl := Option.some.inj hq4_1
                            exact ⟨hf.sub ⟨rfl, rfl, rfl, rfl, rfl, rfl, trivial⟩, hm.pick [0, 1] (by decide) rfl⟩
                          ·
                            replace hq4_1 := (ite_f h5_1).symm.trans hq4_1
                            have h5_3 := of_decide_eq_false h5_1
                            refine st_yg hf rfl rfl (lk_b rfl h5_1) rfl rfl (y_fieldAddr fo_27_0 rfl rfl) ?_
                            clear hf a; intro a hf
                            refine st_yg hf rfl rfl (lk_b rfl h5_1) rfl rfl (y_load1 Tryd.isAgg3 rfl rfl (hm.blk_cell 1 rfl rfl)) ?_
                            clear hf a; intro a hf
                            obtain ⟨r5_1, hx5_1, hq4_1⟩ := bnd hq4_1
                            refine st_efg hf rfl rfl (lk_b rfl h5_1) rfl rfl (e_call hf rfl Tryd.call39 rfl (spec_l1In_ok _ (((x0_1 % (128 : UInt8))).toNat : Int) 10 12 _ hx5_1)) ?_
                            clear hf a; rintro v5_1 w5_1 a ho5_1 hf
                            obtain ⟨rfl, hB⟩ := ho5_1
                            replace hm := hm.below' hB; clear hB
                            refine st_y hf rfl rfl rfl (y_pick_f rfl (ev_b rfl h5_1) rfl) ?_
                            clear hf a; intro a hf
                            refine st_y hf rfl rfl rfl (y_assign rfl rfl) ?_
                            clear hf a; intro a hf
                            refine st_end ?_
                            refine x_then_n ?_
                            obtain rfl := Option.some.inj hq4_1
                            exact ⟨hf.sub ⟨rfl, rfl, rfl, rfl, rfl, rfl, trivial⟩, hm.pick [0, 1] (by decide) rfl⟩
                        ·
                          clear hf hm
                          rintro a w ⟨hf, hm⟩
                          refine x_then_n ?_
                          obtain ⟨s4_2, hq4_2, hq3_1⟩ := bnd hq3_1
                          refine code_cut (K := fun a w => 0 ≤ s4_2.2.2 ∧ s4_2.2.2 ≤ 255 ∧ Fr 204 [(4, (.pointer (some ⟨b0_1, 0, none⟩))), (8, (.pointer (some ⟨b0_3, 0, none⟩))), (9, (.int .i64 (r0_2)))] a ∧ Mem w0 (hp w0) w [blk b0_1 [(.int .i64 (0)), (.int .i64 (0)), (.int .i64 (0)), (.int .i64 (0)), (.int .i64 (0))] 27, blk b0_3 [(.int .i64 ((((x0_1 % (128 : UInt8))).toNat : Int))), (.int .i64 (s4_2.1)), (.int .i64 (s4_2.2.1)), (.int .i64 (0)), (.int .i64 (s4_2.2.2))] 27]) ?_ ?_
                          ·
                            rcases bcases (s4_1) with h5_4 | h5_4
                            ·
                              replace hq4_2 := (ite_t h5_4).symm.trans hq4_2
                              refine cond_t hf rfl h5_4 ?_
                              refine wp_seq ?_
                              refine wp_region_lit ?_
                              refine st_y hf rfl rfl rfl (y_move rfl rfl) ?_
                              clear hf a; intro a hf
                              refine st_y hf rfl rfl rfl (y_move rfl rfl) ?_
                              clear hf a; intro a hf
                              refine st_y hf rfl rfl rfl (y_addw rfl rfl rfl) ?_
                              clear hf a; intro a hf
                              obtain ⟨x5_1, hx5_2, hq4_2⟩ := bnd hq4_2
                              obtain ⟨h5_5, hx5_3⟩ := getI_some.1 hx5_2
                              refine st_y hf rfl rfl rfl (y_indexAddr st_24 rfl rfl rfl h5_5 (idx_lt hx5_3)) ?_
                              clear hf a; intro a hf
                              refine st_y hf rfl rfl rfl (y_load1 Tryd.isAgg5 rfl rfl ((flat_cells (cs := [(.int .u8 ((x5_1).toNat : Int))]) (hm.now h1) hx5_3 rfl).cell (j := 0) rfl)) ?_
                              clear hf a; intro a hf
                              refine st_y hf rfl rfl rfl (y_conv64 (b := x5_1) Tryd.underlying5 Tryd.underlying3 rfl rfl) ?_
                              clear hf a; intro a hf
                              have hu5_1 := UInt8.toNat_lt (x5_1)
                              refine st_y hf rfl rfl rfl (y_rem rfl rfl rfl (by decide)) ?_
                              clear hf a; intro a hf
                              refine st_y hf rfl rfl rfl (y_fieldAddr fo_27_1 rfl rfl) ?_
                              clear hf a; intro a hf
                              refine st_ef0 hf rfl rfl (e_store1 1 hf hm rfl Tryd.sizeOf3 rfl rfl rfl rfl rfl) ?_
                              clear hf a; rintro _ w5_2 a hm hf
                              refine st_end ?_
                              refine x_then_n ?_
                              refine wp_region_lit ?_
                              refine st_y hf rfl rfl rfl (y_move rfl rfl) ?_
                              clear hf a; intro a hf
                              refine st_y hf rfl rfl rfl (y_move rfl rfl) ?_
                              clear hf a; intro a hf
                              refine st_y hf rfl rfl rfl (y_addw rfl rfl rfl) ?_
                              clear hf a; intro a hf
                              refine st_y hf rfl rfl rfl (y_indexAddr st_24 rfl rfl rfl h5_5 (idx_lt hx5_3)) ?_
                              clear hf a; intro a hf
                              refine st_y hf rfl rfl rfl (y_load1 Tryd.isAgg5 rfl rfl ((flat_cells (cs := [(.int .u8 ((x5_1).toNat : Int))]) (hm.now h1) hx5_3 rfl).cell (j := 0) rfl)) ?_
                              clear hf a; intro a hf
                              refine st_y hf rfl rfl rfl (y_conv64 (b := x5_1) Tryd.underlying5 Tryd.underlying3 rfl rfl) ?_
                              clear hf a; intro a hf
                              have hu5_2 := UInt8.toNat_lt (x5_1)
                              refine st_y hf rfl rfl rfl (y_quo rfl rfl rfl (by decide)) ?_
                              clear hf a; intro a hf
                              refine st_y hf rfl rfl rfl (y_fieldAddr fo_27_2 rfl rfl) ?_
                              clear hf a; intro a hf
                              refine st_ef0 hf rfl rfl (e_store1 1 hf hm rfl Tryd.sizeOf3 rfl rfl rfl rfl rfl) ?_
                              clear hf a; rintro _ w5_3 a hm hf
                              refine st_end ?_
                              refine x_then_n ?_
                              obtain rfl := Option.some.inj hq4_2
                              exact ⟨(by first | omega | (dsimp only; omega)), (by first | omega | (dsimp only; omega)), hf.sub ⟨rfl, rfl, rfl, trivial⟩, hm.pick [0, 1] (by decide) rfl⟩
                            ·
                              replace hq4_2 := (ite_f h5_4).symm.trans hq4_2
                              refine cond_f hf rfl h5_4 ?_
                              refine wp_seq ?_
                              refine wp_region_lit ?_
                              refine st_y hf rfl rfl rfl (y_fieldAddr fo_27_0 rfl rfl) ?_
                              clear hf a; intro a hf
                              refine st_y hf rfl rfl rfl (y_load1 Tryd.isAgg3 rfl rfl (hm.blk_cell 1 rfl rfl)) ?_
                              clear hf a; intro a hf
                              refine st_y hf rfl rfl rfl (y_eql rfl rfl rfl) ?_
                              clear hf a; intro a hf
                              refine st_y hf rfl rfl rfl (y_assign rfl rfl) ?_
                              clear hf a; intro a hf
                              refine st_end ?_
                              refine x_then_n ?_
                              obtain ⟨s5_1, hq5_1, hq4_2⟩ := bnd hq4_2
                              refine code_cut (K := fun a w => 0 ≤ s5_1.1 ∧ s5_1.1 ≤ 255 ∧ 0 ≤ s5_1.2 ∧ s5_1.2 ≤ 255 ∧ Fr 204 [(4, (.pointer (some ⟨b0_1, 0, none⟩))), (8, (.pointer (some ⟨b0_3, 0, none⟩))), (9, (.int .i64 (r0_2)))] a ∧ Mem w0 (hp w0) w [blk b0_1 [(.int .i64 (0)), (.int .i64 (0)), (.int .i64 (0)), (.int .i64 (0)), (.int .i64 (0))] 27, blk b0_3 [(.int .i64 ((((x0_1 % (128 : UInt8))).toNat : Int))), (.int .i64 (s5_1.1)), (.int .i64 (0)), (.int .i64 (0)), (.int .i64 (s5_1.2))] 27]) ?_ ?_
                              ·
                                rcases bcases (decide (((((x0_1 % (128 : UInt8))).toNat : Int)) = 14)) with h6_1 | h6_1
                                ·
                                  replace hq5_1 := (ite_t h6_1).symm.trans hq5_1
                                  have h6_2 := of_decide_eq_true h6_1
                                  refine cond_t hf rfl h6_1 ?_
                                  refine wp_region_lit ?_
                                  refine st_y hf rfl rfl rfl (y_move rfl rfl) ?_
                                  clear hf a; intro a hf
                                  refine st_y hf rfl rfl rfl (y_move rfl rfl) ?_
                                  clear hf a; intro a hf
                                  refine st_y hf rfl rfl rfl (y_addw rfl rfl rfl) ?_
                                  clear hf a; intro a hf
                                  obtain ⟨x6_1, hx6_1, hq5_1⟩ := bnd hq5_1
                                  obtain ⟨h6_3, hx6_2⟩ := getI_some.1 hx6_1
                                  refine st_y hf rfl rfl rfl (y_indexAddr st_24 rfl rfl rfl h6_3 (idx_lt hx6_2)) ?_
                                  clear hf a; intro a hf
                                  refine st_y hf rfl rfl rfl (y_load1 Tryd.isAgg5 rfl rfl ((flat_cells (cs := [(.int .u8 ((x6_1).toNat : Int))]) (hm.now h1) hx6_2 rfl).cell (j := 0) rfl)) ?_
                                  clear hf a; intro a hf
                                  refine st_y hf rfl rfl rfl (y_conv64 (b := x6_1) Tryd.underlying5 Tryd.underlying3 rfl rfl) ?_
                                  clear hf a; intro a hf
                                  have hu6_1 := UInt8.toNat_lt (x6_1)
                                  refine st_y hf rfl rfl rfl (y_fieldAddr fo_27_4 rfl rfl) ?_
                                  clear hf a; intro a hf
                                  refine st_ef0 hf rfl rfl (e_store1 1 hf hm rfl Tryd.sizeOf3 rfl rfl rfl rfl rfl) ?_
                                  clear hf a; rintro _ w6_1 a hm hf
                                  refine st_end ?_
                                  refine x_then_n ?_
                                  obtain rfl := Option.some.inj hq5_1
                                  exact ⟨(by first | omega | (dsimp only; omega)), (by first | omega | (dsimp only; omega)), (by first | omega | (dsimp only; omega)), (by first | omega | (dsimp only; omega)), hf.sub ⟨rfl, rfl, rfl, trivial⟩, hm.pick [0, 1] (by decide) rfl⟩
                                ·
                                  replace hq5_1 := (ite_f h6_1).symm.trans hq5_1
                                  have h6_4 := of_decide_eq_false h6_1
                                  refine cond_f hf rfl h6_1 ?_
                                  refine wp_region_lit ?_
                                  refine st_y hf rfl rfl rfl (y_move rfl rfl) ?_
                                  clear hf a; intro a hf
                                  refine st_y hf rfl rfl rfl (y_move rfl rfl) ?_
                                  clear hf a; intro a hf
                                  refine st_y hf rfl rfl rfl (y_addw rfl rfl rfl) ?_
                                  clear hf a; intro a hf
                                  obtain ⟨x6_2, hx6_3, hq5_1⟩ := bnd hq5_1
                                  obtain ⟨h6_5, hx6_4⟩ := getI_some.1 hx6_3
                                  refine st_y hf rfl rfl rfl (y_indexAddr st_24 rfl rfl rfl h6_5 (idx_lt hx6_4)) ?_
                                  clear hf a; intro a hf
                                  refine st_y hf rfl rfl rfl (y_load1 Tryd.isAgg5 rfl rfl ((flat_cells (cs := [(.int .u8 ((x6_2).toNat : Int))]) (hm.now h1) hx6_4 rfl).cell (j := 0) rfl)) ?_
                                  clear hf a; intro a hf
                                  refine st_y hf rfl rfl rfl (y_conv64 (b := x6_2) Tryd.underlying5 Tryd.underlying3 rfl rfl) ?_
                                  clear hf a; intro a hf
                                  have hu6_2 := UInt8.toNat_lt (x6_2)
                                  refine st_y hf rfl rfl rfl (y_fieldAddr fo_27_1 rfl rfl) ?_
                                  clear hf a; intro a hf
                                  refine st_ef0 hf rfl rfl (e_store1 1 hf hm rfl Tryd.sizeOf3 rfl rfl rfl rfl rfl) ?_
                                  clear hf a; rintro _ w6_2 a hm hf
                                  refine st_end ?_
                                  refine x_then_n ?_
                                  obtain rfl := Option.some.inj hq5_1
                                  exact ⟨(by first | omega | (dsimp only; omega)), (by first | omega | (dsimp only; omega)), (by first | omega | (dsimp only; omega)), (by first | omega | (dsimp only; omega)), hf.sub ⟨rfl, rfl, rfl, trivial⟩, hm.pick [0, 1] (by decide) rfl⟩
                              ·
                                clear hf hm
                                rintro a w ⟨hn5_1, hn5_2, hn5_3, hn5_4, hf, hm⟩
                                refine x_then_n ?_
                                obtain rfl := Option.some.inj hq4_2
                                exact ⟨(by first | omega | (dsimp only; omega)), (by first | omega | (dsimp only; omega)), hf.sub ⟨rfl, rfl, rfl, trivial⟩, hm.pick [0, 1] (by decide) rfl⟩
                          ·
                            clear hf hm
                            rintro a w ⟨hn4_1, hn4_2, hf, hm⟩
                            refine x_then_n ?_
                            obtain rfl := Option.some.inj hq3_1
                            exact ⟨(by first | omega | (dsimp only; omega)), (by first | omega | (dsimp only; omega)), (by first | omega | (dsimp only; omega)), (by first | omega | (dsimp only; omega)), hf.sub ⟨rfl, rfl, rfl, trivial⟩, hm.pick [0, 1] (by decide) rfl⟩
                    ·
                      clear hf hm
                      rintro a w ⟨hn3_1, hn3_2, hn3_3, hn3_4, hf, hm⟩
                      refine x_then_n ?_
                      obtain rfl := Option.some.inj hq2_4
                      exact ⟨(by first | omega | (dsimp only; omega)), (by first | omega | (dsimp only; omega)), (by first | omega | (dsimp only; omega)), (by first | omega | (dsimp only; omega)), hf.sub ⟨rfl, rfl, rfl, trivial⟩, hm.pick [0, 1] (by decide) rfl⟩
                ·
                  clear hf hm
                  rintro a w ⟨hn2_3, hn2_4, hn2_5, hn2_6, hf, hm⟩
                  refine x_then_n ?_
                  obtain rfl := Option.some.inj hq1_1
                  exact ⟨(by first | omega | (dsimp only; omega)), (by first | omega | (dsimp only; omega)), hf.sub ⟨rfl, rfl, rfl, trivial⟩, hm.pick [0, 1] (by decide) rfl⟩
          ·
            clear hf hm
            rintro a w ⟨hn1_1, hn1_2, hf, hm⟩
            refine x_blk_n ?_
            refine x_then_n ?_
            obtain rfl := Option.some.inj hq0_2
            exact ⟨(by first | omega | (dsimp only; omega)), (by first | omega | (dsimp only; omega)), hf.sub ⟨rfl, rfl, rfl, trivial⟩, hm.pick [0, 1] (by decide) rfl⟩
        ·
          clear hf hm
          rintro a w ⟨hn0_1, hn0_2, hf, hm⟩
          refine x_then_n ?_
          refine wp_seq ?_
          refine wp_region_lit ?_
          refine st_y hf rfl rfl rfl (y_loadN (cs := [(.int .i64 ((((x0_1 % (128 : UInt8))).toNat : Int))), (.int .i64 (s0_2.1)), (.int .i64 (s0_2.2.1)), (.int .i64 (s0_2.2.2.1)), (.int .i64 (s0_2.2.2.2))]) Tryd.isAgg27 Tryd.sizeOf27 rfl rfl (hm.blk_at 1 rfl)) ?_
          clear hf a; intro a hf
          refine st_y hf rfl rfl rfl (y_move rfl rfl) ?_
          clear hf a; intro a hf
          refine st_ef0 hf rfl rfl (e_storeN 0 hf hm rfl Tryd.sizeOf27 rfl rfl rfl (one_cons rfl (one_cons rfl (one_cons rfl (one_cons rfl (one_cons rfl one_nil))))) rfl rfl) ?_
          clear hf a; rintro _ w0_8 a hm hf
          refine st_y hf rfl rfl rfl (y_assign rfl rfl) ?_
          clear hf a; intro a hf
          refine st_y hf rfl rfl rfl (y_assign rfl rfl) ?_
          clear hf a; intro a hf
          refine st_end ?_
          refine x_then_n ?_
          refine wp_ret ?_
          obtain rfl := Option.some.inj hq
          refine ret_cell_tmp2 0 hf Tryd.results59 hm rfl rfl Tryd.isAgg27 Tryd.sizeOf27 rfl rfl ?_
          exact ⟨rfl, hm.below⟩

theorem spec_l10At_ok (w0 : World) (list : List Int) (v1 : Value) (h1 : GT.rep (hp w0) [v1] list) (n_ : Int) (r : Int) (hq : spec_l10At list n_ = some r) :
    Con Tryd.prog 60 [v1, (.int .i64 (n_))] w0 (fun v w' => v = (.int .i64 (r)) ∧ Below w0.heap.size w0 w') := by
  unfold spec_l10At at hq
  refine con_body (l := [(0, v1), (1, (.int .i64 (n_)))]) Tryd.func60 rfl Tryd.ntmps60 (Args.get ⟨rfl, rfl, trivial⟩) rfl ?_
  intro a hf
  have hm := Mem.start w0
  refine wp_seq ?_
  refine wp_region_lit ?_
  refine st_y hf rfl rfl rfl (y_assign rfl rfl) ?_
  clear hf a; intro a hf
  refine st_end ?_
  refine x_then_n ?_
  refine wp_seq ?_
  refine wp_seq ?_
  refine wp_region_lit ?_
  refine st_y hf rfl rfl rfl (y_assign rfl rfl) ?_
  clear hf a; intro a hf
  refine st_end ?_
  refine x_then_n ?_
  refine wp_block ?_
  obtain ⟨r0_1, hl0_1, hq⟩ := bnd hq
  refine wp_forN _ (fun i1_1 xs1_1 a w => Fr 19 [(0, v1), (1, (.int .i64 (n_))), (5, (.int .i64 (i1_1)))] a ∧ Mem w0 (hp w0) w []) (0) ((list.length : Int)) hl0_1 ?_ ?_ ?_
  ·
    exact ⟨hf.sub ⟨rfl, rfl, rfl, trivial⟩, hm.pick [] (by decide) rfl⟩
  ·
    clear hf hm
    rintro i1_1 xs1_1 a w ⟨hf, hm⟩ hi1_1 hi1_2 q0_1 hb0_1 ho0_1
    refine wp_seq ?_
    refine wp_seq ?_
    refine wp_region_lit ?_
    refine st_y hf rfl rfl rfl (y_move rfl rfl) ?_
    clear hf a; intro a hf
    refine st_y hf rfl rfl rfl (y_move rfl rfl) ?_
    clear hf a; intro a hf
    obtain ⟨p1_1, c1_1, he, hl1_1⟩ := ro_slice h1
    subst he
    refine st_y hf rfl rfl rfl (y_len_slice st_46.und rfl rfl) ?_
    clear hf a; intro a hf
    refine st_y hf rfl rfl rfl (y_lss rfl rfl rfl) ?_
    clear hf a; intro a hf
    refine st_end ?_
    refine x_then_n ?_
    refine cond_t hf rfl (decide_eq_true (by omega)) ?_
    refine wp_skip ?_
    refine x_then_n ?_
    refine wp_seq ?_
    refine wp_block ?_
    refine wp_seq ?_
    refine wp_region_lit ?_
    refine st_y hf rfl rfl rfl (y_move rfl rfl) ?_
    clear hf a; intro a hf
    refine st_y hf rfl rfl rfl (y_move rfl rfl) ?_
    clear hf a; intro a hf
    obtain ⟨x1_1, hx1_1, hb0_1⟩ := bnd hb0_1
    obtain ⟨h1_1, hx1_2⟩ := getI_some.1 hx1_1
    obtain ⟨b1_1, o1_1, c1_2, he⟩ := idx_form h1 hx1_2
    simp only [Value.slice.injEq, Option.some.injEq] at he; obtain ⟨rfl, _, rfl⟩ := he
    refine st_y hf rfl rfl rfl (y_indexAddr st_46 rfl rfl rfl h1_1 (idx_lt hx1_2)) ?_
    clear hf a; intro a hf
    refine st_y hf rfl rfl rfl (y_load1 Tryd.isAgg3 rfl rfl ((flat_cells (cs := [(.int .i64 (x1_1))]) (hm.now h1) hx1_2 rfl).cell (j := 0) rfl)) ?_
    clear hf a; intro a hf
    refine st_y hf rfl rfl rfl (y_move rfl rfl) ?_
    clear hf a; intro a hf
    refine st_y hf rfl rfl rfl (y_eql rfl rfl rfl) ?_
    clear hf a; intro a hf
    refine st_end ?_
    refine x_then_n ?_
    rcases bcases (decide (x1_1 = n_)) with h1_2 | h1_2
    ·
      replace hb0_1 := (ite_t h1_2).symm.trans hb0_1
      have h1_3 := of_decide_eq_true h1_2
      refine cond_t hf rfl h1_2 ?_
      refine wp_seq ?_
      refine wp_region_lit ?_
      refine st_y hf rfl rfl rfl (y_move rfl rfl) ?_
      clear hf a; intro a hf
      refine st_y hf rfl rfl rfl (y_assign rfl rfl) ?_
      clear hf a; intro a hf
      refine st_end ?_
      refine x_then_n ?_
      refine wp_ret ?_
      refine x_blk_ret ?_
      refine x_then_ret ?_
      refine x_then_ret ?_
      refine x_blk_ret ?_
      refine x_then_ret ?_
      obtain rfl := Option.some.inj hb0_1
      obtain rfl := ho0_1 _ rfl
      replace hq := sum_r hq
      obtain rfl := Option.some.inj hq
      refine ret_tmp hf Tryd.results60 rfl ?_
      exact ⟨rfl, hm.below⟩
    ·
      replace hb0_1 := (ite_f h1_2).symm.trans hb0_1
      have h1_4 := of_decide_eq_false h1_2
      refine cond_f hf rfl h1_2 ?_
      refine wp_skip ?_
      refine x_blk_n ?_
      refine x_then_n ?_
      refine wp_region_lit ?_
      refine st_y hf rfl rfl rfl (y_move rfl rfl) ?_
      clear hf a; intro a hf
      refine st_y hf rfl rfl rfl (y_add64 rfl rfl rfl (by omega) (by omega)) ?_
      clear hf a; intro a hf
      refine st_y hf rfl rfl rfl (y_assign rfl rfl) ?_
      clear hf a; intro a hf
      refine st_end ?_
      refine x_then_n ?_
      obtain rfl := Option.some.inj hb0_1
      exact ⟨_, rfl, hf.sub ⟨rfl, rfl, rfl, trivial⟩, hm.pick [] (by decide) rfl⟩
  ·
    clear hf hm
    rintro i0_1 xs0_1 a w ⟨hf, hm⟩ hi0_1 hi0_2 rfl
    replace hq := sum_l hq
    refine wp_seq ?_
    refine wp_seq ?_
    refine wp_region_lit ?_
    refine st_y hf rfl rfl rfl (y_move rfl rfl) ?_
    clear hf a; intro a hf
    refine st_y hf rfl rfl rfl (y_move rfl rfl) ?_
    clear hf a; intro a hf
    obtain ⟨p0_1, c0_1, he, hl0_2⟩ := ro_slice h1
    subst he
    refine st_y hf rfl rfl rfl (y_len_slice st_46.und rfl rfl) ?_
    clear hf a; intro a hf
    refine st_y hf rfl rfl rfl (y_lss rfl rfl rfl) ?_
    clear hf a; intro a hf
    refine st_end ?_
    refine x_then_n ?_
    refine cond_f hf rfl (decide_eq_false (by omega)) ?_
    refine wp_exit ?_
    refine x_then_exit ?_
    refine x_then_exit ?_
    refine x_blk_hit ?_
    refine x_then_n ?_
    refine wp_seq ?_
    refine wp_region_lit ?_
    refine st_y hf rfl rfl rfl (y_assign rfl rfl) ?_
    clear hf a; intro a hf
    refine st_end ?_
    refine x_then_n ?_
    refine wp_ret ?_
    obtain rfl := Option.some.inj hq
    refine ret_tmp hf Tryd.results60 rfl ?_
    exact ⟨rfl, hm.below⟩

theorem spec_l25Alone_ok (w0 : World) (hz : Heap) (hle0 : Heap.le hz (hp w0)) (f : Mfn) (v1 : Value) (h1 : GT.rep hz [v1] f.ins) (r : Mach) (hq : spec_l25Alone f = some r) :
    Con Tryd.prog 73 [(.agg #[(.int .i64 (f.params)), (.int .i64 (f.slots)), v1])] w0 (fun v w' => ∃ (x1 : Value) (hz2 : Heap), v = (.agg #[x1]) ∧ Heap.le hz hz2 ∧ Mem w0 hz2 w' [junk w0 hz, ow (α := List (Sh hz2 Mfn)) [x1] r.fns]) := by
  unfold spec_l25Alone at hq
  refine con_body (l := [(0, (.agg #[(.int .i64 (f.params)), (.int .i64 (f.slots)), v1]))]) Tryd.func73 rfl Tryd.ntmps73 (Args.get ⟨rfl, trivial⟩) rfl ?_
  intro a hf
  have hm := Mem.startA hle0
  refine wp_seq ?_
  refine wp_region_lit ?_
  refine st_ef hf rfl rfl rfl (e_box hf hm rfl rfl rfl) ?_
  clear hf a; rintro _ w0_1 a ⟨b0_1, rfl, hm⟩ hf
  refine st_ef hf rfl rfl rfl (e_alloc hm Tryd.zeroValue99 rfl rfl) ?_
  clear hf a; rintro _ w0_2 a ⟨b0_2, rfl, hm⟩ hf
  refine st_end ?_
  refine x_then_n ?_
  refine wp_seq ?_
  refine wp_region_lit ?_
  refine st_y hf rfl rfl rfl (y_build (vs := []) (cs := #[(.slice none 0 0)]) rfl rfl (by kernel_rfl)) ?_
  clear hf a; intro a hf
  refine st_ef hf rfl rfl rfl (e_alloc hm Tryd.zeroValue99 rfl rfl) ?_
  clear hf a; rintro _ w0_3 a ⟨b0_3, rfl, hm⟩ hf
  refine st_ef0 hf rfl rfl (e_storeN 0 hf hm rfl Tryd.sizeOf99 rfl rfl rfl (one_cons rfl one_nil) rfl rfl) ?_
  clear hf a; rintro _ w0_4 a hm hf
  refine st_end ?_
  refine x_then_n ?_
  refine wp_seq ?_
  refine wp_region_lit ?_
  refine st_y hf rfl rfl rfl (y_assign rfl rfl) ?_
  clear hf a; intro a hf
  refine st_end ?_
  refine x_then_n ?_
  refine wp_seq ?_
  refine wp_seq ?_
  refine wp_region_lit ?_
  refine st_y hf rfl rfl rfl (y_assign rfl rfl) ?_
  clear hf a; intro a hf
  refine st_end ?_
  refine x_then_n ?_
  refine wp_block ?_
  obtain ⟨r0_1, hl0_1, hq⟩ := bnd hq
  refine wp_forN _ (fun i1_1 xs1_1 a w => Fr 68 [(1, (.pointer (some ⟨b0_1, 0, none⟩))), (2, (.pointer (some ⟨b0_2, 0, none⟩))), (3, (.pointer (some ⟨b0_3, 0, none⟩))), (4, (.int .i64 (xs1_1))), (5, (.int .i64 (i1_1)))] a ∧ Mem w0 hz w [blk b0_1 [(.int .i64 (f.params)), (.int .i64 (f.slots)), v1] 35, blk b0_2 [(.slice none 0 0)] 99, blk b0_3 [(.slice none 0 0)] 99, junk w0 hz]) (0) ((f.ins.length : Int)) hl0_1 ?_ ?_ ?_
  ·
    exact ⟨hf.sub ⟨rfl, rfl, rfl, rfl, rfl, trivial⟩, hm.pick [2, 1, 0, 3] (by decide) rfl⟩
  ·
    clear hf hm
    rintro i1_1 xs1_1 a w ⟨hf, hm⟩ hi1_1 hi1_2 q0_1 hb0_1 ho0_1
    refine wp_seq ?_
    refine wp_seq ?_
    refine wp_region_lit ?_
    refine st_y hf rfl rfl rfl (y_move rfl rfl) ?_
    clear hf a; intro a hf
    refine st_y hf rfl rfl rfl (y_fieldAddr fo_35_2 rfl rfl) ?_
    clear hf a; intro a hf
    refine st_y hf rfl rfl rfl (y_load1 Tryd.isAgg33 rfl rfl (hm.blk_cell 0 rfl rfl)) ?_
    clear hf a; intro a hf
    obtain ⟨p1_1, c1_1, he, hl1_1⟩ := ro_slice h1
    subst he
    refine st_y hf rfl rfl rfl (y_len_slice st_33.und rfl rfl) ?_
    clear hf a; intro a hf
    refine st_y hf rfl rfl rfl (y_lss rfl rfl rfl) ?_
    clear hf a; intro a hf
    refine st_end ?_
    refine x_then_n ?_
    refine cond_t hf rfl (decide_eq_true (by omega)) ?_
    refine wp_skip ?_
    refine x_then_n ?_
    refine wp_seq ?_
    obtain ⟨s1_1, hq1_1, hb0_1⟩ := bnd hb0_1
    refine code_cut (K := fun a w => Fr 68 [(1, (.pointer (some ⟨b0_1, 0, none⟩))), (2, (.pointer (some ⟨b0_2, 0, none⟩))), (3, (.pointer (some ⟨b0_3, 0, none⟩))), (4, (.int .i64 (s1_1))), (5, (.int .i64 (i1_1)))] a ∧ Mem w0 hz w [blk b0_1 [(.int .i64 (f.params)), (.int .i64 (f.slots)), (.slice p1_1 f.ins.length c1_1)] 35, blk b0_2 [(.slice none 0 0)] 99, blk b0_3 [(.slice none 0 0)] 99, junk w0 hz]) ?_ ?_
    ·
      refine wp_block ?_
      refine wp_seq ?_
      obtain ⟨s2_1, hq2_1, hq1_1⟩ := bnd hq1_1
      refine code_cut (K := fun a w => Fr 68 [(1, (.pointer (some ⟨b0_1, 0, none⟩))), (2, (.pointer (some ⟨b0_2, 0, none⟩))), (3, (.pointer (some ⟨b0_3, 0, none⟩))), (4, (.int .i64 (xs1_1))), (5, (.int .i64 (i1_1))), (40, (.bool (s2_1)))] a ∧ Mem w0 hz w [blk b0_1 [(.int .i64 (f.params)), (.int .i64 (f.slots)), (.slice p1_1 f.ins.length c1_1)] 35, blk b0_2 [(.slice none 0 0)] 99, blk b0_3 [(.slice none 0 0)] 99, junk w0 hz]) ?_ ?_
      ·
        refine wp_region_lit ?_
        refine st_y hf rfl rfl rfl (y_fieldAddr fo_35_2 rfl rfl) ?_
        clear hf a; intro a hf
        refine st_y hf rfl rfl rfl (y_load1 Tryd.isAgg33 rfl rfl (hm.blk_cell 0 rfl rfl)) ?_
        clear hf a; intro a hf
        refine st_y hf rfl rfl rfl (y_move rfl rfl) ?_
        clear hf a; intro a hf
        obtain ⟨x3_1, hx3_1, hq2_1⟩ := bnd hq2_1
        obtain ⟨h3_1, hx3_2⟩ := getI_some.1 hx3_1
        obtain ⟨b3_1, o3_1, c3_1, he⟩ := idx_form h1 hx3_2
        simp only [Value.slice.injEq, Option.some.injEq] at he; obtain ⟨rfl, _, rfl⟩ := he
        refine st_y hf rfl rfl rfl (y_indexAddr st_33 rfl rfl rfl h3_1 (idx_lt hx3_2)) ?_
        clear hf a; intro a hf
        refine st_y hf rfl rfl rfl (y_fieldAddr fo_27_0 rfl rfl) ?_
        clear hf a; intro a hf
        refine st_y hf rfl rfl rfl (y_load1 Tryd.isAgg3 rfl rfl ((flat_cells (cs := [(.int .i64 (x3_1.op)), (.int .i64 (x3_1.a_)), (.int .i64 (x3_1.b)), (.int .i64 (x3_1.c)), (.int .i64 (x3_1.n_))]) (hm.now h1) hx3_2 rfl).cell (j := 0) rfl)) ?_
        clear hf a; intro a hf
        refine st_y hf rfl rfl rfl (y_eql rfl rfl rfl) ?_
        clear hf a; intro a hf
        refine st_y hf rfl rfl rfl (y_move rfl rfl) ?_
        clear hf a; intro a hf
        rcases bcases (decide (x3_1.op = 14)) with h3_2 | h3_2
        ·
          replace hq2_1 := (ite_t h3_2).symm.trans hq2_1
          have h3_3 := of_decide_eq_true h3_2
          refine st_yg hf rfl rfl (lk_b rfl h3_2) rfl rfl (y_fieldAddr fo_35_2 rfl rfl) ?_
          clear hf a; intro a hf
          refine st_yg hf rfl rfl (lk_b rfl h3_2) rfl rfl (y_load1 Tryd.isAgg33 rfl rfl (hm.blk_cell 0 rfl rfl)) ?_
          clear hf a; intro a hf
          refine st_yg hf rfl rfl (lk_b rfl h3_2) rfl rfl (y_move rfl rfl) ?_
          clear hf a; intro a hf
          refine st_yg hf rfl rfl (lk_b rfl h3_2) rfl rfl (y_indexAddr st_33 rfl rfl rfl h3_1 (idx_lt hx3_2)) ?_
          clear hf a; intro a hf
          refine st_yg hf rfl rfl (lk_b rfl h3_2) rfl rfl (y_fieldAddr fo_27_4 rfl rfl) ?_
          clear hf a; intro a hf
          refine st_yg hf rfl rfl (lk_b rfl h3_2) rfl rfl (y_load1 Tryd.isAgg3 rfl rfl ((flat_cells (cs := [(.int .i64 (x3_1.op)), (.int .i64 (x3_1.a_)), (.int .i64 (x3_1.b)), (.int .i64 (x3_1.c)), (.int .i64 (x3_1.n_))]) (hm.now h1) hx3_2 rfl).cell (j := 4) rfl)) ?_
          clear hf a; intro a hf
          refine st_yg hf rfl rfl (lk_b rfl h3_2) rfl rfl (y_move rfl rfl) ?_
          clear hf a; intro a hf
          refine st_yg hf rfl rfl (lk_b rfl h3_2) rfl rfl (y_geq rfl rfl rfl) ?_
          clear hf a; intro a hf
          refine st_y hf rfl rfl rfl (y_pick_t rfl (ev_b rfl h3_2) rfl) ?_
          clear hf a; intro a hf
          refine st_y hf rfl rfl rfl (y_move rfl rfl) ?_
          clear hf a; intro a hf
          rcases bcases (decide (xs1_1 ≤ x3_1.n_)) with h3_4 | h3_4
          ·
            replace hq2_1 := (ite_t h3_4).symm.trans hq2_1
            have h3_5 := of_decide_eq_true h3_4
            refine st_yg hf rfl rfl (lk_b rfl h3_4) rfl rfl (y_fieldAddr fo_35_2 rfl rfl) ?_
            clear hf a; intro a hf
            refine st_yg hf rfl rfl (lk_b rfl h3_4) rfl rfl (y_load1 Tryd.isAgg33 rfl rfl (hm.blk_cell 0 rfl rfl)) ?_
            clear hf a; intro a hf
            refine st_yg hf rfl rfl (lk_b rfl h3_4) rfl rfl (y_move rfl rfl) ?_
            clear hf a; intro a hf
            refine st_yg hf rfl rfl (lk_b rfl h3_4) rfl rfl (y_indexAddr st_33 rfl rfl rfl h3_1 (idx_lt hx3_2)) ?_
            clear hf a; intro a hf
            refine st_yg hf rfl rfl (lk_b rfl h3_4) rfl rfl (y_fieldAddr fo_27_4 rfl rfl) ?_
            clear hf a; intro a hf
            refine st_yg hf rfl rfl (lk_b rfl h3_4) rfl rfl (y_load1 Tryd.isAgg3 rfl rfl ((flat_cells (cs := [(.int .i64 (x3_1.op)), (.int .i64 (x3_1.a_)), (.int .i64 (x3_1.b)), (.int .i64 (x3_1.c)), (.int .i64 (x3_1.n_))]) (hm.now h1) hx3_2 rfl).cell (j := 4) rfl)) ?_
            clear hf a; intro a hf
            refine st_yg hf rfl rfl (lk_b rfl h3_4) rfl rfl (y_lss rfl rfl rfl) ?_
            clear hf a; intro a hf
            refine st_y hf rfl rfl rfl (y_pick_t rfl (ev_b rfl h3_4) rfl) ?_
            clear hf a; intro a hf
            refine st_end ?_
            refine x_then_n ?_
            obtain rfl := Option.some.inj hq2_1
            exact ⟨hf.sub ⟨rfl, rfl, rfl, rfl, rfl, rfl, trivial⟩, hm.pick [0, 1, 2, 3] (by decide) rfl⟩
          ·
            replace hq2_1 := (ite_f h3_4).symm.trans hq2_1
            have h3_6 := of_decide_eq_false h3_4
            refine st_no hf rfl rfl (lk_b rfl h3_4) rfl rfl rfl ?_
            clear hf a; intro a hf
            refine st_no hf rfl rfl (lk_b rfl h3_4) rfl rfl rfl ?_
            clear hf a; intro a hf
            refine st_no hf rfl rfl (lk_b rfl h3_4) rfl rfl rfl ?_
            clear hf a; intro a hf
            refine st_no hf rfl rfl (lk_b rfl h3_4) rfl rfl rfl ?_
            clear hf a; intro a hf
            refine st_no hf rfl rfl (lk_b rfl h3_4) rfl rfl rfl ?_
            clear hf a; intro a hf
            refine st_no hf rfl rfl (lk_b rfl h3_4) rfl rfl rfl ?_
            clear hf a; intro a hf
            refine st_no hf rfl rfl (lk_b rfl h3_4) rfl rfl rfl ?_
            clear hf a; intro a hf
            refine st_y hf rfl rfl rfl (y_pick_f rfl (ev_b rfl h3_4) rfl) ?_
            clear hf a; intro a hf
            refine st_end ?_
            refine x_then_n ?_
            obtain rfl := Option.some.inj hq2_1
            exact ⟨hf.sub ⟨rfl, rfl, rfl, rfl, rfl, rfl, trivial⟩, hm.pick [0, 1, 2, 3] (by decide) rfl⟩
        ·
          replace hq2_1 := (ite_f h3_2).symm.trans hq2_1
          have h3_7 := of_decide_eq_false h3_2
          refine st_no hf rfl rfl (lk_b rfl h3_2) rfl rfl rfl ?_
          clear hf a; intro a hf
          refine st_no hf rfl rfl (lk_b rfl h3_2) rfl rfl rfl ?_
          clear hf a; intro a hf
          refine st_no hf rfl rfl (lk_b rfl h3_2) rfl rfl rfl ?_
          clear hf a; intro a hf
          refine st_no hf rfl rfl (lk_b rfl h3_2) rfl rfl rfl ?_
          clear hf a; intro a hf
          refine st_no hf rfl rfl (lk_b rfl h3_2) rfl rfl rfl ?_
          clear hf a; intro a hf
          refine st_no hf rfl rfl (lk_b rfl h3_2) rfl rfl rfl ?_
          clear hf a; intro a hf
          refine st_no hf rfl rfl (lk_b rfl h3_2) rfl rfl rfl ?_
          clear hf a; intro a hf
          refine st_no hf rfl rfl (lk_b rfl h3_2) rfl rfl rfl ?_
          clear hf a; intro a hf
          refine st_y hf rfl rfl rfl (y_pick_f rfl (ev_b rfl h3_2) rfl) ?_
          clear hf a; intro a hf
          refine st_y hf rfl rfl rfl (y_move rfl rfl) ?_
          clear hf a; intro a hf
          refine st_no hf rfl rfl (lk_b rfl rfl) rfl rfl rfl ?_
          clear hf a; intro a hf
          refine st_no hf rfl rfl (lk_b rfl rfl) rfl rfl rfl ?_
          clear hf a; intro a hf
          refine st_no hf rfl rfl (lk_b rfl rfl) rfl rfl rfl ?_
          clear hf a; intro a hf
          refine st_no hf rfl rfl (lk_b rfl rfl) rfl rfl rfl ?_
          clear hf a; intro a hf
          refine st_no hf rfl rfl (lk_b rfl rfl) rfl rfl rfl ?_
          clear hf a; intro a hf
          refine st_no hf rfl rfl (lk_b rfl rfl) rfl rfl rfl ?_
          clear hf a; intro a hf
          refine st_no hf rfl rfl (lk_b rfl rfl) rfl rfl rfl ?_
          clear hf a; intro a hf
          refine st_y hf rfl rfl rfl (y_pick_f rfl (ev_b rfl rfl) rfl) ?_
          clear hf a; intro a hf
          refine st_end ?_
          refine x_then_n ?_
          obtain rfl := Option.some.inj hq2_1
          exact ⟨hf.sub ⟨rfl, rfl, rfl, rfl, rfl, rfl, trivial⟩, hm.pick [0, 1, 2, 3] (by decide) rfl⟩
      ·
        clear hf hm
        rintro a w ⟨hf, hm⟩
        refine x_then_n ?_
        obtain ⟨s2_2, hq2_2, hq1_1⟩ := bnd hq1_1
        refine code_cut (K := fun a w => Fr 68 [(1, (.pointer (some ⟨b0_1, 0, none⟩))), (2, (.pointer (some ⟨b0_2, 0, none⟩))), (3, (.pointer (some ⟨b0_3, 0, none⟩))), (4, (.int .i64 (s2_2))), (5, (.int .i64 (i1_1)))] a ∧ Mem w0 hz w [blk b0_1 [(.int .i64 (f.params)), (.int .i64 (f.slots)), (.slice p1_1 f.ins.length c1_1)] 35, blk b0_2 [(.slice none 0 0)] 99, blk b0_3 [(.slice none 0 0)] 99, junk w0 hz]) ?_ ?_
        ·
          rcases bcases (s2_1) with h3_8 | h3_8
          ·
            replace hq2_2 := (ite_t h3_8).symm.trans hq2_2
            refine cond_t hf rfl h3_8 ?_
            refine wp_region_lit ?_
            refine st_y hf rfl rfl rfl (y_fieldAddr fo_35_2 rfl rfl) ?_
            clear hf a; intro a hf
            refine st_y hf rfl rfl rfl (y_load1 Tryd.isAgg33 rfl rfl (hm.blk_cell 0 rfl rfl)) ?_
            clear hf a; intro a hf
            refine st_y hf rfl rfl rfl (y_move rfl rfl) ?_
            clear hf a; intro a hf
            obtain ⟨x3_2, hx3_3, hq2_2⟩ := bnd hq2_2
            obtain ⟨h3_9, hx3_4⟩ := getI_some.1 hx3_3
            obtain ⟨b3_2, o3_2, c3_2, he⟩ := idx_form h1 hx3_4
            simp only [Value.slice.injEq, Option.some.injEq] at he; obtain ⟨rfl, _, rfl⟩ := he
            refine st_y hf rfl rfl rfl (y_indexAddr st_33 rfl rfl rfl h3_9 (idx_lt hx3_4)) ?_
            clear hf a; intro a hf
            refine st_y hf rfl rfl rfl (y_fieldAddr fo_27_4 rfl rfl) ?_
            clear hf a; intro a hf
            refine st_y hf rfl rfl rfl (y_load1 Tryd.isAgg3 rfl rfl ((flat_cells (cs := [(.int .i64 (x3_2.op)), (.int .i64 (x3_2.a_)), (.int .i64 (x3_2.b)), (.int .i64 (x3_2.c)), (.int .i64 (x3_2.n_))]) (hm.now h1) hx3_4 rfl).cell (j := 4) rfl)) ?_
            clear hf a; intro a hf
            refine st_y hf rfl rfl rfl (y_addw rfl rfl rfl) ?_
            clear hf a; intro a hf
            refine st_y hf rfl rfl rfl (y_assign rfl rfl) ?_
            clear hf a; intro a hf
            refine st_end ?_
            refine x_then_n ?_
            obtain rfl := Option.some.inj hq2_2
            exact ⟨hf.sub ⟨rfl, rfl, rfl, rfl, rfl, trivial⟩, hm.pick [0, 1, 2, 3] (by decide) rfl⟩
          ·
            replace hq2_2 := (ite_f h3_8).symm.trans hq2_2
            refine cond_f hf rfl h3_8 ?_
            refine wp_skip ?_
            refine x_then_n ?_
            obtain rfl := Option.some.inj hq2_2
            exact ⟨hf.sub ⟨rfl, rfl, rfl, rfl, rfl, trivial⟩, hm.pick [0, 1, 2, 3] (by decide) rfl⟩
        ·
          clear hf hm
          rintro a w ⟨hf, hm⟩
          refine x_blk_n ?_
          refine x_then_n ?_
          obtain rfl := Option.some.inj hq1_1
          exact ⟨hf.sub ⟨rfl, rfl, rfl, rfl, rfl, trivial⟩, hm.pick [0, 1, 2, 3] (by decide) rfl⟩
    ·
      clear hf hm
      rintro a w ⟨hf, hm⟩
      refine x_then_n ?_
      refine wp_region_lit ?_
      refine st_y hf rfl rfl rfl (y_move rfl rfl) ?_
      clear hf a; intro a hf
      refine st_y hf rfl rfl rfl (y_add64 rfl rfl rfl (by omega) (by omega)) ?_
      clear hf a; intro a hf
      refine st_y hf rfl rfl rfl (y_assign rfl rfl) ?_
      clear hf a; intro a hf
      refine st_end ?_
      refine x_then_n ?_
      obtain rfl := Option.some.inj hb0_1
      exact ⟨_, rfl, hf.sub ⟨rfl, rfl, rfl, rfl, rfl, trivial⟩, hm.pick [0, 1, 2, 3] (by decide) rfl⟩
  ·
    clear hf hm
    rintro i0_1 xs0_1 a w ⟨hf, hm⟩ hi0_1 hi0_2 rfl
    replace hq := sum_l hq
    refine wp_seq ?_
    refine wp_seq ?_
    refine wp_region_lit ?_
    refine st_y hf rfl rfl rfl (y_move rfl rfl) ?_
    clear hf a; intro a hf
    refine st_y hf rfl rfl rfl (y_fieldAddr fo_35_2 rfl rfl) ?_
    clear hf a; intro a hf
    refine st_y hf rfl rfl rfl (y_load1 Tryd.isAgg33 rfl rfl (hm.blk_cell 0 rfl rfl)) ?_
    clear hf a; intro a hf
    obtain ⟨p0_1, c0_1, he, hl0_2⟩ := ro_slice h1
    subst he
    refine st_y hf rfl rfl rfl (y_len_slice st_33.und rfl rfl) ?_
    clear hf a; intro a hf
    refine st_y hf rfl rfl rfl (y_lss rfl rfl rfl) ?_
    clear hf a; intro a hf
    refine st_end ?_
    refine x_then_n ?_
    refine cond_f hf rfl (decide_eq_false (by omega)) ?_
    refine wp_exit ?_
    refine x_then_exit ?_
    refine x_then_exit ?_
    refine x_blk_hit ?_
    refine x_then_n ?_
    refine wp_seq ?_
    refine wp_seq ?_
    refine wp_region_lit ?_
    refine st_y hf rfl rfl rfl (y_assign rfl rfl) ?_
    clear hf a; intro a hf
    refine st_end ?_
    refine x_then_n ?_
    refine wp_block ?_
    obtain ⟨_, hfit0_1, hq⟩ := bnd hq
    replace hfit0_1 := fitI_some.1 hfit0_1
    obtain ⟨r0_2, hl0_3, hq⟩ := bnd hq
    refine wp_forN _ (fun i1_2 xs1_2 a w => ∃ (v1_1 : Value), Fr 68 [(1, (.pointer (some ⟨b0_1, 0, none⟩))), (2, (.pointer (some ⟨b0_2, 0, none⟩))), (3, (.pointer (some ⟨b0_3, 0, none⟩))), (4, (.int .i64 (xs0_1))), (6, (.int .i64 (i1_2)))] a ∧ Mem w0 hz w [blk b0_1 [(.int .i64 (f.params)), (.int .i64 (f.slots)), (.slice p0_1 f.ins.length c0_1)] 35, blk b0_2 [(.slice none 0 0)] 99, blk b0_3 [v1_1] 99, ow [v1_1] xs1_2, junk w0 hz]) (0) (xs0_1) hl0_3 ?_ ?_ ?_
    ·
      have hm := hm.nilow (α := Mfn)
      exact ⟨(.slice none 0 0), hf.sub ⟨rfl, rfl, rfl, rfl, rfl, trivial⟩, hm.pick [1, 2, 3, 0, 4] (by decide) rfl⟩
    ·
      clear hf hm
      rintro i1_2 xs1_2 a w ⟨v1_1, hf, hm⟩ hi1_3 hi1_4 q0_2 hb0_2 ho0_2
      refine wp_seq ?_
      refine wp_seq ?_
      refine wp_region_lit ?_
      refine st_y hf rfl rfl rfl (y_move rfl rfl) ?_
      clear hf a; intro a hf
      refine st_y hf rfl rfl rfl (y_move rfl rfl) ?_
      clear hf a; intro a hf
      refine st_y hf rfl rfl rfl (y_lss rfl rfl rfl) ?_
      clear hf a; intro a hf
      refine st_end ?_
      refine x_then_n ?_
      refine cond_t hf rfl (decide_eq_true (by omega)) ?_
      refine wp_skip ?_
      refine x_then_n ?_
      refine wp_seq ?_
      refine wp_block ?_
      refine wp_region_lit ?_
      refine st_y hf rfl rfl rfl (y_fieldAddr fo_99_0 rfl rfl) ?_
      clear hf a; intro a hf
      refine st_y hf rfl rfl rfl (y_load1 Tryd.isAgg97 rfl rfl (hm.blk_cell 2 rfl rfl)) ?_
      clear hf a; intro a hf
      refine st_y hf rfl rfl rfl (y_build (vs := [(0, (.int .i64 (22)))]) (cs := #[(.int .i64 (22)), (.int .i64 (0)), (.int .i64 (0)), (.int .i64 (0)), (.int .i64 (0))]) rfl rfl (by kernel_rfl)) ?_
      clear hf a; intro a hf
      refine st_ef hf rfl rfl rfl (e_build (vs := #[(0, (.agg #[(.int .i64 (22)), (.int .i64 (0)), (.int .i64 (0)), (.int .i64 (0)), (.int .i64 (0))]))]) (cs := [(.int .i64 (22)), (.int .i64 (0)), (.int .i64 (0)), (.int .i64 (0)), (.int .i64 (0))]) et_33 hf hm rfl rfl (by kernel_rfl) rfl rfl) ?_
      clear hf a; rintro _ w1_1 a ⟨b1_1, rfl, hm⟩ hf
      replace hm := hm.lit (xs := ([(⟨22, 0, 0, 0, 0⟩ : Mins)] : List Mins)) 0 rfl rfl rfl rfl
      refine st_y hf rfl rfl rfl (y_build (vs := [(2, (.slice (some ⟨b1_1, 0, none⟩) 1 1))]) (cs := #[(.int .i64 (0)), (.int .i64 (0)), (.slice (some ⟨b1_1, 0, none⟩) 1 1)]) rfl rfl (by kernel_rfl)) ?_
      clear hf a; intro a hf
      refine st_ef hf rfl rfl rfl (e_build (vs := #[(0, (.agg #[(.int .i64 (0)), (.int .i64 (0)), (.slice (some ⟨b1_1, 0, none⟩) 1 1)]))]) (cs := [(.int .i64 (0)), (.int .i64 (0)), (.slice (some ⟨b1_1, 0, none⟩) 1 1)]) et_97 hf hm rfl rfl (by kernel_rfl) rfl rfl) ?_
      clear hf a; rintro _ w1_2 a ⟨b1_2, rfl, hm⟩ hf
      replace hm := hm.els_nil (α := Mfn)
      replace hm := hm.own0 (c := [(.int .i64 (0))]) (x := (0 : Int)) (fun h => Flat.own_iff.2 rfl)
      replace hm := hm.own0 (c := [(.int .i64 (0))]) (x := (0 : Int)) (fun h => Flat.own_iff.2 rfl)
      replace hm := (hm.pair (x := (0 : Int)) (y := (([(⟨22, 0, 0, 0, 0⟩ : Mins)] : List Mins) : List Mins)) 0 4 (by decide) rfl rfl).pick (L' := [ow [(.int .i64 (0)), (.slice (some ⟨b1_1, 0, none⟩) 1 1)] ((0, ([(⟨22, 0, 0, 0, 0⟩ : Mins)] : List Mins)) : Int × (List Mins)), ow [(.int .i64 (0))] (0 : Int), els [] ([] : List Mfn), blk b1_2 [(.int .i64 (0)), (.int .i64 (0)), (.slice (some ⟨b1_1, 0, none⟩) 1 1)] 35, blk b0_1 [(.int .i64 (f.params)), (.int .i64 (f.slots)), (.slice p0_1 f.ins.length c0_1)] 35, blk b0_2 [(.slice none 0 0)] 99, blk b0_3 [v1_1] 99, ow [v1_1] xs1_2, junk w0 hz]) [0, 1, 2, 3, 5, 6, 7, 8, 9] (by decide) rfl
      replace hm := (hm.pair (x := (0 : Int)) (y := ((0, ([(⟨22, 0, 0, 0, 0⟩ : Mins)] : List Mins)) : Int × (List Mins))) 1 0 (by decide) rfl rfl).pick (L' := [ow [(.int .i64 (0)), (.int .i64 (0)), (.slice (some ⟨b1_1, 0, none⟩) 1 1)] ((0, (0, ([(⟨22, 0, 0, 0, 0⟩ : Mins)] : List Mins))) : Int × Int × (List Mins)), els [] ([] : List Mfn), blk b1_2 [(.int .i64 (0)), (.int .i64 (0)), (.slice (some ⟨b1_1, 0, none⟩) 1 1)] 35, blk b0_1 [(.int .i64 (f.params)), (.int .i64 (f.slots)), (.slice p0_1 f.ins.length c0_1)] 35, blk b0_2 [(.slice none 0 0)] 99, blk b0_3 [v1_1] 99, ow [v1_1] xs1_2, junk w0 hz]) [1, 2, 3, 4, 5, 6, 7, 8] (by decide) rfl
      replace hm := hm.imp (c' := ow [(.int .i64 (0)), (.int .i64 (0)), (.slice (some ⟨b1_1, 0, none⟩) 1 1)] ((⟨0, 0, ([(⟨22, 0, 0, 0, 0⟩ : Mins)] : List Mins)⟩ : Mfn) : Mfn)) 0 rfl (fun F h0 => h0)
      replace hm := (hm.els_cons 1 0 (by decide) rfl rfl).pick (L' := [els [(.int .i64 (0)), (.int .i64 (0)), (.slice (some ⟨b1_1, 0, none⟩) 1 1)] ([(⟨0, 0, ([(⟨22, 0, 0, 0, 0⟩ : Mins)] : List Mins)⟩ : Mfn)] : List Mfn), blk b1_2 [(.int .i64 (0)), (.int .i64 (0)), (.slice (some ⟨b1_1, 0, none⟩) 1 1)] 35, blk b0_1 [(.int .i64 (f.params)), (.int .i64 (f.slots)), (.slice p0_1 f.ins.length c0_1)] 35, blk b0_2 [(.slice none 0 0)] 99, blk b0_3 [v1_1] 99, ow [v1_1] xs1_2, junk w0 hz]) [1, 2, 3, 4, 5, 6, 7] (by decide) rfl
      replace hm := (hm.lit_els 1 0 (by decide) rfl rfl rfl rfl).pick (L' := [ow [(.slice (some ⟨b1_2, 0, none⟩) 1 1)] ([(⟨0, 0, ([(⟨22, 0, 0, 0, 0⟩ : Mins)] : List Mins)⟩ : Mfn)] : List Mfn), blk b0_1 [(.int .i64 (f.params)), (.int .i64 (f.slots)), (.slice p0_1 f.ins.length c0_1)] 35, blk b0_2 [(.slice none 0 0)] 99, blk b0_3 [v1_1] 99, ow [v1_1] xs1_2, junk w0 hz]) [1, 2, 3, 4, 5, 6] (by decide) rfl
      obtain ⟨ys1_1, hx1_1, hb0_2⟩ := bnd hb0_2
      obtain ⟨h1_1, h1_1e⟩ := appM_some.1 hx1_1
      replace hm := (hm.both 4 0 (by decide) rfl rfl).pick (L' := [blk b0_1 [(.int .i64 (f.params)), (.int .i64 (f.slots)), (.slice p0_1 f.ins.length c0_1)] 35, blk b0_2 [(.slice none 0 0)] 99, blk b0_3 [v1_1] 99, both (ow [v1_1] xs1_2) (ow [(.slice (some ⟨b1_2, 0, none⟩) 1 1)] ([(⟨0, 0, ([(⟨22, 0, 0, 0, 0⟩ : Mins)] : List Mins)⟩ : Mfn)] : List Mfn)), junk w0 hz]) [1, 2, 3, 4, 5] (by decide) rfl
      refine st_ef hf rfl rfl rfl (e_appendD (xs := xs1_2) (ys := ([(⟨0, 0, ([(⟨22, 0, 0, 0, 0⟩ : Mins)] : List Mins)⟩ : Mfn)] : List Mfn)) 3 et_97 hf hm rfl rfl rfl rfl h1_1) ?_
      clear hf a; rintro v1_2 w1_3 a hm hf
      rw [h1_1e] at hm
      refine st_y hf rfl rfl rfl (y_fieldAddr fo_99_0 rfl rfl) ?_
      clear hf a; intro a hf
      refine st_ef0 hf rfl rfl (e_store1 2 hf hm rfl Tryd.sizeOf97 rfl rfl rfl (rep_one (hm.ow_rep 3 rfl)) rfl) ?_
      clear hf a; rintro _ w1_4 a hm hf
      refine st_end ?_
      refine x_blk_n ?_
      refine x_then_n ?_
      refine wp_region_lit ?_
      refine st_y hf rfl rfl rfl (y_move rfl rfl) ?_
      clear hf a; intro a hf
      refine st_y hf rfl rfl rfl (y_add64 rfl rfl rfl (by omega) (by omega)) ?_
      clear hf a; intro a hf
      refine st_y hf rfl rfl rfl (y_assign rfl rfl) ?_
      clear hf a; intro a hf
      refine st_end ?_
      refine x_then_n ?_
      obtain rfl := Option.some.inj hb0_2
      exact ⟨_, rfl, v1_2, hf.sub ⟨rfl, rfl, rfl, rfl, rfl, trivial⟩, hm.pick [0, 1, 2, 3, 4] (by decide) rfl⟩
    ·
      clear hf hm
      rintro i0_2 xs0_2 a w ⟨v0_1, hf, hm⟩ hi0_3 hi0_4 rfl
      replace hq := sum_l hq
      refine wp_seq ?_
      refine wp_seq ?_
      refine wp_region_lit ?_
      refine st_y hf rfl rfl rfl (y_move rfl rfl) ?_
      clear hf a; intro a hf
      refine st_y hf rfl rfl rfl (y_move rfl rfl) ?_
      clear hf a; intro a hf
      refine st_y hf rfl rfl rfl (y_lss rfl rfl rfl) ?_
      clear hf a; intro a hf
      refine st_end ?_
      refine x_then_n ?_
      refine cond_f hf rfl (decide_eq_false (by omega)) ?_
      refine wp_exit ?_
      refine x_then_exit ?_
      refine x_then_exit ?_
      refine x_blk_hit ?_
      refine x_then_n ?_
      refine wp_seq ?_
      refine wp_region_lit ?_
      refine st_y hf rfl rfl rfl (y_fieldAddr fo_99_0 rfl rfl) ?_
      clear hf a; intro a hf
      refine st_y hf rfl rfl rfl (y_load1 Tryd.isAgg97 rfl rfl (hm.blk_cell 2 rfl rfl)) ?_
      clear hf a; intro a hf
      refine st_y hf rfl rfl rfl (y_loadN (cs := [(.int .i64 (f.params)), (.int .i64 (f.slots)), (.slice p0_1 f.ins.length c0_1)]) Tryd.isAgg35 Tryd.sizeOf35 rfl rfl (hm.blk_at 0 rfl)) ?_
      clear hf a; intro a hf
      refine st_ef hf rfl rfl rfl (e_build (vs := #[(0, (.agg #[(.int .i64 (f.params)), (.int .i64 (f.slots)), (.slice p0_1 f.ins.length c0_1)]))]) (cs := [(.int .i64 (f.params)), (.int .i64 (f.slots)), (.slice p0_1 f.ins.length c0_1)]) et_97 hf hm rfl rfl (by kernel_rfl) rfl rfl) ?_
      clear hf a; rintro _ w0_5 a ⟨b0_4, rfl, hm⟩ hf
      replace hm := hm.litSh (α := Mfn) (xs := [f]) 0 rfl (.cons (c := [(.int .i64 (f.params)), (.int .i64 (f.slots)), (.slice p0_1 f.ins.length c0_1)]) (x := (f : Mfn)) ⟨[(.int .i64 (f.params))], [(.int .i64 (f.slots)), (.slice p0_1 f.ins.length c0_1)], rfl, (Flat.rep_iff.2 rfl), ⟨[(.int .i64 (f.slots))], [(.slice p0_1 f.ins.length c0_1)], rfl, (Flat.rep_iff.2 rfl), h1⟩⟩ .nil) rfl rfl
      obtain ⟨hz0_1, hle0_1, hm⟩ := hm.shallow (α := Mfn) 4 rfl
      obtain ⟨ys0_1, hx0_1, hq⟩ := bnd hq
      obtain ⟨h0_1, h0_1e⟩ := appM_some.1 hx0_1
      replace hm := hm.sh_up hle0_1 0 rfl
      refine st_ef hf rfl rfl rfl (e_appendSh (α := Mfn) (xs := xs0_2) (ys := ([f] : List Mfn)) 4 et_97 hf hm rfl (hm.ow_rep 0 rfl) rfl rfl rfl h0_1) ?_
      clear hf a; rintro v0_2 w0_6 a hm hf
      rw [h0_1e] at hm
      refine st_y hf rfl rfl rfl (y_fieldAddr fo_99_0 rfl rfl) ?_
      clear hf a; intro a hf
      refine st_ef0 hf rfl rfl (e_store1 3 hf hm rfl Tryd.sizeOf97 rfl rfl rfl (rep_one (sh_read (Heap.le_trans (Heap.le_refl _) hm.lez) (hm.ow_rep 4 rfl))) rfl) ?_
      clear hf a; rintro _ w0_7 a hm hf
      refine st_end ?_
      refine x_then_n ?_
      refine wp_seq ?_
      refine wp_region_lit ?_
      refine st_y hf rfl rfl rfl (y_loadN (cs := [v0_2]) Tryd.isAgg99 Tryd.sizeOf99 rfl rfl (hm.blk_at 3 rfl)) ?_
      clear hf a; intro a hf
      refine st_ef0 hf rfl rfl (e_storeN 2 hf hm rfl Tryd.sizeOf99 rfl rfl rfl (one_cons (rep_one (sh_read (Heap.le_trans (Heap.le_refl _) hm.lez) (hm.ow_rep 4 rfl))) one_nil) rfl rfl) ?_
      clear hf a; rintro _ w0_8 a hm hf
      refine st_end ?_
      refine x_then_n ?_
      refine wp_ret ?_
      obtain rfl := Option.some.inj hq
      refine ret_cell 2 hf Tryd.results73 hm rfl rfl Tryd.isAgg99 Tryd.sizeOf99 ?_
      exact ⟨v0_2, hz0_1, rfl, hle0_1, hm.pick [5, 4] (by decide) rfl⟩

theorem spec_l22Field_ok (w0 : World) (x_ : Mins) (f : UInt8) (r : Int) (hq : spec_l22Field x_ f = some r) :
    Con Tryd.prog 64 [(.agg #[(.int .i64 (x_.op)), (.int .i64 (x_.a_)), (.int .i64 (x_.b)), (.int .i64 (x_.c)), (.int .i64 (x_.n_))]), (.int .u8 ((f).toNat : Int))] w0 (fun v w' => v = (.int .i64 (r)) ∧ Below w0.heap.size w0 w') := by
  unfold spec_l22Field at hq
  refine con_body (l := [(0, (.agg #[(.int .i64 (x_.op)), (.int .i64 (x_.a_)), (.int .i64 (x_.b)), (.int .i64 (x_.c)), (.int .i64 (x_.n_))])), (1, (.int .u8 ((f).toNat : Int)))]) Tryd.func64 rfl Tryd.ntmps64 (Args.get ⟨rfl, rfl, trivial⟩) rfl ?_
  intro a hf
  have hm := Mem.start w0
  refine wp_seq ?_
  refine wp_region_lit ?_
  refine st_ef hf rfl rfl rfl (e_box hf hm rfl rfl rfl) ?_
  clear hf a; rintro _ w0_1 a ⟨b0_1, rfl, hm⟩ hf
  refine st_y hf rfl rfl rfl (y_assign rfl rfl) ?_
  clear hf a; intro a hf
  refine st_end ?_
  refine x_then_n ?_
  refine wp_seq ?_
  refine wp_seq ?_
  refine wp_region_lit ?_
  refine st_y hf rfl rfl rfl (y_move rfl rfl) ?_
  clear hf a; intro a hf
  refine st_end ?_
  refine x_then_n ?_
  refine wp_block ?_
  refine wp_seq ?_
  refine wp_region_lit ?_
  refine st_y hf rfl rfl rfl (y_eql8 (b := f) (c := (65 : UInt8)) rfl rfl rfl) ?_
  clear hf a; intro a hf
  refine st_y hf rfl rfl rfl (y_assign rfl rfl) ?_
  clear hf a; intro a hf
  refine st_end ?_
  refine x_then_n ?_
  rcases bcases (decide (f = (65 : UInt8))) with h0_1 | h0_1
  ·
    replace hq := (ite_t h0_1).symm.trans hq
    have h0_2 := of_decide_eq_true h0_1
    refine cond_t hf rfl h0_1 ?_
    refine wp_seq ?_
    refine wp_region_lit ?_
    refine st_y hf rfl rfl rfl (y_fieldAddr fo_27_1 rfl rfl) ?_
    clear hf a; intro a hf
    refine st_y hf rfl rfl rfl (y_load1 Tryd.isAgg3 rfl rfl (hm.blk_cell 0 rfl rfl)) ?_
    clear hf a; intro a hf
    refine st_y hf rfl rfl rfl (y_assign rfl rfl) ?_
    clear hf a; intro a hf
    refine st_end ?_
    refine x_then_n ?_
    refine wp_ret ?_
    refine x_blk_ret ?_
    refine x_then_ret ?_
    obtain rfl := Option.some.inj hq
    refine ret_tmp hf Tryd.results64 rfl ?_
    exact ⟨rfl, hm.below⟩
  ·
    replace hq := (ite_f h0_1).symm.trans hq
    have h0_3 := of_decide_eq_false h0_1
    refine cond_f hf rfl h0_1 ?_
    refine wp_seq ?_
    refine wp_region_lit ?_
    refine st_y hf rfl rfl rfl (y_eql8 (b := f) (c := (66 : UInt8)) rfl rfl rfl) ?_
    clear hf a; intro a hf
    refine st_y hf rfl rfl rfl (y_assign rfl rfl) ?_
    clear hf a; intro a hf
    refine st_end ?_
    refine x_then_n ?_
    rcases bcases (decide (f = (66 : UInt8))) with h0_4 | h0_4
    ·
      replace hq := (ite_t h0_4).symm.trans hq
      have h0_5 := of_decide_eq_true h0_4
      refine cond_t hf rfl h0_4 ?_
      refine wp_seq ?_
      refine wp_region_lit ?_
      refine st_y hf rfl rfl rfl (y_fieldAddr fo_27_2 rfl rfl) ?_
      clear hf a; intro a hf
      refine st_y hf rfl rfl rfl (y_load1 Tryd.isAgg3 rfl rfl (hm.blk_cell 0 rfl rfl)) ?_
      clear hf a; intro a hf
      refine st_y hf rfl rfl rfl (y_assign rfl rfl) ?_
      clear hf a; intro a hf
      refine st_end ?_
      refine x_then_n ?_
      refine wp_ret ?_
      refine x_blk_ret ?_
      refine x_then_ret ?_
      obtain rfl := Option.some.inj hq
      refine ret_tmp hf Tryd.results64 rfl ?_
      exact ⟨rfl, hm.below⟩
    ·
      replace hq := (ite_f h0_4).symm.trans hq
      have h0_6 := of_decide_eq_false h0_4
      refine cond_f hf rfl h0_4 ?_
      refine wp_seq ?_
      refine wp_region_lit ?_
      refine st_y hf rfl rfl rfl (y_eql8 (b := f) (c := (67 : UInt8)) rfl rfl rfl) ?_
      clear hf a; intro a hf
      refine st_y hf rfl rfl rfl (y_assign rfl rfl) ?_
      clear hf a; intro a hf
      refine st_end ?_
      refine x_then_n ?_
      rcases bcases (decide (f = (67 : UInt8))) with h0_7 | h0_7
      ·
        replace hq := (ite_t h0_7).symm.trans hq
        have h0_8 := of_decide_eq_true h0_7
        refine cond_t hf rfl h0_7 ?_
        refine wp_seq ?_
        refine wp_region_lit ?_
        refine st_y hf rfl rfl rfl (y_fieldAddr fo_27_3 rfl rfl) ?_
        clear hf a; intro a hf
        refine st_y hf rfl rfl rfl (y_load1 Tryd.isAgg3 rfl rfl (hm.blk_cell 0 rfl rfl)) ?_
        clear hf a; intro a hf
        refine st_y hf rfl rfl rfl (y_assign rfl rfl) ?_
        clear hf a; intro a hf
        refine st_end ?_
        refine x_then_n ?_
        refine wp_ret ?_
        refine x_blk_ret ?_
        refine x_then_ret ?_
        obtain rfl := Option.some.inj hq
        refine ret_tmp hf Tryd.results64 rfl ?_
        exact ⟨rfl, hm.below⟩
      ·
        replace hq := (ite_f h0_7).symm.trans hq
        have h0_9 := of_decide_eq_false h0_7
        refine cond_f hf rfl h0_7 ?_
        refine wp_skip ?_
        refine x_blk_n ?_
        refine x_then_n ?_
        refine wp_seq ?_
        refine wp_region_lit ?_
        refine st_y hf rfl rfl rfl (y_fieldAddr fo_27_4 rfl rfl) ?_
        clear hf a; intro a hf
        refine st_y hf rfl rfl rfl (y_load1 Tryd.isAgg3 rfl rfl (hm.blk_cell 0 rfl rfl)) ?_
        clear hf a; intro a hf
        refine st_y hf rfl rfl rfl (y_assign rfl rfl) ?_
        clear hf a; intro a hf
        refine st_end ?_
        refine x_then_n ?_
        refine wp_ret ?_
        obtain rfl := Option.some.inj hq
        refine ret_tmp hf Tryd.results64 rfl ?_
        exact ⟨rfl, hm.below⟩

theorem spec_l22Rest_ok (w0 : World) (x_ : Mins) (fields : Str) (r : Bool) (hq : spec_l22Rest x_ fields = some r) :
    Con Tryd.prog 38 [(.agg #[(.int .i64 (x_.op)), (.int .i64 (x_.a_)), (.int .i64 (x_.b)), (.int .i64 (x_.c)), (.int .i64 (x_.n_))]), (.string ⟨(fields).b.toArray⟩)] w0 (fun v w' => v = (.bool (r)) ∧ Below w0.heap.size w0 w') := by
  unfold spec_l22Rest at hq
  refine con_body (l := [(0, (.agg #[(.int .i64 (x_.op)), (.int .i64 (x_.a_)), (.int .i64 (x_.b)), (.int .i64 (x_.c)), (.int .i64 (x_.n_))])), (1, (.string ⟨(fields).b.toArray⟩))]) Tryd.func38 rfl Tryd.ntmps38 (Args.get ⟨rfl, rfl, trivial⟩) rfl ?_
  intro a hf
  have hm := Mem.start w0
  refine wp_seq ?_
  refine wp_region_lit ?_
  refine st_ef hf rfl rfl rfl (e_box hf hm rfl rfl rfl) ?_
  clear hf a; rintro _ w0_1 a ⟨b0_1, rfl, hm⟩ hf
  refine st_y hf rfl rfl rfl (y_assign rfl rfl) ?_
  clear hf a; intro a hf
  refine st_end ?_
  refine x_then_n ?_
  refine wp_seq ?_
  refine wp_seq ?_
  refine wp_region_lit ?_
  refine st_y hf rfl rfl rfl (y_assign rfl rfl) ?_
  clear hf a; intro a hf
  refine st_end ?_
  refine x_then_n ?_
  refine wp_block ?_
  obtain ⟨r0_1, hl0_1, hq⟩ := bnd hq
  refine wp_forN _ (fun i1_1 xs1_1 a w => Fr 37 [(1, (.string ⟨(fields).b.toArray⟩)), (2, (.pointer (some ⟨b0_1, 0, none⟩))), (5, (.int .i64 (i1_1)))] a ∧ Mem w0 (hp w0) w [blk b0_1 [(.int .i64 (x_.op)), (.int .i64 (x_.a_)), (.int .i64 (x_.b)), (.int .i64 (x_.c)), (.int .i64 (x_.n_))] 27]) (0) (4) hl0_1 ?_ ?_ ?_
  ·
    exact ⟨hf.sub ⟨rfl, rfl, rfl, trivial⟩, hm.pick [0] (by decide) rfl⟩
  ·
    clear hf hm
    rintro i1_1 xs1_1 a w ⟨hf, hm⟩ hi1_1 hi1_2 q0_1 hb0_1 ho0_1
    refine wp_seq ?_
    refine wp_seq ?_
    refine wp_region_lit ?_
    refine st_y hf rfl rfl rfl (y_move rfl rfl) ?_
    clear hf a; intro a hf
    refine st_y hf rfl rfl rfl (y_lss rfl rfl rfl) ?_
    clear hf a; intro a hf
    refine st_end ?_
    refine x_then_n ?_
    refine cond_t hf rfl (decide_eq_true (by omega)) ?_
    refine wp_skip ?_
    refine x_then_n ?_
    refine wp_seq ?_
    refine wp_block ?_
    refine wp_seq ?_
    refine wp_region_lit ?_
    refine st_y hf rfl rfl rfl (y_move rfl rfl) ?_
    clear hf a; intro a hf
    obtain ⟨x1_1, hx1_1, hb0_1⟩ := bnd hb0_1
    obtain ⟨h1_1, hx1_2⟩ := getI_some.1 hx1_1
    refine st_y hf rfl rfl rfl (y_idx_str (p := (mkS [65, 66, 67, 78])) Tryd.underlying9 rfl rfl rfl h1_1 hx1_2) ?_
    clear hf a; intro a hf
    refine st_y hf rfl rfl rfl (y_assign rfl rfl) ?_
    clear hf a; intro a hf
    refine st_end ?_
    refine x_then_n ?_
    refine wp_seq ?_
    refine wp_region_lit ?_
    refine st_y hf rfl rfl rfl (y_assign rfl rfl) ?_
    clear hf a; intro a hf
    refine st_end ?_
    refine x_then_n ?_
    refine wp_seq ?_
    refine wp_seq ?_
    refine wp_region_lit ?_
    refine st_y hf rfl rfl rfl (y_assign rfl rfl) ?_
    clear hf a; intro a hf
    refine st_end ?_
    refine x_then_n ?_
    refine wp_block ?_
    obtain ⟨r1_1, hl1_1, hb0_1⟩ := bnd hb0_1
    refine wp_forN _ (fun i2_1 xs2_1 a w => Fr 37 [(1, (.string ⟨(fields).b.toArray⟩)), (2, (.pointer (some ⟨b0_1, 0, none⟩))), (5, (.int .i64 (i1_1))), (6, (.int .u8 ((x1_1).toNat : Int))), (7, (.bool (xs2_1))), (8, (.int .i64 (i2_1)))] a ∧ Mem w0 (hp w0) w [blk b0_1 [(.int .i64 (x_.op)), (.int .i64 (x_.a_)), (.int .i64 (x_.b)), (.int .i64 (x_.c)), (.int .i64 (x_.n_))] 27]) (0) (((fields).b.length : Int)) hl1_1 ?_ ?_ ?_
    ·
      exact ⟨hf.sub ⟨rfl, rfl, rfl, rfl, rfl, rfl, trivial⟩, hm.pick [0] (by decide) rfl⟩
    ·
      clear hf hm
      rintro i2_1 xs2_1 a w ⟨hf, hm⟩ hi2_1 hi2_2 q1_1 hb1_1 ho1_1
      refine wp_seq ?_
      refine wp_seq ?_
      refine wp_region_lit ?_
      refine st_y hf rfl rfl rfl (y_move rfl rfl) ?_
      clear hf a; intro a hf
      refine st_y hf rfl rfl rfl (y_move rfl rfl) ?_
      clear hf a; intro a hf
      refine st_y hf rfl rfl rfl (y_len_str (p := fields) Tryd.underlying9 rfl rfl) ?_
      clear hf a; intro a hf
      have hl2_1 := (fields).h
      refine st_y hf rfl rfl rfl (y_lss rfl rfl rfl) ?_
      clear hf a; intro a hf
      refine st_end ?_
      refine x_then_n ?_
      refine cond_t hf rfl (decide_eq_true (by omega)) ?_
      refine wp_skip ?_
      refine x_then_n ?_
      refine wp_seq ?_
      refine wp_block ?_
      obtain ⟨s2_1, hq2_1, hb1_1⟩ := bnd hb1_1
      refine code_cut (K := fun a w => Fr 37 [(1, (.string ⟨(fields).b.toArray⟩)), (2, (.pointer (some ⟨b0_1, 0, none⟩))), (5, (.int .i64 (i1_1))), (6, (.int .u8 ((x1_1).toNat : Int))), (7, (.bool (s2_1))), (8, (.int .i64 (i2_1)))] a ∧ Mem w0 (hp w0) w [blk b0_1 [(.int .i64 (x_.op)), (.int .i64 (x_.a_)), (.int .i64 (x_.b)), (.int .i64 (x_.c)), (.int .i64 (x_.n_))] 27]) ?_ ?_
      ·
        refine wp_region_lit ?_
        refine st_y hf rfl rfl rfl (y_move rfl rfl) ?_
        clear hf a; intro a hf
        refine st_y hf rfl rfl rfl (y_move rfl rfl) ?_
        clear hf a; intro a hf
        rcases bcases (xs2_1) with h3_1 | h3_1
        ·
          replace hq2_1 := (ite_t h3_1).symm.trans hq2_1
          refine st_no hf rfl rfl (lk_b rfl h3_1) rfl rfl rfl ?_
          clear hf a; intro a hf
          refine st_no hf rfl rfl (lk_b rfl h3_1) rfl rfl rfl ?_
          clear hf a; intro a hf
          refine st_no hf rfl rfl (lk_b rfl h3_1) rfl rfl rfl ?_
          clear hf a; intro a hf
          refine st_no hf rfl rfl (lk_b rfl h3_1) rfl rfl rfl ?_
          clear hf a; intro a hf
          refine st_no hf rfl rfl (lk_b rfl h3_1) rfl rfl rfl ?_
          clear hf a; intro a hf
          refine st_y hf rfl rfl rfl (y_pick_t rfl (ev_b rfl h3_1) rfl) ?_
          clear hf a; intro a hf
          refine st_y hf rfl rfl rfl (y_assign rfl rfl) ?_
          clear hf a; intro a hf
          refine st_end ?_
          refine x_then_n ?_
          obtain rfl := Option.some.inj hq2_1
          exact ⟨hf.sub ⟨rfl, rfl, rfl, rfl, rfl, rfl, trivial⟩, hm.pick [0] (by decide) rfl⟩
        ·
          replace hq2_1 := (ite_f h3_1).symm.trans hq2_1
          refine st_yg hf rfl rfl (lk_b rfl h3_1) rfl rfl (y_move rfl rfl) ?_
          clear hf a; intro a hf
          refine st_yg hf rfl rfl (lk_b rfl h3_1) rfl rfl (y_move rfl rfl) ?_
          clear hf a; intro a hf
          obtain ⟨x3_1, hx3_1, hq2_1⟩ := bnd hq2_1
          obtain ⟨h3_2, hx3_2⟩ := getI_some.1 hx3_1
          refine st_yg hf rfl rfl (lk_b rfl h3_1) rfl rfl (y_idx_str (p := fields) Tryd.underlying9 rfl rfl rfl h3_2 hx3_2) ?_
          clear hf a; intro a hf
          refine st_yg hf rfl rfl (lk_b rfl h3_1) rfl rfl (y_move rfl rfl) ?_
          clear hf a; intro a hf
          refine st_yg hf rfl rfl (lk_b rfl h3_1) rfl rfl (y_eql8 (b := x3_1) (c := x1_1) rfl rfl rfl) ?_
          clear hf a; intro a hf
          refine st_y hf rfl rfl rfl (y_pick_f rfl (ev_b rfl h3_1) rfl) ?_
          clear hf a; intro a hf
          refine st_y hf rfl rfl rfl (y_assign rfl rfl) ?_
          clear hf a; intro a hf
          refine st_end ?_
          refine x_then_n ?_
          obtain rfl := Option.some.inj hq2_1
          exact ⟨hf.sub ⟨rfl, rfl, rfl, rfl, rfl, rfl, trivial⟩, hm.pick [0] (by decide) rfl⟩
      ·
        clear hf hm
        rintro a w ⟨hf, hm⟩
        refine x_blk_n ?_
        refine x_then_n ?_
        refine wp_region_lit ?_
        refine st_y hf rfl rfl rfl (y_move rfl rfl) ?_
        clear hf a; intro a hf
        refine st_y hf rfl rfl rfl (y_add64 rfl rfl rfl (by omega) (by omega)) ?_
        clear hf a; intro a hf
        refine st_y hf rfl rfl rfl (y_assign rfl rfl) ?_
        clear hf a; intro a hf
        refine st_end ?_
        refine x_then_n ?_
        obtain rfl := Option.some.inj hb1_1
        exact ⟨_, rfl, hf.sub ⟨rfl, rfl, rfl, rfl, rfl, rfl, trivial⟩, hm.pick [0] (by decide) rfl⟩
    ·
      clear hf hm
      rintro i1_2 xs1_2 a w ⟨hf, hm⟩ hi1_3 hi1_4 rfl
      replace hb0_1 := sum_l hb0_1
      refine wp_seq ?_
      refine wp_seq ?_
      refine wp_region_lit ?_
      refine st_y hf rfl rfl rfl (y_move rfl rfl) ?_
      clear hf a; intro a hf
      refine st_y hf rfl rfl rfl (y_move rfl rfl) ?_
      clear hf a; intro a hf
      refine st_y hf rfl rfl rfl (y_len_str (p := fields) Tryd.underlying9 rfl rfl) ?_
      clear hf a; intro a hf
      have hl1_2 := (fields).h
      refine st_y hf rfl rfl rfl (y_lss rfl rfl rfl) ?_
      clear hf a; intro a hf
      refine st_end ?_
      refine x_then_n ?_
      refine cond_f hf rfl (decide_eq_false (by omega)) ?_
      refine wp_exit ?_
      refine x_then_exit ?_
      refine x_then_exit ?_
      refine x_blk_hit ?_
      refine x_then_n ?_
      refine wp_seq ?_
      obtain ⟨s1_1, hq1_1, hb0_1⟩ := bnd hb0_1
      refine code_cut (K := fun a w => Fr 37 [(1, (.string ⟨(fields).b.toArray⟩)), (2, (.pointer (some ⟨b0_1, 0, none⟩))), (5, (.int .i64 (i1_1))), (36, (.bool (s1_1)))] a ∧ Mem w0 (hp w0) w [blk b0_1 [(.int .i64 (x_.op)), (.int .i64 (x_.a_)), (.int .i64 (x_.b)), (.int .i64 (x_.c)), (.int .i64 (x_.n_))] 27]) ?_ ?_
      ·
        refine wp_region_lit ?_
        refine st_y hf rfl rfl rfl (y_move rfl rfl) ?_
        clear hf a; intro a hf
        refine st_y hf rfl rfl rfl (y_not rfl rfl) ?_
        clear hf a; intro a hf
        refine st_y hf rfl rfl rfl (y_move rfl rfl) ?_
        clear hf a; intro a hf
        rcases bcases (!(xs1_2)) with h2_1 | h2_1
        ·
          replace hq1_1 := (ite_t h2_1).symm.trans hq1_1
          have h2_2 := bnot_t' h2_1
          refine st_yg hf rfl rfl (lk_b rfl h2_1) rfl rfl (y_loadN (cs := [(.int .i64 (x_.op)), (.int .i64 (x_.a_)), (.int .i64 (x_.b)), (.int .i64 (x_.c)), (.int .i64 (x_.n_))]) Tryd.isAgg27 Tryd.sizeOf27 rfl rfl (hm.blk_at 0 rfl)) ?_
          clear hf a; intro a hf
          refine st_yg hf rfl rfl (lk_b rfl h2_1) rfl rfl (y_move rfl rfl) ?_
          clear hf a; intro a hf
          obtain ⟨r2_1, hx2_1, hq1_1⟩ := bnd hq1_1
          refine st_efg hf rfl rfl (lk_b rfl h2_1) rfl rfl (e_call hf rfl Tryd.call64 rfl (spec_l22Field_ok _ x_ x1_1 _ hx2_1)) ?_
          clear hf a; rintro v2_1 w2_1 a ho2_1 hf
          obtain ⟨rfl, hB⟩ := ho2_1
          replace hm := hm.below' hB; clear hB
          refine st_yg hf rfl rfl (lk_b rfl h2_1) rfl rfl (y_neq rfl rfl rfl) ?_
          clear hf a; intro a hf
          refine st_y hf rfl rfl rfl (y_pick_t rfl (ev_b rfl h2_1) rfl) ?_
          clear hf a; intro a hf
          refine st_end ?_
          refine x_then_n ?_
          obtain rfl := Option.some.inj hq1_1
          exact ⟨hf.sub ⟨rfl, rfl, rfl, rfl, trivial⟩, hm.pick [0] (by decide) rfl⟩
        ·
          replace hq1_1 := (ite_f h2_1).symm.trans hq1_1
          have h2_3 := bnot_f' h2_1
          refine st_no hf rfl rfl (lk_b rfl h2_1) rfl rfl rfl ?_
          clear hf a; intro a hf
          refine st_no hf rfl rfl (lk_b rfl h2_1) rfl rfl rfl ?_
          clear hf a; intro a hf
          refine st_no hf rfl rfl (lk_b rfl h2_1) rfl rfl rfl ?_
          clear hf a; intro a hf
          refine st_no hf rfl rfl (lk_b rfl h2_1) rfl rfl rfl ?_
          clear hf a; intro a hf
          refine st_y hf rfl rfl rfl (y_pick_f rfl (ev_b rfl h2_1) rfl) ?_
          clear hf a; intro a hf
          refine st_end ?_
          refine x_then_n ?_
          obtain rfl := Option.some.inj hq1_1
          exact ⟨hf.sub ⟨rfl, rfl, rfl, rfl, trivial⟩, hm.pick [0] (by decide) rfl⟩
      ·
        clear hf hm
        rintro a w ⟨hf, hm⟩
        refine x_then_n ?_
        rcases bcases (s1_1) with h1_2 | h1_2
        ·
          replace hb0_1 := (ite_t h1_2).symm.trans hb0_1
          refine cond_t hf rfl h1_2 ?_
          refine wp_seq ?_
          refine wp_region_lit ?_
          refine st_y hf rfl rfl rfl (y_assign rfl rfl) ?_
          clear hf a; intro a hf
          refine st_end ?_
          refine x_then_n ?_
          refine wp_ret ?_
          refine x_blk_ret ?_
          refine x_then_ret ?_
          refine x_then_ret ?_
          refine x_blk_ret ?_
          refine x_then_ret ?_
          obtain rfl := Option.some.inj hb0_1
          obtain rfl := ho0_1 _ rfl
          replace hq := sum_r hq
          obtain rfl := Option.some.inj hq
          refine ret_tmp hf Tryd.results38 rfl ?_
          exact ⟨rfl, hm.below⟩
        ·
          replace hb0_1 := (ite_f h1_2).symm.trans hb0_1
          refine cond_f hf rfl h1_2 ?_
          refine wp_skip ?_
          refine x_blk_n ?_
          refine x_then_n ?_
          refine wp_region_lit ?_
          refine st_y hf rfl rfl rfl (y_move rfl rfl) ?_
          clear hf a; intro a hf
          refine st_y hf rfl rfl rfl (y_add64 rfl rfl rfl (by omega) (by omega)) ?_
          clear hf a; intro a hf
          refine st_y hf rfl rfl rfl (y_assign rfl rfl) ?_
          clear hf a; intro a hf
          refine st_end ?_
          refine x_then_n ?_
          obtain rfl := Option.some.inj hb0_1
          exact ⟨_, rfl, hf.sub ⟨rfl, rfl, rfl, trivial⟩, hm.pick [0] (by decide) rfl⟩
  ·
    clear hf hm
    rintro i0_1 xs0_1 a w ⟨hf, hm⟩ hi0_1 hi0_2 rfl
    replace hq := sum_l hq
    refine wp_seq ?_
    refine wp_seq ?_
    refine wp_region_lit ?_
    refine st_y hf rfl rfl rfl (y_move rfl rfl) ?_
    clear hf a; intro a hf
    refine st_y hf rfl rfl rfl (y_lss rfl rfl rfl) ?_
    clear hf a; intro a hf
    refine st_end ?_
    refine x_then_n ?_
    refine cond_f hf rfl (decide_eq_false (by omega)) ?_
    refine wp_exit ?_
    refine x_then_exit ?_
    refine x_then_exit ?_
    refine x_blk_hit ?_
    refine x_then_n ?_
    refine wp_seq ?_
    refine wp_region_lit ?_
    refine st_y hf rfl rfl rfl (y_assign rfl rfl) ?_
    clear hf a; intro a hf
    refine st_end ?_
    refine x_then_n ?_
    refine wp_ret ?_
    obtain rfl := Option.some.inj hq
    refine ret_tmp hf Tryd.results38 rfl ?_
    exact ⟨rfl, hm.below⟩

theorem spec_l22Ins_ok (w0 : World) (m : Mach) (v1 : Value) (h1 : GT.rep (hp w0) [v1] m.fns) (k_ : Int) (x_ : Mins) (r : Bool) (hq : spec_l22Ins m k_ x_ = some r) :
    Con Tryd.prog 83 [(.agg #[v1]), (.int .i64 (k_)), (.agg #[(.int .i64 (x_.op)), (.int .i64 (x_.a_)), (.int .i64 (x_.b)), (.int .i64 (x_.c)), (.int .i64 (x_.n_))])] w0 (fun v w' => v = (.bool (r)) ∧ Below w0.heap.size w0 w') := by
  unfold spec_l22Ins at hq
  refine con_body (l := [(0, (.agg #[v1])), (1, (.int .i64 (k_))), (2, (.agg #[(.int .i64 (x_.op)), (.int .i64 (x_.a_)), (.int .i64 (x_.b)), (.int .i64 (x_.c)), (.int .i64 (x_.n_))]))]) Tryd.func83 rfl Tryd.ntmps83 (Args.get ⟨rfl, rfl, rfl, trivial⟩) rfl ?_
  intro a hf
  have hm := Mem.start w0
  refine wp_seq ?_
  refine wp_region_lit ?_
  refine st_ef hf rfl rfl rfl (e_box hf hm rfl rfl rfl) ?_
  clear hf a; rintro _ w0_1 a ⟨b0_1, rfl, hm⟩ hf
  refine st_ef hf rfl rfl rfl (e_box hf hm rfl rfl rfl) ?_
  clear hf a; rintro _ w0_2 a ⟨b0_2, rfl, hm⟩ hf
  refine st_y hf rfl rfl rfl (y_assign rfl rfl) ?_
  clear hf a; intro a hf
  refine st_end ?_
  refine x_then_n ?_
  refine wp_seq ?_
  refine wp_region_lit ?_
  refine st_y hf rfl rfl rfl (y_fieldAddr fo_99_0 rfl rfl) ?_
  clear hf a; intro a hf
  refine st_y hf rfl rfl rfl (y_load1 Tryd.isAgg97 rfl rfl (hm.blk_cell 1 rfl rfl)) ?_
  clear hf a; intro a hf
  refine st_y hf rfl rfl rfl (y_move rfl rfl) ?_
  clear hf a; intro a hf
  obtain ⟨x0_1, hx0_1, hq⟩ := bnd hq
  obtain ⟨h0_1, hx0_2⟩ := getI_some.1 hx0_1
  obtain ⟨b0_3, o0_1, c0_1, he⟩ := idx_form' h1 hx0_2
  subst he
  obtain ⟨_, _, hc0_1, hr0_1⟩ := ro_get' h1 hx0_2
  obtain ⟨_, _, rfl, rfl, _, _, rfl, rfl, h0_2⟩ := hr0_1
  obtain ⟨v0_1, rfl, -⟩ := id h0_2
  replace h0_2 : GT.rep (hp w0) [v0_1] x0_1.ins := h0_2
  replace hc0_1 : CellsAt (hp w0) b0_3 (o0_1 + (k_).toNat * 3) [(.int .i64 (x0_1.params)), (.int .i64 (x0_1.slots)), v0_1] := hc0_1
  refine st_y hf rfl rfl rfl (y_indexAddr st_97 rfl rfl rfl h0_1 (idx_lt hx0_2)) ?_
  clear hf a; intro a hf
  refine st_y hf rfl rfl rfl (y_loadN (cs := [(.int .i64 (x0_1.params)), (.int .i64 (x0_1.slots)), v0_1]) Tryd.isAgg35 Tryd.sizeOf35 rfl rfl (hc0_1.mono hm.lez)) ?_
  clear hf a; intro a hf
  refine st_ef hf rfl rfl rfl (e_alloc hm Tryd.zeroValue35 rfl rfl) ?_
  clear hf a; rintro _ w0_3 a ⟨b0_4, rfl, hm⟩ hf
  refine st_ef0 hf rfl rfl (e_storeN 0 hf hm rfl Tryd.sizeOf35 rfl rfl rfl (one_cons rfl (one_cons rfl (one_cons (rep_one h0_2) one_nil))) rfl rfl) ?_
  clear hf a; rintro _ w0_4 a hm hf
  refine st_end ?_
  refine x_then_n ?_
  refine wp_seq ?_
  refine wp_region_lit ?_
  refine st_y hf rfl rfl rfl (y_fieldAddr fo_27_0 rfl rfl) ?_
  clear hf a; intro a hf
  refine st_y hf rfl rfl rfl (y_load1 Tryd.isAgg3 rfl rfl (hm.blk_cell 1 rfl rfl)) ?_
  clear hf a; intro a hf
  obtain ⟨r0_1, hx0_3, hq⟩ := bnd hq
  refine st_ef hf rfl rfl rfl (e_call hf rfl Tryd.call36 rfl (spec_l22Word_ok _ x_.op _ hx0_3)) ?_
  clear hf a; rintro v0_2 w0_5 a ho0_1 hf
  obtain ⟨rfl, hB⟩ := ho0_1
  replace hm := hm.below' hB; clear hB
  refine st_y hf rfl rfl rfl (y_move rfl rfl) ?_
  clear hf a; intro a hf
  refine st_y hf rfl rfl rfl (y_extract rfl rfl rfl) ?_
  clear hf a; intro a hf
  refine st_y hf rfl rfl rfl (y_extract rfl rfl rfl) ?_
  clear hf a; intro a hf
  refine st_y hf rfl rfl rfl (y_assign rfl rfl) ?_
  clear hf a; intro a hf
  refine st_y hf rfl rfl rfl (y_assign rfl rfl) ?_
  clear hf a; intro a hf
  refine st_end ?_
  refine x_then_n ?_
  refine wp_seq ?_
  refine wp_seq ?_
  obtain ⟨s0_1, hq0_1, hq⟩ := bnd hq
  refine code_cut (K := fun a w => Fr 95 [(1, (.int .i64 (k_))), (5, (.pointer (some ⟨b0_2, 0, none⟩))), (7, (.pointer (some ⟨b0_4, 0, none⟩))), (9, (.string ⟨(r0_1.2).b.toArray⟩)), (29, (.bool (s0_1)))] a ∧ Mem w0 (hp w0) w [blk b0_2 [(.int .i64 (x_.op)), (.int .i64 (x_.a_)), (.int .i64 (x_.b)), (.int .i64 (x_.c)), (.int .i64 (x_.n_))] 27, blk b0_4 [(.int .i64 (x0_1.params)), (.int .i64 (x0_1.slots)), v0_1] 35]) ?_ ?_
  ·
    refine wp_region_lit ?_
    refine st_y hf rfl rfl rfl (y_move rfl rfl) ?_
    clear hf a; intro a hf
    refine st_y hf rfl rfl rfl (y_eqls (p := r0_1.2) (q := (mkS [])) rfl rfl rfl) ?_
    clear hf a; intro a hf
    refine st_y hf rfl rfl rfl (y_move rfl rfl) ?_
    clear hf a; intro a hf
    rcases bcases (decide (r0_1.2 = (mkS []))) with h1_1 | h1_1
    ·
      replace hq0_1 := (ite_t h1_1).symm.trans hq0_1
      have h1_2 := of_decide_eq_true h1_1
      refine st_no hf rfl rfl (lk_b rfl h1_1) rfl rfl rfl ?_
      clear hf a; intro a hf
      refine st_no hf rfl rfl (lk_b rfl h1_1) rfl rfl rfl ?_
      clear hf a; intro a hf
      refine st_no hf rfl rfl (lk_b rfl h1_1) rfl rfl rfl ?_
      clear hf a; intro a hf
      refine st_no hf rfl rfl (lk_b rfl h1_1) rfl rfl rfl ?_
      clear hf a; intro a hf
      refine st_y hf rfl rfl rfl (y_pick_t rfl (ev_b rfl h1_1) rfl) ?_
      clear hf a; intro a hf
      refine st_end ?_
      refine x_then_n ?_
      obtain rfl := Option.some.inj hq0_1
      exact ⟨hf.sub ⟨rfl, rfl, rfl, rfl, rfl, trivial⟩, hm.pick [1, 0] (by decide) rfl⟩
    ·
      replace hq0_1 := (ite_f h1_1).symm.trans hq0_1
      have h1_3 := of_decide_eq_false h1_1
      refine st_yg hf rfl rfl (lk_b rfl h1_1) rfl rfl (y_loadN (cs := [(.int .i64 (x_.op)), (.int .i64 (x_.a_)), (.int .i64 (x_.b)), (.int .i64 (x_.c)), (.int .i64 (x_.n_))]) Tryd.isAgg27 Tryd.sizeOf27 rfl rfl (hm.blk_at 1 rfl)) ?_
      clear hf a; intro a hf
      refine st_yg hf rfl rfl (lk_b rfl h1_1) rfl rfl (y_move rfl rfl) ?_
      clear hf a; intro a hf
      obtain ⟨r1_1, hx1_1, hq0_1⟩ := bnd hq0_1
      refine st_efg hf rfl rfl (lk_b rfl h1_1) rfl rfl (e_call hf rfl Tryd.call38 rfl (spec_l22Rest_ok _ x_ r0_1.2 _ hx1_1)) ?_
      clear hf a; rintro v1_1 w1_1 a ho1_1 hf
      obtain ⟨rfl, hB⟩ := ho1_1
      replace hm := hm.below' hB; clear hB
      refine st_yg hf rfl rfl (lk_b rfl h1_1) rfl rfl (y_not rfl rfl) ?_
      clear hf a; intro a hf
      refine st_y hf rfl rfl rfl (y_pick_f rfl (ev_b rfl h1_1) rfl) ?_
      clear hf a; intro a hf
      refine st_end ?_
      refine x_then_n ?_
      obtain rfl := Option.some.inj hq0_1
      exact ⟨hf.sub ⟨rfl, rfl, rfl, rfl, rfl, trivial⟩, hm.pick [1, 0] (by decide) rfl⟩
  ·
    clear hf hm
    rintro a w ⟨hf, hm⟩
    refine x_then_n ?_
    rcases bcases (s0_1) with h0_3 | h0_3
    ·
      replace hq := (ite_t h0_3).symm.trans hq
      refine cond_t hf rfl h0_3 ?_
      refine wp_seq ?_
      refine wp_region_lit ?_
      refine st_y hf rfl rfl rfl (y_assign rfl rfl) ?_
      clear hf a; intro a hf
      refine st_end ?_
      refine x_then_n ?_
      refine wp_ret ?_
      refine x_then_ret ?_
      obtain rfl := Option.some.inj hq
      refine ret_tmp hf Tryd.results83 rfl ?_
      exact ⟨rfl, hm.below⟩
    ·
      replace hq := (ite_f h0_3).symm.trans hq
      refine cond_f hf rfl h0_3 ?_
      refine wp_skip ?_
      refine x_then_n ?_
      refine wp_seq ?_
      refine wp_seq ?_
      refine wp_region_lit ?_
      refine st_y hf rfl rfl rfl (y_assign rfl rfl) ?_
      clear hf a; intro a hf
      refine st_end ?_
      refine x_then_n ?_
      refine wp_block ?_
      obtain ⟨r0_2, hl0_1, hq⟩ := bnd hq
      refine wp_forN _ (fun i1_1 xs1_1 a w => Fr 95 [(1, (.int .i64 (k_))), (5, (.pointer (some ⟨b0_2, 0, none⟩))), (7, (.pointer (some ⟨b0_4, 0, none⟩))), (9, (.string ⟨(r0_1.2).b.toArray⟩)), (10, (.int .i64 (i1_1)))] a ∧ Mem w0 (hp w0) w [blk b0_2 [(.int .i64 (x_.op)), (.int .i64 (x_.a_)), (.int .i64 (x_.b)), (.int .i64 (x_.c)), (.int .i64 (x_.n_))] 27, blk b0_4 [(.int .i64 (x0_1.params)), (.int .i64 (x0_1.slots)), v0_1] 35]) (0) (((r0_1.2).b.length : Int)) hl0_1 ?_ ?_ ?_
      ·
        exact ⟨hf.sub ⟨rfl, rfl, rfl, rfl, rfl, trivial⟩, hm.pick [0, 1] (by decide) rfl⟩
      ·
        clear hf hm
        rintro i1_1 xs1_1 a w ⟨hf, hm⟩ hi1_1 hi1_2 q0_1 hb0_1 ho0_2
        refine wp_seq ?_
        refine wp_seq ?_
        refine wp_region_lit ?_
        refine st_y hf rfl rfl rfl (y_move rfl rfl) ?_
        clear hf a; intro a hf
        refine st_y hf rfl rfl rfl (y_move rfl rfl) ?_
        clear hf a; intro a hf
        refine st_y hf rfl rfl rfl (y_len_str (p := r0_1.2) Tryd.underlying9 rfl rfl) ?_
        clear hf a; intro a hf
        have hl1_1 := (r0_1.2).h
        refine st_y hf rfl rfl rfl (y_lss rfl rfl rfl) ?_
        clear hf a; intro a hf
        refine st_end ?_
        refine x_then_n ?_
        refine cond_t hf rfl (decide_eq_true (by omega)) ?_
        refine wp_skip ?_
        refine x_then_n ?_
        refine wp_seq ?_
        refine wp_block ?_
        refine wp_seq ?_
        obtain ⟨s1_1, hq1_1, hb0_1⟩ := bnd hb0_1
        refine code_cut (K := fun a w => Fr 95 [(1, (.int .i64 (k_))), (5, (.pointer (some ⟨b0_2, 0, none⟩))), (7, (.pointer (some ⟨b0_4, 0, none⟩))), (9, (.string ⟨(r0_1.2).b.toArray⟩)), (10, (.int .i64 (i1_1))), (48, (.bool (s1_1)))] a ∧ Mem w0 (hp w0) w [blk b0_2 [(.int .i64 (x_.op)), (.int .i64 (x_.a_)), (.int .i64 (x_.b)), (.int .i64 (x_.c)), (.int .i64 (x_.n_))] 27, blk b0_4 [(.int .i64 (x0_1.params)), (.int .i64 (x0_1.slots)), v0_1] 35]) ?_ ?_
        ·
          refine wp_tree (.p 0 (.p 1 (.p 2 (.p 3 (.p 4 (.p 6 (.p 7 (.p 8 (.e 5 (.e 9 (.e 10 (.p 11 (.p 12 .fin)) .nil) .nil) .nil))))))))) [] [0, 1, 2, 3, 4, 6, 7, 8, 11, 12] (fun w => Mem w0 (hp w0) w [blk b0_2 [(.int .i64 (x_.op)), (.int .i64 (x_.a_)), (.int .i64 (x_.b)), (.int .i64 (x_.c)), (.int .i64 (x_.n_))] 27, blk b0_4 [(.int .i64 (x0_1.params)), (.int .i64 (x0_1.slots)), v0_1] 35]) (by kernel_rfl) (by kernel_rfl) (fun _ _ _ h => h.2) ?_
          replace hm := hm.drew
          have hS : Mem w0 (hp w0) _ [blk b0_2 [(.int .i64 (x_.op)), (.int .i64 (x_.a_)), (.int .i64 (x_.b)), (.int .i64 (x_.c)), (.int .i64 (x_.n_))] 27, blk b0_4 [(.int .i64 (x0_1.params)), (.int .i64 (x0_1.slots)), v0_1] 35] := hm.pick [0, 1] (by decide) rfl
          refine td_p hf rfl rfl rfl rfl (fun w => y_move rfl rfl) ?_
          clear hf a; intro a hf
          refine td_p hf rfl rfl rfl rfl (fun w => y_move rfl rfl) ?_
          clear hf a; intro a hf
          obtain ⟨x2_1, hx2_1, hq1_1⟩ := bnd hq1_1
          obtain ⟨h2_1, hx2_2⟩ := getI_some.1 hx2_1
          refine td_p hf rfl rfl rfl rfl (fun w => y_idx_str (p := r0_1.2) Tryd.underlying9 rfl rfl rfl h2_1 hx2_2) ?_
          clear hf a; intro a hf
          refine td_p hf rfl rfl rfl rfl (fun w => y_neq8 (b := x2_1) (c := (78 : UInt8)) rfl rfl rfl) ?_
          clear hf a; intro a hf
          refine td_p hf rfl rfl rfl rfl (fun w => y_move rfl rfl) ?_
          clear hf a; intro a hf
          rcases bcases (decide (x2_1 ≠ (78 : UInt8))) with h2_2 | h2_2
          ·
            replace hq1_1 := (ite_t h2_2).symm.trans hq1_1
            have h2_3 := of_decide_eq_true h2_2
            refine td_pg hf rfl rfl rfl (lk_b rfl h2_2) rfl rfl (fun w => y_move rfl rfl) ?_
            clear hf a; intro a hf
            refine td_pg hf rfl rfl rfl (lk_b rfl h2_2) rfl rfl (fun w => y_move rfl rfl) ?_
            clear hf a; intro a hf
            obtain ⟨x2_2, hx2_3, hq1_1⟩ := bnd hq1_1
            obtain ⟨h2_4, hx2_4⟩ := getI_some.1 hx2_3
            refine td_pg hf rfl rfl rfl (lk_b rfl h2_2) rfl rfl (fun w => y_idx_str (p := r0_1.2) Tryd.underlying9 rfl rfl rfl h2_4 hx2_4) ?_
            clear hf a; intro a hf
            refine te_one ?_
            refine td_efg hf rfl rfl rfl (lk_b rfl h2_2) rfl rfl (ef_y hf (y_loadN (cs := [(.int .i64 (x_.op)), (.int .i64 (x_.a_)), (.int .i64 (x_.b)), (.int .i64 (x_.c)), (.int .i64 (x_.n_))]) Tryd.isAgg27 Tryd.sizeOf27 rfl rfl (hm.blk_at 0 rfl))) ?_
            clear hf a; rintro _ _ a ⟨rfl, rfl⟩ hf
            refine ⟨fun h => absurd h (by decide), ?_⟩
            refine te_one ?_
            obtain ⟨r2_1, hx2_5, hq1_1⟩ := bnd hq1_1
            refine td_efg hf rfl rfl rfl (lk_b rfl h2_2) rfl rfl (e_call hf rfl Tryd.call64 rfl (spec_l22Field_ok _ x_ x2_2 _ hx2_5)) ?_
            clear hf a; rintro v2_1 w2_1 a ho2_1 hf
            obtain ⟨rfl, hB⟩ := ho2_1
            replace hm := hm.below' hB; clear hB
            refine ⟨fun h => absurd h (by decide), ?_⟩
            refine te_one ?_
            obtain ⟨r2_2, hx2_6, hq1_1⟩ := bnd hq1_1
            refine td_efg hf rfl rfl rfl (lk_b rfl h2_2) rfl rfl (e_call hf rfl Tryd.call39 rfl (spec_l1In_ok _ r2_1 0 7 _ hx2_6)) ?_
            clear hf a; rintro v2_2 w2_2 a ho2_2 hf
            obtain ⟨rfl, hB⟩ := ho2_2
            replace hm := hm.below' hB; clear hB
            refine ⟨fun h => absurd h (by decide), ?_⟩
            refine td_pg hf rfl rfl rfl (lk_b rfl h2_2) rfl rfl (fun w => y_not rfl rfl) ?_
            clear hf a; intro a hf
            refine td_p hf rfl rfl rfl rfl (fun w => y_pick_t rfl (ev_b rfl h2_2) rfl) ?_
            clear hf a; intro a hf
            clear hS; refine td_end ?_
            refine x_then_n ?_
            obtain rfl := Option.some.inj hq1_1
            exact ⟨hf.sub ⟨rfl, rfl, rfl, rfl, rfl, rfl, trivial⟩, hm.pick [0, 1] (by decide) rfl⟩
          ·
            replace hq1_1 := (ite_f h2_2).symm.trans hq1_1
            have h2_5 := of_decide_eq_false h2_2
            refine td_pno hf rfl rfl rfl (lk_b rfl h2_2) rfl rfl rfl ?_
            clear hf a; intro a hf
            refine td_pno hf rfl rfl rfl (lk_b rfl h2_2) rfl rfl rfl ?_
            clear hf a; intro a hf
            refine td_pno hf rfl rfl rfl (lk_b rfl h2_2) rfl rfl rfl ?_
            clear hf a; intro a hf
            refine te_one ?_
            refine td_no' hf rfl rfl rfl (lk_b rfl h2_2) rfl rfl rfl ?_
            clear hf a; intro a hf
            refine ⟨fun h => absurd h (by decide), ?_⟩
            refine te_one ?_
            refine td_no' hf rfl rfl rfl (lk_b rfl h2_2) rfl rfl rfl ?_
            clear hf a; intro a hf
            refine ⟨fun h => absurd h (by decide), ?_⟩
            refine te_one ?_
            refine td_no' hf rfl rfl rfl (lk_b rfl h2_2) rfl rfl rfl ?_
            clear hf a; intro a hf
            refine ⟨fun h => absurd h (by decide), ?_⟩
            refine td_pno hf rfl rfl rfl (lk_b rfl h2_2) rfl rfl rfl ?_
            clear hf a; intro a hf
            refine td_p hf rfl rfl rfl rfl (fun w => y_pick_f rfl (ev_b rfl h2_2) rfl) ?_
            clear hf a; intro a hf
            clear hS; refine td_end ?_
            refine x_then_n ?_
            obtain rfl := Option.some.inj hq1_1
            exact ⟨hf.sub ⟨rfl, rfl, rfl, rfl, rfl, rfl, trivial⟩, hm.pick [0, 1] (by decide) rfl⟩
        ·
          clear hf hm
          rintro a w ⟨hf, hm⟩
          refine x_then_n ?_
          rcases bcases (s1_1) with h1_4 | h1_4
          ·
            replace hb0_1 := (ite_t h1_4).symm.trans hb0_1
            refine cond_t hf rfl h1_4 ?_
            refine wp_seq ?_
            refine wp_region_lit ?_
            refine st_y hf rfl rfl rfl (y_assign rfl rfl) ?_
            clear hf a; intro a hf
            refine st_end ?_
            refine x_then_n ?_
            refine wp_ret ?_
            refine x_blk_ret ?_
            refine x_then_ret ?_
            refine x_then_ret ?_
            refine x_blk_ret ?_
            refine x_then_ret ?_
            obtain rfl := Option.some.inj hb0_1
            obtain rfl := ho0_2 _ rfl
            replace hq := sum_r hq
            obtain rfl := Option.some.inj hq
            refine ret_tmp hf Tryd.results83 rfl ?_
            exact ⟨rfl, hm.below⟩
          ·
            replace hb0_1 := (ite_f h1_4).symm.trans hb0_1
            refine cond_f hf rfl h1_4 ?_
            refine wp_skip ?_
            refine x_blk_n ?_
            refine x_then_n ?_
            refine wp_region_lit ?_
            refine st_y hf rfl rfl rfl (y_move rfl rfl) ?_
            clear hf a; intro a hf
            refine st_y hf rfl rfl rfl (y_add64 rfl rfl rfl (by omega) (by omega)) ?_
            clear hf a; intro a hf
            refine st_y hf rfl rfl rfl (y_assign rfl rfl) ?_
            clear hf a; intro a hf
            refine st_end ?_
            refine x_then_n ?_
            obtain rfl := Option.some.inj hb0_1
            exact ⟨_, rfl, hf.sub ⟨rfl, rfl, rfl, rfl, rfl, trivial⟩, hm.pick [0, 1] (by decide) rfl⟩
      ·
        clear hf hm
        rintro i0_1 xs0_1 a w ⟨hf, hm⟩ hi0_1 hi0_2 rfl
        replace hq := sum_l hq
        refine wp_seq ?_
        refine wp_seq ?_
        refine wp_region_lit ?_
        refine st_y hf rfl rfl rfl (y_move rfl rfl) ?_
        clear hf a; intro a hf
        refine st_y hf rfl rfl rfl (y_move rfl rfl) ?_
        clear hf a; intro a hf
        refine st_y hf rfl rfl rfl (y_len_str (p := r0_1.2) Tryd.underlying9 rfl rfl) ?_
        clear hf a; intro a hf
        have hl0_2 := (r0_1.2).h
        refine st_y hf rfl rfl rfl (y_lss rfl rfl rfl) ?_
        clear hf a; intro a hf
        refine st_end ?_
        refine x_then_n ?_
        refine cond_f hf rfl (decide_eq_false (by omega)) ?_
        refine wp_exit ?_
        refine x_then_exit ?_
        refine x_then_exit ?_
        refine x_blk_hit ?_
        refine x_then_n ?_
        refine wp_seq ?_
        refine wp_seq ?_
        refine wp_region_lit ?_
        refine st_y hf rfl rfl rfl (y_fieldAddr fo_27_0 rfl rfl) ?_
        clear hf a; intro a hf
        refine st_y hf rfl rfl rfl (y_load1 Tryd.isAgg3 rfl rfl (hm.blk_cell 0 rfl rfl)) ?_
        clear hf a; intro a hf
        refine st_end ?_
        refine x_then_n ?_
        refine wp_block ?_
        refine wp_seq ?_
        refine wp_region_lit ?_
        refine st_y hf rfl rfl rfl (y_eql rfl rfl rfl) ?_
        clear hf a; intro a hf
        refine st_y hf rfl rfl rfl (y_assign rfl rfl) ?_
        clear hf a; intro a hf
        refine st_end ?_
        refine x_then_n ?_
        rcases bcases (decide (x_.op = 1)) with h0_4 | h0_4
        ·
          replace hq := (ite_t h0_4).symm.trans hq
          have h0_5 := of_decide_eq_true h0_4
          refine cond_t hf rfl h0_4 ?_
          refine wp_seq ?_
          refine wp_region_lit ?_
          refine st_y hf rfl rfl rfl (y_fieldAddr fo_27_4 rfl rfl) ?_
          clear hf a; intro a hf
          refine st_y hf rfl rfl rfl (y_load1 Tryd.isAgg3 rfl rfl (hm.blk_cell 0 rfl rfl)) ?_
          clear hf a; intro a hf
          obtain ⟨r0_3, hx0_4, hq⟩ := bnd hq
          refine st_ef hf rfl rfl rfl (e_call hf rfl Tryd.call39 rfl (spec_l1In_ok _ x_.n_ 0 255 _ hx0_4)) ?_
          clear hf a; rintro v0_3 w0_6 a ho0_3 hf
          obtain ⟨rfl, hB⟩ := ho0_3
          replace hm := hm.below' hB; clear hB
          refine st_y hf rfl rfl rfl (y_assign rfl rfl) ?_
          clear hf a; intro a hf
          refine st_end ?_
          refine x_then_n ?_
          refine wp_ret ?_
          refine x_blk_ret ?_
          refine x_then_ret ?_
          obtain rfl := Option.some.inj hq
          refine ret_tmp hf Tryd.results83 rfl ?_
          exact ⟨rfl, hm.below⟩
        ·
          replace hq := (ite_f h0_4).symm.trans hq
          have h0_6 := of_decide_eq_false h0_4
          refine cond_f hf rfl h0_4 ?_
          refine wp_seq ?_
          refine wp_region_lit ?_
          refine st_y hf rfl rfl rfl (y_eql rfl rfl rfl) ?_
          clear hf a; intro a hf
          refine st_y hf rfl rfl rfl (y_assign rfl rfl) ?_
          clear hf a; intro a hf
          refine st_end ?_
          refine x_then_n ?_
          rcases bcases (decide (x_.op = 14)) with h0_7 | h0_7
          ·
            replace hq := (ite_t h0_7).symm.trans hq
            have h0_8 := of_decide_eq_true h0_7
            refine cond_t hf rfl h0_7 ?_
            refine wp_seq ?_
            refine wp_region_lit ?_
            refine st_y hf rfl rfl rfl (y_fieldAddr fo_27_4 rfl rfl) ?_
            clear hf a; intro a hf
            refine st_y hf rfl rfl rfl (y_load1 Tryd.isAgg3 rfl rfl (hm.blk_cell 0 rfl rfl)) ?_
            clear hf a; intro a hf
            refine st_y hf rfl rfl rfl (y_move rfl rfl) ?_
            clear hf a; intro a hf
            refine st_y hf rfl rfl rfl (y_subw rfl rfl rfl) ?_
            clear hf a; intro a hf
            obtain ⟨r0_4, hx0_5, hq⟩ := bnd hq
            refine st_ef hf rfl rfl rfl (e_call hf rfl Tryd.call39 rfl (spec_l1In_ok _ x_.n_ 0 (w64 (k_ - 1)) _ hx0_5)) ?_
            clear hf a; rintro v0_4 w0_7 a ho0_4 hf
            obtain ⟨rfl, hB⟩ := ho0_4
            replace hm := hm.below' hB; clear hB
            refine st_y hf rfl rfl rfl (y_assign rfl rfl) ?_
            clear hf a; intro a hf
            refine st_end ?_
            refine x_then_n ?_
            refine wp_ret ?_
            refine x_blk_ret ?_
            refine x_then_ret ?_
            obtain rfl := Option.some.inj hq
            refine ret_tmp hf Tryd.results83 rfl ?_
            exact ⟨rfl, hm.below⟩
          ·
            replace hq := (ite_f h0_7).symm.trans hq
            have h0_9 := of_decide_eq_false h0_7
            refine cond_f hf rfl h0_7 ?_
            refine wp_seq ?_
            refine wp_seq ?_
            refine wp_region_lit ?_
            refine st_y hf rfl rfl rfl (y_eql rfl rfl rfl) ?_
            clear hf a; intro a hf
            refine st_y hf rfl rfl rfl (y_assign rfl rfl) ?_
            clear hf a; intro a hf
            refine st_end ?_
            refine x_then_n ?_
            obtain ⟨s0_2, hq0_2, hq⟩ := bnd hq
            refine code_cut (K := fun a w => Fr 95 [(5, (.pointer (some ⟨b0_2, 0, none⟩))), (7, (.pointer (some ⟨b0_4, 0, none⟩))), (50, (.int .i64 (x_.op))), (63, (.bool (s0_2)))] a ∧ Mem w0 (hp w0) w [blk b0_2 [(.int .i64 (x_.op)), (.int .i64 (x_.a_)), (.int .i64 (x_.b)), (.int .i64 (x_.c)), (.int .i64 (x_.n_))] 27, blk b0_4 [(.int .i64 (x0_1.params)), (.int .i64 (x0_1.slots)), v0_1] 35]) ?_ ?_
            ·
              rcases bcases (decide (x_.op = 15)) with h1_5 | h1_5
              ·
                replace hq0_2 := (ite_t h1_5).symm.trans hq0_2
                have h1_6 := of_decide_eq_true h1_5
                refine cond_t hf rfl h1_5 ?_
                refine wp_skip ?_
                refine x_then_n ?_
                obtain rfl := Option.some.inj hq0_2
                exact ⟨hf.sub ⟨rfl, rfl, rfl, rfl, trivial⟩, hm.pick [0, 1] (by decide) rfl⟩
              ·
                replace hq0_2 := (ite_f h1_5).symm.trans hq0_2
                have h1_7 := of_decide_eq_false h1_5
                refine cond_f hf rfl h1_5 ?_
                refine wp_region_lit ?_
                refine st_y hf rfl rfl rfl (y_eql rfl rfl rfl) ?_
                clear hf a; intro a hf
                refine st_y hf rfl rfl rfl (y_assign rfl rfl) ?_
                clear hf a; intro a hf
                refine st_end ?_
                refine x_then_n ?_
                obtain rfl := Option.some.inj hq0_2
                exact ⟨hf.sub ⟨rfl, rfl, rfl, rfl, trivial⟩, hm.pick [0, 1] (by decide) rfl⟩
            ·
              clear hf hm
              rintro a w ⟨hf, hm⟩
              refine x_then_n ?_
              rcases bcases (s0_2) with h0_10 | h0_10
              ·
                replace hq := (ite_t h0_10).symm.trans hq
                refine cond_t hf rfl h0_10 ?_
                refine wp_seq ?_
                refine wp_region_lit ?_
                refine st_y hf rfl rfl rfl (y_fieldAddr fo_27_4 rfl rfl) ?_
                clear hf a; intro a hf
                refine st_y hf rfl rfl rfl (y_load1 Tryd.isAgg3 rfl rfl (hm.blk_cell 0 rfl rfl)) ?_
                clear hf a; intro a hf
                refine st_y hf rfl rfl rfl (y_fieldAddr fo_35_1 rfl rfl) ?_
                clear hf a; intro a hf
                refine st_y hf rfl rfl rfl (y_load1 Tryd.isAgg3 rfl rfl (hm.blk_cell 1 rfl rfl)) ?_
                clear hf a; intro a hf
                refine st_y hf rfl rfl rfl (y_subw rfl rfl rfl) ?_
                clear hf a; intro a hf
                obtain ⟨r0_5, hx0_6, hq⟩ := bnd hq
                refine st_ef hf rfl rfl rfl (e_call hf rfl Tryd.call39 rfl (spec_l1In_ok _ x_.n_ 0 (w64 (x0_1.slots - 1)) _ hx0_6)) ?_
                clear hf a; rintro v0_5 w0_8 a ho0_5 hf
                obtain ⟨rfl, hB⟩ := ho0_5
                replace hm := hm.below' hB; clear hB
                refine st_y hf rfl rfl rfl (y_assign rfl rfl) ?_
                clear hf a; intro a hf
                refine st_end ?_
                refine x_then_n ?_
                refine wp_ret ?_
                refine x_blk_ret ?_
                refine x_then_ret ?_
                obtain rfl := Option.some.inj hq
                refine ret_tmp hf Tryd.results83 rfl ?_
                exact ⟨rfl, hm.below⟩
              ·
                replace hq := (ite_f h0_10).symm.trans hq
                refine cond_f hf rfl h0_10 ?_
                refine wp_seq ?_
                refine wp_region_lit ?_
                refine st_y hf rfl rfl rfl (y_eql rfl rfl rfl) ?_
                clear hf a; intro a hf
                refine st_y hf rfl rfl rfl (y_assign rfl rfl) ?_
                clear hf a; intro a hf
                refine st_end ?_
                refine x_then_n ?_
                rcases bcases (decide (x_.op = 17)) with h0_11 | h0_11
                ·
                  replace hq := (ite_t h0_11).symm.trans hq
                  have h0_12 := of_decide_eq_true h0_11
                  refine cond_t hf rfl h0_11 ?_
                  refine wp_seq ?_
                  refine wp_region_lit ?_
                  refine st_y hf rfl rfl rfl (y_fieldAddr fo_27_4 rfl rfl) ?_
                  clear hf a; intro a hf
                  refine st_y hf rfl rfl rfl (y_load1 Tryd.isAgg3 rfl rfl (hm.blk_cell 0 rfl rfl)) ?_
                  clear hf a; intro a hf
                  obtain ⟨r0_6, hx0_7, hq⟩ := bnd hq
                  refine st_ef hf rfl rfl rfl (e_call hf rfl Tryd.call39 rfl (spec_l1In_ok _ x_.n_ 0 2 _ hx0_7)) ?_
                  clear hf a; rintro v0_6 w0_9 a ho0_6 hf
                  obtain ⟨rfl, hB⟩ := ho0_6
                  replace hm := hm.below' hB; clear hB
                  refine st_y hf rfl rfl rfl (y_assign rfl rfl) ?_
                  clear hf a; intro a hf
                  refine st_end ?_
                  refine x_then_n ?_
                  refine wp_ret ?_
                  refine x_blk_ret ?_
                  refine x_then_ret ?_
                  obtain rfl := Option.some.inj hq
                  refine ret_tmp hf Tryd.results83 rfl ?_
                  exact ⟨rfl, hm.below⟩
                ·
                  replace hq := (ite_f h0_11).symm.trans hq
                  have h0_13 := of_decide_eq_false h0_11
                  refine cond_f hf rfl h0_11 ?_
                  refine wp_seq ?_
                  refine wp_region_lit ?_
                  refine st_y hf rfl rfl rfl (y_eql rfl rfl rfl) ?_
                  clear hf a; intro a hf
                  refine st_y hf rfl rfl rfl (y_assign rfl rfl) ?_
                  clear hf a; intro a hf
                  refine st_end ?_
                  refine x_then_n ?_
                  rcases bcases (decide (x_.op = 18)) with h0_14 | h0_14
                  ·
                    replace hq := (ite_t h0_14).symm.trans hq
                    have h0_15 := of_decide_eq_true h0_14
                    refine cond_t hf rfl h0_14 ?_
                    refine wp_seq ?_
                    refine wp_region_lit ?_
                    refine st_y hf rfl rfl rfl (y_fieldAddr fo_27_4 rfl rfl) ?_
                    clear hf a; intro a hf
                    refine st_y hf rfl rfl rfl (y_load1 Tryd.isAgg3 rfl rfl (hm.blk_cell 0 rfl rfl)) ?_
                    clear hf a; intro a hf
                    refine st_y hf rfl rfl rfl (y_fieldAddr fo_35_0 rfl rfl) ?_
                    clear hf a; intro a hf
                    refine st_y hf rfl rfl rfl (y_load1 Tryd.isAgg3 rfl rfl (hm.blk_cell 1 rfl rfl)) ?_
                    clear hf a; intro a hf
                    refine st_y hf rfl rfl rfl (y_subw rfl rfl rfl) ?_
                    clear hf a; intro a hf
                    obtain ⟨r0_7, hx0_8, hq⟩ := bnd hq
                    refine st_ef hf rfl rfl rfl (e_call hf rfl Tryd.call39 rfl (spec_l1In_ok _ x_.n_ 0 (w64 (x0_1.params - 1)) _ hx0_8)) ?_
                    clear hf a; rintro v0_7 w0_10 a ho0_7 hf
                    obtain ⟨rfl, hB⟩ := ho0_7
                    replace hm := hm.below' hB; clear hB
                    refine st_y hf rfl rfl rfl (y_assign rfl rfl) ?_
                    clear hf a; intro a hf
                    refine st_end ?_
                    refine x_then_n ?_
                    refine wp_ret ?_
                    refine x_blk_ret ?_
                    refine x_then_ret ?_
                    obtain rfl := Option.some.inj hq
                    refine ret_tmp hf Tryd.results83 rfl ?_
                    exact ⟨rfl, hm.below⟩
                  ·
                    replace hq := (ite_f h0_14).symm.trans hq
                    have h0_16 := of_decide_eq_false h0_14
                    refine cond_f hf rfl h0_14 ?_
                    refine wp_seq ?_
                    refine wp_seq ?_
                    refine wp_region_lit ?_
                    refine st_y hf rfl rfl rfl (y_eql rfl rfl rfl) ?_
                    clear hf a; intro a hf
                    refine st_y hf rfl rfl rfl (y_assign rfl rfl) ?_
                    clear hf a; intro a hf
                    refine st_end ?_
                    refine x_then_n ?_
                    obtain ⟨s0_3, hq0_3, hq⟩ := bnd hq
                    refine code_cut (K := fun a w => Fr 95 [(5, (.pointer (some ⟨b0_2, 0, none⟩))), (7, (.pointer (some ⟨b0_4, 0, none⟩))), (85, (.bool (s0_3)))] a ∧ Mem w0 (hp w0) w [blk b0_2 [(.int .i64 (x_.op)), (.int .i64 (x_.a_)), (.int .i64 (x_.b)), (.int .i64 (x_.c)), (.int .i64 (x_.n_))] 27, blk b0_4 [(.int .i64 (x0_1.params)), (.int .i64 (x0_1.slots)), v0_1] 35]) ?_ ?_
                    ·
                      rcases bcases (decide (x_.op = 20)) with h1_8 | h1_8
                      ·
                        replace hq0_3 := (ite_t h1_8).symm.trans hq0_3
                        have h1_9 := of_decide_eq_true h1_8
                        refine cond_t hf rfl h1_8 ?_
                        refine wp_skip ?_
                        refine x_then_n ?_
                        obtain rfl := Option.some.inj hq0_3
                        exact ⟨hf.sub ⟨rfl, rfl, rfl, trivial⟩, hm.pick [0, 1] (by decide) rfl⟩
                      ·
                        replace hq0_3 := (ite_f h1_8).symm.trans hq0_3
                        have h1_10 := of_decide_eq_false h1_8
                        refine cond_f hf rfl h1_8 ?_
                        refine wp_region_lit ?_
                        refine st_y hf rfl rfl rfl (y_eql rfl rfl rfl) ?_
                        clear hf a; intro a hf
                        refine st_y hf rfl rfl rfl (y_assign rfl rfl) ?_
                        clear hf a; intro a hf
                        refine st_end ?_
                        refine x_then_n ?_
                        obtain rfl := Option.some.inj hq0_3
                        exact ⟨hf.sub ⟨rfl, rfl, rfl, trivial⟩, hm.pick [0, 1] (by decide) rfl⟩
                    ·
                      clear hf hm
                      rintro a w ⟨hf, hm⟩
                      refine x_then_n ?_
                      rcases bcases (s0_3) with h0_17 | h0_17
                      ·
                        replace hq := (ite_t h0_17).symm.trans hq
                        refine cond_t hf rfl h0_17 ?_
                        refine wp_seq ?_
                        refine wp_region_lit ?_
                        refine st_y hf rfl rfl rfl (y_fieldAddr fo_27_4 rfl rfl) ?_
                        clear hf a; intro a hf
                        refine st_y hf rfl rfl rfl (y_load1 Tryd.isAgg3 rfl rfl (hm.blk_cell 0 rfl rfl)) ?_
                        clear hf a; intro a hf
                        refine st_y hf rfl rfl rfl (y_fieldAddr fo_35_2 rfl rfl) ?_
                        clear hf a; intro a hf
                        refine st_y hf rfl rfl rfl (y_load1 Tryd.isAgg33 rfl rfl (hm.blk_cell 1 rfl rfl)) ?_
                        clear hf a; intro a hf
                        obtain ⟨p0_1, c0_2, he, hl0_3⟩ := ro_slice h0_2
                        subst he
                        refine st_y hf rfl rfl rfl (y_len_slice st_33.und rfl rfl) ?_
                        clear hf a; intro a hf
                        refine st_y hf rfl rfl rfl (y_sub64 rfl rfl rfl (by omega) (by omega)) ?_
                        clear hf a; intro a hf
                        obtain ⟨r0_8, hx0_9, hq⟩ := bnd hq
                        refine st_ef hf rfl rfl rfl (e_call hf rfl Tryd.call39 rfl (spec_l1In_ok _ x_.n_ 0 (((x0_1.ins.length : Int)) - 1) _ hx0_9)) ?_
                        clear hf a; rintro v0_8 w0_11 a ho0_8 hf
                        obtain ⟨rfl, hB⟩ := ho0_8
                        replace hm := hm.below' hB; clear hB
                        refine st_y hf rfl rfl rfl (y_assign rfl rfl) ?_
                        clear hf a; intro a hf
                        refine st_end ?_
                        refine x_then_n ?_
                        refine wp_ret ?_
                        refine x_blk_ret ?_
                        refine x_then_ret ?_
                        obtain rfl := Option.some.inj hq
                        refine ret_tmp hf Tryd.results83 rfl ?_
                        exact ⟨rfl, hm.below⟩
                      ·
                        replace hq := (ite_f h0_17).symm.trans hq
                        refine cond_f hf rfl h0_17 ?_
                        refine wp_skip ?_
                        refine x_blk_n ?_
                        refine x_then_n ?_
                        refine wp_seq ?_
                        refine wp_region_lit ?_
                        refine st_y hf rfl rfl rfl (y_assign rfl rfl) ?_
                        clear hf a; intro a hf
                        refine st_end ?_
                        refine x_then_n ?_
                        refine wp_ret ?_
                        obtain rfl := Option.some.inj hq
                        refine ret_tmp hf Tryd.results83 rfl ?_
                        exact ⟨rfl, hm.below⟩

theorem spec_MachValid_ok (w0 : World) (m : Mach) (v1 : Value) (h1 : GT.rep (hp w0) [v1] m.fns) (r : Bool) (hq : spec_MachValid m = some r) :
    Con Tryd.prog 72 [(.agg #[v1])] w0 (fun v w' => v = (.bool (r)) ∧ Below w0.heap.size w0 w') := by
  unfold spec_MachValid at hq
  refine con_body (l := [(0, (.agg #[v1]))]) Tryd.func72 rfl Tryd.ntmps72 (Args.get ⟨rfl, trivial⟩) rfl ?_
  intro a hf
  have hm := Mem.start w0
  refine wp_seq ?_
  refine wp_region_lit ?_
  refine st_ef hf rfl rfl rfl (e_box hf hm rfl rfl rfl) ?_
  clear hf a; rintro _ w0_1 a ⟨b0_1, rfl, hm⟩ hf
  refine st_y hf rfl rfl rfl (y_assign rfl rfl) ?_
  clear hf a; intro a hf
  refine st_end ?_
  refine x_then_n ?_
  refine wp_seq ?_
  refine wp_seq ?_
  refine wp_region_lit ?_
  refine st_y hf rfl rfl rfl (y_fieldAddr fo_99_0 rfl rfl) ?_
  clear hf a; intro a hf
  refine st_y hf rfl rfl rfl (y_load1 Tryd.isAgg97 rfl rfl (hm.blk_cell 0 rfl rfl)) ?_
  clear hf a; intro a hf
  obtain ⟨p0_1, c0_1, he, hl0_1⟩ := ro_slice h1
  subst he
  refine st_y hf rfl rfl rfl (y_len_slice st_97.und rfl rfl) ?_
  clear hf a; intro a hf
  obtain ⟨r0_1, hx0_1, hq⟩ := bnd hq
  refine st_ef hf rfl rfl rfl (e_call hf rfl Tryd.call39 rfl (spec_l1In_ok _ (m.fns.length : Int) 1 4 _ hx0_1)) ?_
  clear hf a; rintro v0_1 w0_2 a ho0_1 hf
  obtain ⟨rfl, hB⟩ := ho0_1
  replace hm := hm.below' hB; clear hB
  refine st_y hf rfl rfl rfl (y_not rfl rfl) ?_
  clear hf a; intro a hf
  refine st_end ?_
  refine x_then_n ?_
  rcases bcases (!(r0_1)) with h0_1 | h0_1
  ·
    replace hq := (ite_t h0_1).symm.trans hq
    have h0_2 := bnot_t' h0_1
    refine cond_t hf rfl h0_1 ?_
    refine wp_seq ?_
    refine wp_region_lit ?_
    refine st_y hf rfl rfl rfl (y_assign rfl rfl) ?_
    clear hf a; intro a hf
    refine st_end ?_
    refine x_then_n ?_
    refine wp_ret ?_
    refine x_then_ret ?_
    obtain rfl := Option.some.inj hq
    refine ret_tmp hf Tryd.results72 rfl ?_
    exact ⟨rfl, hm.below⟩
  ·
    replace hq := (ite_f h0_1).symm.trans hq
    have h0_3 := bnot_f' h0_1
    refine cond_f hf rfl h0_1 ?_
    refine wp_skip ?_
    refine x_then_n ?_
    refine wp_seq ?_
    refine wp_region_lit ?_
    refine st_y hf rfl rfl rfl (y_assign rfl rfl) ?_
    clear hf a; intro a hf
    refine st_end ?_
    refine x_then_n ?_
    refine wp_seq ?_
    refine wp_seq ?_
    refine wp_region_lit ?_
    refine st_y hf rfl rfl rfl (y_assign rfl rfl) ?_
    clear hf a; intro a hf
    refine st_end ?_
    refine x_then_n ?_
    refine wp_block ?_
    obtain ⟨r0_2, hl0_2, hq⟩ := bnd hq
    refine wp_forN _ (fun i1_1 xs1_1 a w => Fr 81 [(1, (.pointer (some ⟨b0_1, 0, none⟩))), (3, (.int .i64 (xs1_1))), (4, (.int .i64 (i1_1)))] a ∧ Mem w0 (hp w0) w [blk b0_1 [(.slice p0_1 m.fns.length c0_1)] 99]) (0) ((m.fns.length : Int)) hl0_2 ?_ ?_ ?_
    ·
      exact ⟨hf.sub ⟨rfl, rfl, rfl, trivial⟩, hm.pick [0] (by decide) rfl⟩
    ·
      clear hf hm
      rintro i1_1 xs1_1 a w ⟨hf, hm⟩ hi1_1 hi1_2 q0_1 hb0_1 ho0_2
      refine wp_seq ?_
      refine wp_seq ?_
      refine wp_region_lit ?_
      refine st_y hf rfl rfl rfl (y_move rfl rfl) ?_
      clear hf a; intro a hf
      refine st_y hf rfl rfl rfl (y_fieldAddr fo_99_0 rfl rfl) ?_
      clear hf a; intro a hf
      refine st_y hf rfl rfl rfl (y_load1 Tryd.isAgg97 rfl rfl (hm.blk_cell 0 rfl rfl)) ?_
      clear hf a; intro a hf
      refine st_y hf rfl rfl rfl (y_len_slice st_97.und rfl rfl) ?_
      clear hf a; intro a hf
      refine st_y hf rfl rfl rfl (y_lss rfl rfl rfl) ?_
      clear hf a; intro a hf
      refine st_end ?_
      refine x_then_n ?_
      refine cond_t hf rfl (decide_eq_true (by omega)) ?_
      refine wp_skip ?_
      refine x_then_n ?_
      refine wp_seq ?_
      refine wp_block ?_
      refine wp_seq ?_
      refine wp_region_lit ?_
      refine st_y hf rfl rfl rfl (y_fieldAddr fo_99_0 rfl rfl) ?_
      clear hf a; intro a hf
      refine st_y hf rfl rfl rfl (y_load1 Tryd.isAgg97 rfl rfl (hm.blk_cell 0 rfl rfl)) ?_
      clear hf a; intro a hf
      refine st_y hf rfl rfl rfl (y_move rfl rfl) ?_
      clear hf a; intro a hf
      obtain ⟨x1_1, hx1_1, hb0_1⟩ := bnd hb0_1
      obtain ⟨h1_1, hx1_2⟩ := getI_some.1 hx1_1
      obtain ⟨b1_1, o1_1, c1_1, he⟩ := idx_form' h1 hx1_2
      simp only [Value.slice.injEq, Option.some.injEq] at he; obtain ⟨rfl, _, rfl⟩ := he
      obtain ⟨_, _, hc1_1, hr1_1⟩ := ro_get' h1 hx1_2
      obtain ⟨_, _, rfl, rfl, _, _, rfl, rfl, h1_2⟩ := hr1_1
      obtain ⟨v1_1, rfl, -⟩ := id h1_2
      replace h1_2 : GT.rep (hp w0) [v1_1] x1_1.ins := h1_2
      replace hc1_1 : CellsAt (hp w0) b1_1 (o1_1 + (i1_1).toNat * 3) [(.int .i64 (x1_1.params)), (.int .i64 (x1_1.slots)), v1_1] := hc1_1
      refine st_y hf rfl rfl rfl (y_indexAddr st_97 rfl rfl rfl h1_1 (idx_lt hx1_2)) ?_
      clear hf a; intro a hf
      refine st_y hf rfl rfl rfl (y_loadN (cs := [(.int .i64 (x1_1.params)), (.int .i64 (x1_1.slots)), v1_1]) Tryd.isAgg35 Tryd.sizeOf35 rfl rfl (hc1_1.mono hm.lez)) ?_
      clear hf a; intro a hf
      refine st_ef hf rfl rfl rfl (e_alloc hm Tryd.zeroValue35 rfl rfl) ?_
      clear hf a; rintro _ w1_1 a ⟨b1_2, rfl, hm⟩ hf
      refine st_ef0 hf rfl rfl (e_storeN 0 hf hm rfl Tryd.sizeOf35 rfl rfl rfl (one_cons rfl (one_cons rfl (one_cons (rep_one h1_2) one_nil))) rfl rfl) ?_
      clear hf a; rintro _ w1_2 a hm hf
      refine st_end ?_
      refine x_then_n ?_
      refine wp_seq ?_
      refine wp_region_lit ?_
      refine st_y hf rfl rfl rfl (y_move rfl rfl) ?_
      clear hf a; intro a hf
      refine st_y hf rfl rfl rfl (y_fieldAddr fo_35_2 rfl rfl) ?_
      clear hf a; intro a hf
      refine st_y hf rfl rfl rfl (y_load1 Tryd.isAgg33 rfl rfl (hm.blk_cell 0 rfl rfl)) ?_
      clear hf a; intro a hf
      obtain ⟨p1_1, c1_2, he, hl1_1⟩ := ro_slice h1_2
      subst he
      refine st_y hf rfl rfl rfl (y_len_slice st_33.und rfl rfl) ?_
      clear hf a; intro a hf
      refine st_y hf rfl rfl rfl (y_addw rfl rfl rfl) ?_
      clear hf a; intro a hf
      refine st_y hf rfl rfl rfl (y_assign rfl rfl) ?_
      clear hf a; intro a hf
      refine st_end ?_
      refine x_then_n ?_
      refine wp_seq ?_
      refine wp_seq ?_
      obtain ⟨s1_1, hq1_1, hb0_1⟩ := bnd hb0_1
      refine code_cut (K := fun a w => Fr 81 [(1, (.pointer (some ⟨b0_1, 0, none⟩))), (3, (.int .i64 (w64 (xs1_1 + ((x1_1.ins.length : Int)))))), (4, (.int .i64 (i1_1))), (5, (.pointer (some ⟨b1_2, 0, none⟩))), (49, (.bool (s1_1)))] a ∧ Mem w0 (hp w0) w [blk b0_1 [(.slice (some ⟨b1_1, o1_1, none⟩) m.fns.length c0_1)] 99, blk b1_2 [(.int .i64 (x1_1.params)), (.int .i64 (x1_1.slots)), (.slice p1_1 x1_1.ins.length c1_2)] 35]) ?_ ?_
      ·
        refine wp_region_lit ?_
        refine st_y hf rfl rfl rfl (y_fieldAddr fo_35_0 rfl rfl) ?_
        clear hf a; intro a hf
        refine st_y hf rfl rfl rfl (y_load1 Tryd.isAgg3 rfl rfl (hm.blk_cell 0 rfl rfl)) ?_
        clear hf a; intro a hf
        obtain ⟨r2_1, hx2_1, hq1_1⟩ := bnd hq1_1
        refine st_ef hf rfl rfl rfl (e_call hf rfl Tryd.call39 rfl (spec_l1In_ok _ x1_1.params 0 3 _ hx2_1)) ?_
        clear hf a; rintro v2_1 w2_1 a ho2_1 hf
        obtain ⟨rfl, hB⟩ := ho2_1
        replace hm := hm.below' hB; clear hB
        refine st_y hf rfl rfl rfl (y_not rfl rfl) ?_
        clear hf a; intro a hf
        refine st_y hf rfl rfl rfl (y_move rfl rfl) ?_
        clear hf a; intro a hf
        rcases bcases (!(r2_1)) with h2_1 | h2_1
        ·
          replace hq1_1 := (ite_t h2_1).symm.trans hq1_1
          have h2_2 := bnot_t' h2_1
          refine st_no hf rfl rfl (lk_b rfl h2_1) rfl rfl rfl ?_
          clear hf a; intro a hf
          refine st_no hf rfl rfl (lk_b rfl h2_1) rfl rfl rfl ?_
          clear hf a; intro a hf
          refine st_no hf rfl rfl (lk_b rfl h2_1) rfl rfl rfl ?_
          clear hf a; intro a hf
          refine st_no hf rfl rfl (lk_b rfl h2_1) rfl rfl rfl ?_
          clear hf a; intro a hf
          refine st_y hf rfl rfl rfl (y_pick_t rfl (ev_b rfl h2_1) rfl) ?_
          clear hf a; intro a hf
          refine st_y hf rfl rfl rfl (y_move rfl rfl) ?_
          clear hf a; intro a hf
          refine st_no hf rfl rfl (lk_b rfl rfl) rfl rfl rfl ?_
          clear hf a; intro a hf
          refine st_no hf rfl rfl (lk_b rfl rfl) rfl rfl rfl ?_
          clear hf a; intro a hf
          refine st_no hf rfl rfl (lk_b rfl rfl) rfl rfl rfl ?_
          clear hf a; intro a hf
          refine st_no hf rfl rfl (lk_b rfl rfl) rfl rfl rfl ?_
          clear hf a; intro a hf
          refine st_y hf rfl rfl rfl (y_pick_t rfl (ev_b rfl rfl) rfl) ?_
          clear hf a; intro a hf
          refine st_y hf rfl rfl rfl (y_move rfl rfl) ?_
          clear hf a; intro a hf
          refine st_no hf rfl rfl (lk_b rfl rfl) rfl rfl rfl ?_
          clear hf a; intro a hf
          refine st_no hf rfl rfl (lk_b rfl rfl) rfl rfl rfl ?_
          clear hf a; intro a hf
          refine st_y hf rfl rfl rfl (y_pick_t rfl (ev_b rfl rfl) rfl) ?_
          clear hf a; intro a hf
          refine st_end ?_
          refine x_then_n ?_
          obtain rfl := Option.some.inj hq1_1
          exact ⟨hf.sub ⟨rfl, rfl, rfl, rfl, rfl, trivial⟩, hm.pick [1, 0] (by decide) rfl⟩
        ·
          replace hq1_1 := (ite_f h2_1).symm.trans hq1_1
          have h2_3 := bnot_f' h2_1
          refine st_yg hf rfl rfl (lk_b rfl h2_1) rfl rfl (y_fieldAddr fo_35_1 rfl rfl) ?_
          clear hf a; intro a hf
          refine st_yg hf rfl rfl (lk_b rfl h2_1) rfl rfl (y_load1 Tryd.isAgg3 rfl rfl (hm.blk_cell 0 rfl rfl)) ?_
          clear hf a; intro a hf
          obtain ⟨r2_2, hx2_2, hq1_1⟩ := bnd hq1_1
          refine st_efg hf rfl rfl (lk_b rfl h2_1) rfl rfl (e_call hf rfl Tryd.call39 rfl (spec_l1In_ok _ x1_1.slots 0 64 _ hx2_2)) ?_
          clear hf a; rintro v2_2 w2_2 a ho2_2 hf
          obtain ⟨rfl, hB⟩ := ho2_2
          replace hm := hm.below' hB; clear hB
          refine st_yg hf rfl rfl (lk_b rfl h2_1) rfl rfl (y_not rfl rfl) ?_
          clear hf a; intro a hf
          refine st_y hf rfl rfl rfl (y_pick_f rfl (ev_b rfl h2_1) rfl) ?_
          clear hf a; intro a hf
          refine st_y hf rfl rfl rfl (y_move rfl rfl) ?_
          clear hf a; intro a hf
          rcases bcases (!(r2_2)) with h2_4 | h2_4
          ·
            replace hq1_1 := (ite_t h2_4).symm.trans hq1_1
            have h2_5 := bnot_t' h2_4
            refine st_no hf rfl rfl (lk_b rfl h2_4) rfl rfl rfl ?_
            clear hf a; intro a hf
            refine st_no hf rfl rfl (lk_b rfl h2_4) rfl rfl rfl ?_
            clear hf a; intro a hf
            refine st_no hf rfl rfl (lk_b rfl h2_4) rfl rfl rfl ?_
            clear hf a; intro a hf
            refine st_no hf rfl rfl (lk_b rfl h2_4) rfl rfl rfl ?_
            clear hf a; intro a hf
            refine st_y hf rfl rfl rfl (y_pick_t rfl (ev_b rfl h2_4) rfl) ?_
            clear hf a; intro a hf
            refine st_y hf rfl rfl rfl (y_move rfl rfl) ?_
            clear hf a; intro a hf
            refine st_no hf rfl rfl (lk_b rfl rfl) rfl rfl rfl ?_
            clear hf a; intro a hf
            refine st_no hf rfl rfl (lk_b rfl rfl) rfl rfl rfl ?_
            clear hf a; intro a hf
            refine st_y hf rfl rfl rfl (y_pick_t rfl (ev_b rfl rfl) rfl) ?_
            clear hf a; intro a hf
            refine st_end ?_
            refine x_then_n ?_
            obtain rfl := Option.some.inj hq1_1
            exact ⟨hf.sub ⟨rfl, rfl, rfl, rfl, rfl, trivial⟩, hm.pick [1, 0] (by decide) rfl⟩
          ·
            replace hq1_1 := (ite_f h2_4).symm.trans hq1_1
            have h2_6 := bnot_f' h2_4
            refine st_yg hf rfl rfl (lk_b rfl h2_4) rfl rfl (y_fieldAddr fo_35_2 rfl rfl) ?_
            clear hf a; intro a hf
            refine st_yg hf rfl rfl (lk_b rfl h2_4) rfl rfl (y_load1 Tryd.isAgg33 rfl rfl (hm.blk_cell 0 rfl rfl)) ?_
            clear hf a; intro a hf
            refine st_yg hf rfl rfl (lk_b rfl h2_4) rfl rfl (y_len_slice st_33.und rfl rfl) ?_
            clear hf a; intro a hf
            refine st_yg hf rfl rfl (lk_b rfl h2_4) rfl rfl (y_eql rfl rfl rfl) ?_
            clear hf a; intro a hf
            refine st_y hf rfl rfl rfl (y_pick_f rfl (ev_b rfl h2_4) rfl) ?_
            clear hf a; intro a hf
            refine st_y hf rfl rfl rfl (y_move rfl rfl) ?_
            clear hf a; intro a hf
            rcases bcases (decide (((x1_1.ins.length : Int)) = 0)) with h2_7 | h2_7
            ·
              replace hq1_1 := (ite_t h2_7).symm.trans hq1_1
              have h2_8 := of_decide_eq_true h2_7
              refine st_no hf rfl rfl (lk_b rfl h2_7) rfl rfl rfl ?_
              clear hf a; intro a hf
              refine st_no hf rfl rfl (lk_b rfl h2_7) rfl rfl rfl ?_
              clear hf a; intro a hf
              refine st_y hf rfl rfl rfl (y_pick_t rfl (ev_b rfl h2_7) rfl) ?_
              clear hf a; intro a hf
              refine st_end ?_
              refine x_then_n ?_
              obtain rfl := Option.some.inj hq1_1
              exact ⟨hf.sub ⟨rfl, rfl, rfl, rfl, rfl, trivial⟩, hm.pick [1, 0] (by decide) rfl⟩
            ·
              replace hq1_1 := (ite_f h2_7).symm.trans hq1_1
              have h2_9 := of_decide_eq_false h2_7
              refine st_yg hf rfl rfl (lk_b rfl h2_7) rfl rfl (y_move rfl rfl) ?_
              clear hf a; intro a hf
              refine st_yg hf rfl rfl (lk_b rfl h2_7) rfl rfl (y_gtr rfl rfl rfl) ?_
              clear hf a; intro a hf
              refine st_y hf rfl rfl rfl (y_pick_f rfl (ev_b rfl h2_7) rfl) ?_
              clear hf a; intro a hf
              refine st_end ?_
              refine x_then_n ?_
              obtain rfl := Option.some.inj hq1_1
              exact ⟨hf.sub ⟨rfl, rfl, rfl, rfl, rfl, trivial⟩, hm.pick [1, 0] (by decide) rfl⟩
      ·
        clear hf hm
        rintro a w ⟨hf, hm⟩
        refine x_then_n ?_
        rcases bcases (s1_1) with h1_3 | h1_3
        ·
          replace hb0_1 := (ite_t h1_3).symm.trans hb0_1
          refine cond_t hf rfl h1_3 ?_
          refine wp_seq ?_
          refine wp_region_lit ?_
          refine st_y hf rfl rfl rfl (y_assign rfl rfl) ?_
          clear hf a; intro a hf
          refine st_end ?_
          refine x_then_n ?_
          refine wp_ret ?_
          refine x_then_ret ?_
          refine x_blk_ret ?_
          refine x_then_ret ?_
          refine x_then_ret ?_
          refine x_blk_ret ?_
          refine x_then_ret ?_
          obtain rfl := Option.some.inj hb0_1
          obtain rfl := ho0_2 _ rfl
          replace hq := sum_r hq
          obtain rfl := Option.some.inj hq
          refine ret_tmp hf Tryd.results72 rfl ?_
          exact ⟨rfl, hm.below⟩
        ·
          replace hb0_1 := (ite_f h1_3).symm.trans hb0_1
          refine cond_f hf rfl h1_3 ?_
          refine wp_skip ?_
          refine x_then_n ?_
          refine wp_seq ?_
          refine wp_seq ?_
          refine wp_region_lit ?_
          refine st_y hf rfl rfl rfl (y_assign rfl rfl) ?_
          clear hf a; intro a hf
          refine st_end ?_
          refine x_then_n ?_
          refine wp_block ?_
          obtain ⟨r1_1, hl1_2, hb0_1⟩ := bnd hb0_1
          refine wp_forN _ (fun i2_1 xs2_1 a w => Fr 81 [(1, (.pointer (some ⟨b0_1, 0, none⟩))), (3, (.int .i64 (w64 (xs1_1 + ((x1_1.ins.length : Int)))))), (4, (.int .i64 (i1_1))), (5, (.pointer (some ⟨b1_2, 0, none⟩))), (6, (.int .i64 (i2_1)))] a ∧ Mem w0 (hp w0) w [blk b0_1 [(.slice (some ⟨b1_1, o1_1, none⟩) m.fns.length c0_1)] 99, blk b1_2 [(.int .i64 (x1_1.params)), (.int .i64 (x1_1.slots)), (.slice p1_1 x1_1.ins.length c1_2)] 35]) (0) ((x1_1.ins.length : Int)) hl1_2 ?_ ?_ ?_
          ·
            exact ⟨hf.sub ⟨rfl, rfl, rfl, rfl, rfl, trivial⟩, hm.pick [0, 1] (by decide) rfl⟩
          ·
            clear hf hm
            rintro i2_1 xs2_1 a w ⟨hf, hm⟩ hi2_1 hi2_2 q1_1 hb1_1 ho1_1
            refine wp_seq ?_
            refine wp_seq ?_
            refine wp_region_lit ?_
            refine st_y hf rfl rfl rfl (y_move rfl rfl) ?_
            clear hf a; intro a hf
            refine st_y hf rfl rfl rfl (y_fieldAddr fo_35_2 rfl rfl) ?_
            clear hf a; intro a hf
            refine st_y hf rfl rfl rfl (y_load1 Tryd.isAgg33 rfl rfl (hm.blk_cell 1 rfl rfl)) ?_
            clear hf a; intro a hf
            refine st_y hf rfl rfl rfl (y_len_slice st_33.und rfl rfl) ?_
            clear hf a; intro a hf
            refine st_y hf rfl rfl rfl (y_lss rfl rfl rfl) ?_
            clear hf a; intro a hf
            refine st_end ?_
            refine x_then_n ?_
            refine cond_t hf rfl (decide_eq_true (by omega)) ?_
            refine wp_skip ?_
            refine x_then_n ?_
            refine wp_seq ?_
            refine wp_block ?_
            refine wp_seq ?_
            refine wp_tree (.p 1 (.p 2 (.p 4 (.q 0 (.e 3 (.p 5 (.e 6 (.e 7 (.p 8 .fin) .nil) .nil)) .nil))))) [3, 6] [1, 2, 4, 5, 8] (fun w => Mem w0 (hp w0) w [blk b0_1 [(.slice (some ⟨b1_1, o1_1, none⟩) m.fns.length c0_1)] 99, blk b1_2 [(.int .i64 (x1_1.params)), (.int .i64 (x1_1.slots)), (.slice p1_1 x1_1.ins.length c1_2)] 35]) (by kernel_rfl) (by kernel_rfl) (fun _ _ _ h => h.2) ?_
            replace hm := hm.drew
            have hS : Mem w0 (hp w0) _ [blk b0_1 [(.slice (some ⟨b1_1, o1_1, none⟩) m.fns.length c0_1)] 99, blk b1_2 [(.int .i64 (x1_1.params)), (.int .i64 (x1_1.slots)), (.slice p1_1 x1_1.ins.length c1_2)] 35] := hm.pick [0, 1] (by decide) rfl
            refine td_p hf rfl rfl rfl rfl (fun w => y_move rfl rfl) ?_
            clear hf a; intro a hf
            refine td_p hf rfl rfl rfl rfl (fun w => y_fieldAddr fo_35_2 rfl rfl) ?_
            clear hf a; intro a hf
            refine td_p hf rfl rfl rfl rfl (fun w => y_move rfl rfl) ?_
            clear hf a; intro a hf
            refine td_y hf rfl rfl rfl rfl hS (fun w hm => y_loadN (cs := [(.slice (some ⟨b1_1, o1_1, none⟩) m.fns.length c0_1)]) Tryd.isAgg99 Tryd.sizeOf99 rfl rfl (hm.blk_at 0 rfl)) ?_
            clear hf a; intro a hf
            refine te_one ?_
            refine td_ef hf rfl rfl rfl rfl (ef_y hf (y_load1 Tryd.isAgg33 rfl rfl (hm.blk_cell 1 rfl rfl))) ?_
            clear hf a; rintro _ _ a ⟨rfl, rfl⟩ hf
            refine ⟨fun _ => hS, ?_⟩
            obtain ⟨x2_1, hx2_3, hb1_1⟩ := bnd hb1_1
            obtain ⟨h2_10, hx2_4⟩ := getI_some.1 hx2_3
            obtain ⟨b2_1, o2_1, c2_1, he⟩ := idx_form h1_2 hx2_4
            simp only [Value.slice.injEq, Option.some.injEq] at he; obtain ⟨rfl, _, rfl⟩ := he
            refine td_p hf rfl rfl rfl rfl (fun w => y_indexAddr st_33 rfl rfl rfl h2_10 (idx_lt hx2_4)) ?_
            clear hf a; intro a hf
            refine te_one ?_
            refine td_ef hf rfl rfl rfl rfl (ef_y hf (y_loadN (cs := [(.int .i64 (x2_1.op)), (.int .i64 (x2_1.a_)), (.int .i64 (x2_1.b)), (.int .i64 (x2_1.c)), (.int .i64 (x2_1.n_))]) Tryd.isAgg27 Tryd.sizeOf27 rfl rfl (flat_cells (cs := [(.int .i64 (x2_1.op)), (.int .i64 (x2_1.a_)), (.int .i64 (x2_1.b)), (.int .i64 (x2_1.c)), (.int .i64 (x2_1.n_))]) (hm.now h1_2) hx2_4 rfl))) ?_
            clear hf a; rintro _ _ a ⟨rfl, rfl⟩ hf
            refine ⟨fun _ => hS, ?_⟩
            refine te_one ?_
            obtain ⟨r2_3, hx2_5, hb1_1⟩ := bnd hb1_1
            refine td_ef hf rfl rfl rfl rfl (e_call hf rfl Tryd.call83 rfl (spec_l22Ins_ok _ m (.slice (some ⟨b1_1, o1_1, none⟩) m.fns.length c0_1) (hm.now h1) i1_1 x2_1 _ hx2_5)) ?_
            clear hf a; rintro v2_3 w2_3 a ho2_3 hf
            obtain ⟨rfl, hB⟩ := ho2_3
            replace hm := hm.below' hB; clear hB
            refine ⟨fun h => absurd h (by decide), ?_⟩
            refine td_p hf rfl rfl rfl rfl (fun w => y_not rfl rfl) ?_
            clear hf a; intro a hf
            clear hS; refine td_end ?_
            refine x_then_n ?_
            rcases bcases (!(r2_3)) with h2_11 | h2_11
            ·
              replace hb1_1 := (ite_t h2_11).symm.trans hb1_1
              have h2_12 := bnot_t' h2_11
              refine cond_t hf rfl h2_11 ?_
              refine wp_seq ?_
              refine wp_region_lit ?_
              refine st_y hf rfl rfl rfl (y_assign rfl rfl) ?_
              clear hf a; intro a hf
              refine st_end ?_
              refine x_then_n ?_
              refine wp_ret ?_
              refine x_blk_ret ?_
              refine x_then_ret ?_
              refine x_then_ret ?_
              refine x_blk_ret ?_
              refine x_then_ret ?_
              refine x_blk_ret ?_
              refine x_then_ret ?_
              refine x_then_ret ?_
              refine x_blk_ret ?_
              refine x_then_ret ?_
              obtain rfl := Option.some.inj hb1_1
              obtain rfl := ho1_1 _ rfl
              replace hb0_1 := sum_r hb0_1
              obtain rfl := Option.some.inj hb0_1
              obtain rfl := ho0_2 _ rfl
              replace hq := sum_r hq
              obtain rfl := Option.some.inj hq
              refine ret_tmp hf Tryd.results72 rfl ?_
              exact ⟨rfl, hm.below⟩
            ·
              replace hb1_1 := (ite_f h2_11).symm.trans hb1_1
              have h2_13 := bnot_f' h2_11
              refine cond_f hf rfl h2_11 ?_
              refine wp_skip ?_
              refine x_blk_n ?_
              refine x_then_n ?_
              refine wp_region_lit ?_
              refine st_y hf rfl rfl rfl (y_move rfl rfl) ?_
              clear hf a; intro a hf
              refine st_y hf rfl rfl rfl (y_add64 rfl rfl rfl (by omega) (by omega)) ?_
              clear hf a; intro a hf
              refine st_y hf rfl rfl rfl (y_assign rfl rfl) ?_
              clear hf a; intro a hf
              refine st_end ?_
              refine x_then_n ?_
              obtain rfl := Option.some.inj hb1_1
              exact ⟨_, rfl, hf.sub ⟨rfl, rfl, rfl, rfl, rfl, trivial⟩, hm.pick [0, 1] (by decide) rfl⟩
          ·
            clear hf hm
            rintro i1_2 xs1_2 a w ⟨hf, hm⟩ hi1_3 hi1_4 rfl
            replace hb0_1 := sum_l hb0_1
            refine wp_seq ?_
            refine wp_seq ?_
            refine wp_region_lit ?_
            refine st_y hf rfl rfl rfl (y_move rfl rfl) ?_
            clear hf a; intro a hf
            refine st_y hf rfl rfl rfl (y_fieldAddr fo_35_2 rfl rfl) ?_
            clear hf a; intro a hf
            refine st_y hf rfl rfl rfl (y_load1 Tryd.isAgg33 rfl rfl (hm.blk_cell 1 rfl rfl)) ?_
            clear hf a; intro a hf
            refine st_y hf rfl rfl rfl (y_len_slice st_33.und rfl rfl) ?_
            clear hf a; intro a hf
            refine st_y hf rfl rfl rfl (y_lss rfl rfl rfl) ?_
            clear hf a; intro a hf
            refine st_end ?_
            refine x_then_n ?_
            refine cond_f hf rfl (decide_eq_false (by omega)) ?_
            refine wp_exit ?_
            refine x_then_exit ?_
            refine x_then_exit ?_
            refine x_blk_hit ?_
            refine x_then_n ?_
            refine wp_seq ?_
            refine wp_region_lit ?_
            refine st_y hf rfl rfl rfl (y_fieldAddr fo_35_2 rfl rfl) ?_
            clear hf a; intro a hf
            refine st_y hf rfl rfl rfl (y_load1 Tryd.isAgg33 rfl rfl (hm.blk_cell 1 rfl rfl)) ?_
            clear hf a; intro a hf
            refine st_y hf rfl rfl rfl (y_fieldAddr fo_35_2 rfl rfl) ?_
            clear hf a; intro a hf
            refine st_y hf rfl rfl rfl (y_load1 Tryd.isAgg33 rfl rfl (hm.blk_cell 1 rfl rfl)) ?_
            clear hf a; intro a hf
            refine st_y hf rfl rfl rfl (y_len_slice st_33.und rfl rfl) ?_
            clear hf a; intro a hf
            refine st_y hf rfl rfl rfl (y_sub64 rfl rfl rfl (by omega) (by omega)) ?_
            clear hf a; intro a hf
            obtain ⟨x1_2, hx1_3, hb0_1⟩ := bnd hb0_1
            obtain ⟨h1_4, hx1_4⟩ := getI_some.1 hx1_3
            obtain ⟨b1_3, o1_2, c1_3, he⟩ := idx_form h1_2 hx1_4
            simp only [Value.slice.injEq, Option.some.injEq] at he; obtain ⟨rfl, _, rfl⟩ := he
            refine st_y hf rfl rfl rfl (y_indexAddr st_33 rfl rfl rfl h1_4 (idx_lt hx1_4)) ?_
            clear hf a; intro a hf
            refine st_y hf rfl rfl rfl (y_fieldAddr fo_27_0 rfl rfl) ?_
            clear hf a; intro a hf
            refine st_y hf rfl rfl rfl (y_load1 Tryd.isAgg3 rfl rfl ((flat_cells (cs := [(.int .i64 (x1_2.op)), (.int .i64 (x1_2.a_)), (.int .i64 (x1_2.b)), (.int .i64 (x1_2.c)), (.int .i64 (x1_2.n_))]) (hm.now h1_2) hx1_4 rfl).cell (j := 0) rfl)) ?_
            clear hf a; intro a hf
            refine st_y hf rfl rfl rfl (y_assign rfl rfl) ?_
            clear hf a; intro a hf
            refine st_end ?_
            refine x_then_n ?_
            refine wp_seq ?_
            obtain ⟨s1_2, hq1_2, hb0_1⟩ := bnd hb0_1
            refine code_cut (K := fun a w => Fr 81 [(1, (.pointer (some ⟨b0_1, 0, none⟩))), (3, (.int .i64 (w64 (xs1_1 + ((x1_1.ins.length : Int)))))), (4, (.int .i64 (i1_1))), (80, (.bool (s1_2)))] a ∧ Mem w0 (hp w0) w [blk b0_1 [(.slice (some ⟨b1_1, o1_1, none⟩) m.fns.length c0_1)] 99]) ?_ ?_
            ·
              refine wp_region_lit ?_
              refine st_y hf rfl rfl rfl (y_move rfl rfl) ?_
              clear hf a; intro a hf
              refine st_y hf rfl rfl rfl (y_neq rfl rfl rfl) ?_
              clear hf a; intro a hf
              refine st_y hf rfl rfl rfl (y_move rfl rfl) ?_
              clear hf a; intro a hf
              rcases bcases (decide (x1_2.op ≠ 20)) with h2_14 | h2_14
              ·
                replace hq1_2 := (ite_t h2_14).symm.trans hq1_2
                have h2_15 := of_decide_eq_true h2_14
                refine st_yg hf rfl rfl (lk_b rfl h2_14) rfl rfl (y_move rfl rfl) ?_
                clear hf a; intro a hf
                refine st_yg hf rfl rfl (lk_b rfl h2_14) rfl rfl (y_neq rfl rfl rfl) ?_
                clear hf a; intro a hf
                refine st_y hf rfl rfl rfl (y_pick_t rfl (ev_b rfl h2_14) rfl) ?_
                clear hf a; intro a hf
                refine st_end ?_
                refine x_then_n ?_
                obtain rfl := Option.some.inj hq1_2
                exact ⟨hf.sub ⟨rfl, rfl, rfl, rfl, trivial⟩, hm.pick [0] (by decide) rfl⟩
              ·
                replace hq1_2 := (ite_f h2_14).symm.trans hq1_2
                have h2_16 := of_decide_eq_false h2_14
                refine st_no hf rfl rfl (lk_b rfl h2_14) rfl rfl rfl ?_
                clear hf a; intro a hf
                refine st_no hf rfl rfl (lk_b rfl h2_14) rfl rfl rfl ?_
                clear hf a; intro a hf
                refine st_y hf rfl rfl rfl (y_pick_f rfl (ev_b rfl h2_14) rfl) ?_
                clear hf a; intro a hf
                refine st_end ?_
                refine x_then_n ?_
                obtain rfl := Option.some.inj hq1_2
                exact ⟨hf.sub ⟨rfl, rfl, rfl, rfl, trivial⟩, hm.pick [0] (by decide) rfl⟩
            ·
              clear hf hm
              rintro a w ⟨hf, hm⟩
              refine x_then_n ?_
              rcases bcases (s1_2) with h1_5 | h1_5
              ·
                replace hb0_1 := (ite_t h1_5).symm.trans hb0_1
                refine cond_t hf rfl h1_5 ?_
                refine wp_seq ?_
                refine wp_region_lit ?_
                refine st_y hf rfl rfl rfl (y_assign rfl rfl) ?_
                clear hf a; intro a hf
                refine st_end ?_
                refine x_then_n ?_
                refine wp_ret ?_
                refine x_blk_ret ?_
                refine x_then_ret ?_
                refine x_then_ret ?_
                refine x_blk_ret ?_
                refine x_then_ret ?_
                obtain rfl := Option.some.inj hb0_1
                obtain rfl := ho0_2 _ rfl
                replace hq := sum_r hq
                obtain rfl := Option.some.inj hq
                refine ret_tmp hf Tryd.results72 rfl ?_
                exact ⟨rfl, hm.below⟩
              ·
                replace hb0_1 := (ite_f h1_5).symm.trans hb0_1
                refine cond_f hf rfl h1_5 ?_
                refine wp_skip ?_
                refine x_blk_n ?_
                refine x_then_n ?_
                refine wp_region_lit ?_
                refine st_y hf rfl rfl rfl (y_move rfl rfl) ?_
                clear hf a; intro a hf
                refine st_y hf rfl rfl rfl (y_add64 rfl rfl rfl (by omega) (by omega)) ?_
                clear hf a; intro a hf
                refine st_y hf rfl rfl rfl (y_assign rfl rfl) ?_
                clear hf a; intro a hf
                refine st_end ?_
                refine x_then_n ?_
                obtain rfl := Option.some.inj hb0_1
                exact ⟨_, rfl, hf.sub ⟨rfl, rfl, rfl, trivial⟩, hm.pick [0] (by decide) rfl⟩
    ·
      clear hf hm
      rintro i0_1 xs0_1 a w ⟨hf, hm⟩ hi0_1 hi0_2 rfl
      replace hq := sum_l hq
      refine wp_seq ?_
      refine wp_seq ?_
      refine wp_region_lit ?_
      refine st_y hf rfl rfl rfl (y_move rfl rfl) ?_
      clear hf a; intro a hf
      refine st_y hf rfl rfl rfl (y_fieldAddr fo_99_0 rfl rfl) ?_
      clear hf a; intro a hf
      refine st_y hf rfl rfl rfl (y_load1 Tryd.isAgg97 rfl rfl (hm.blk_cell 0 rfl rfl)) ?_
      clear hf a; intro a hf
      refine st_y hf rfl rfl rfl (y_len_slice st_97.und rfl rfl) ?_
      clear hf a; intro a hf
      refine st_y hf rfl rfl rfl (y_lss rfl rfl rfl) ?_
      clear hf a; intro a hf
      refine st_end ?_
      refine x_then_n ?_
      refine cond_f hf rfl (decide_eq_false (by omega)) ?_
      refine wp_exit ?_
      refine x_then_exit ?_
      refine x_then_exit ?_
      refine x_blk_hit ?_
      refine x_then_n ?_
      refine wp_seq ?_
      refine wp_region_lit ?_
      refine st_y hf rfl rfl rfl (y_assign rfl rfl) ?_
      clear hf a; intro a hf
      refine st_end ?_
      refine x_then_n ?_
      refine wp_ret ?_
      obtain rfl := Option.some.inj hq
      refine ret_tmp hf Tryd.results72 rfl ?_
      exact ⟨rfl, hm.below⟩

theorem spec_l25Places_ok (w0 : World) (f : Mfn) (v1 : Value) (h1 : GT.rep (hp w0) [v1] f.ins) (long : List Bool) (v2 : Value) (h2 : GT.rep (hp w0) [v2] long) (r : (List Int) × Int) (hq : spec_l25Places f long = some r) :
    Con Tryd.prog 55 [(.agg #[(.int .i64 (f.params)), (.int .i64 (f.slots)), v1]), v2] w0 (fun v w' => ∃ (x1 : Value), v = (.tuple #[x1, (.int .i64 (r.2))]) ∧ Mem w0 (hp w0) w' [ow [x1] r.1]) := by
  unfold spec_l25Places at hq
  refine con_body (l := [(0, (.agg #[(.int .i64 (f.params)), (.int .i64 (f.slots)), v1])), (1, v2)]) Tryd.func55 rfl Tryd.ntmps55 (Args.get ⟨rfl, rfl, trivial⟩) rfl ?_
  intro a hf
  have hm := Mem.start w0
  refine wp_seq ?_
  refine wp_region_lit ?_
  refine st_ef hf rfl rfl rfl (e_box hf hm rfl rfl rfl) ?_
  clear hf a; rintro _ w0_1 a ⟨b0_1, rfl, hm⟩ hf
  refine st_y hf rfl rfl rfl (y_assign rfl rfl) ?_
  clear hf a; intro a hf
  refine st_y hf rfl rfl rfl (y_assign rfl rfl) ?_
  clear hf a; intro a hf
  refine st_end ?_
  refine x_then_n ?_
  refine wp_seq ?_
  refine wp_region_lit ?_
  refine st_ef hf rfl rfl rfl (e_build0 (α := Int) et_46 hm rfl) ?_
  clear hf a; rintro v0_1 w0_2 a hm hf
  refine st_y hf rfl rfl rfl (y_assign rfl rfl) ?_
  clear hf a; intro a hf
  refine st_end ?_
  refine x_then_n ?_
  refine wp_seq ?_
  refine wp_region_lit ?_
  refine st_y hf rfl rfl rfl (y_assign rfl rfl) ?_
  clear hf a; intro a hf
  refine st_end ?_
  refine x_then_n ?_
  refine wp_seq ?_
  refine wp_seq ?_
  refine wp_region_lit ?_
  refine st_y hf rfl rfl rfl (y_assign rfl rfl) ?_
  clear hf a; intro a hf
  refine st_end ?_
  refine x_then_n ?_
  obtain ⟨p0_1, c0_1, he, hl0_1⟩ := ro_slice (hm.ow_rep 0 rfl)
  subst he
  refine wp_block ?_
  obtain ⟨r0_1, hl0_2, hq⟩ := bnd hq
  refine wp_forN _ (fun i1_1 xs1_1 a w => ∃ (v1_1 : Value), Fr 35 [(1, v2), (2, (.pointer (some ⟨b0_1, 0, none⟩))), (6, v1_1), (7, (.int .i64 (xs1_1.2))), (8, (.int .i64 (i1_1)))] a ∧ Mem w0 (hp w0) w [blk b0_1 [(.int .i64 (f.params)), (.int .i64 (f.slots)), v1] 35, ow [v1_1] xs1_1.1]) (0) ((f.ins.length : Int)) hl0_2 ?_ ?_ ?_
  ·
    exact ⟨(.slice p0_1 ([] : List Int).length c0_1), hf.sub ⟨rfl, rfl, rfl, rfl, rfl, trivial⟩, hm.pick [1, 0] (by decide) rfl⟩
  ·
    clear hf hm
    rintro i1_1 xs1_1 a w ⟨v1_1, hf, hm⟩ hi1_1 hi1_2 q0_1 hb0_1 ho0_1
    refine wp_seq ?_
    refine wp_seq ?_
    refine wp_region_lit ?_
    refine st_y hf rfl rfl rfl (y_move rfl rfl) ?_
    clear hf a; intro a hf
    refine st_y hf rfl rfl rfl (y_fieldAddr fo_35_2 rfl rfl) ?_
    clear hf a; intro a hf
    refine st_y hf rfl rfl rfl (y_load1 Tryd.isAgg33 rfl rfl (hm.blk_cell 0 rfl rfl)) ?_
    clear hf a; intro a hf
    obtain ⟨p1_1, c1_1, he, hl1_1⟩ := ro_slice h1
    subst he
    refine st_y hf rfl rfl rfl (y_len_slice st_33.und rfl rfl) ?_
    clear hf a; intro a hf
    refine st_y hf rfl rfl rfl (y_lss rfl rfl rfl) ?_
    clear hf a; intro a hf
    refine st_end ?_
    refine x_then_n ?_
    refine cond_t hf rfl (decide_eq_true (by omega)) ?_
    refine wp_skip ?_
    refine x_then_n ?_
    refine wp_seq ?_
    refine wp_block ?_
    refine wp_seq ?_
    refine wp_region_lit ?_
    refine st_y hf rfl rfl rfl (y_move rfl rfl) ?_
    clear hf a; intro a hf
    refine st_y hf rfl rfl rfl (y_move rfl rfl) ?_
    clear hf a; intro a hf
    refine st_ef hf rfl rfl rfl (e_build (vs := #[(0, (.int .i64 (xs1_1.2)))]) (cs := [(.int .i64 (xs1_1.2))]) et_46 hf hm rfl rfl (by kernel_rfl) rfl rfl) ?_
    clear hf a; rintro _ w1_1 a ⟨b1_1, rfl, hm⟩ hf
    replace hm := hm.lit (xs := ([xs1_1.2] : List Int)) 0 rfl rfl rfl rfl
    obtain ⟨ys1_1, hx1_1, hb0_1⟩ := bnd hb0_1
    obtain ⟨h1_1, h1_1e⟩ := appM_some.1 hx1_1
    refine st_ef hf rfl rfl rfl (e_append 2 et_46 hf hm rfl (hm.ow_rep 0 rfl) rfl rfl rfl h1_1) ?_
    clear hf a; rintro v1_2 w1_2 a hm hf
    rw [h1_1e] at hm
    refine st_y hf rfl rfl rfl (y_assign rfl rfl) ?_
    clear hf a; intro a hf
    refine st_end ?_
    refine x_then_n ?_
    refine wp_tree (.p 0 (.p 1 (.p 3 (.p 6 (.p 7 (.p 8 (.q 2 (.p 4 (.q 5 (.e 9 (.e 10 (.p 11 (.p 12 .fin)) .nil) .nil)))))))))) [9] [0, 1, 3, 4, 6, 7, 8, 11, 12] (fun w => Mem w0 (hp w0) w [ow [(.slice (some ⟨b1_1, 0, none⟩) 1 1)] ([xs1_1.2] : List Int), blk b0_1 [(.int .i64 (f.params)), (.int .i64 (f.slots)), (.slice p1_1 f.ins.length c1_1)] 35, ow [v1_2] ys1_1]) (by kernel_rfl) (by kernel_rfl) (fun _ _ _ h => h.2) ?_
    replace hm := hm.drew
    have hS : Mem w0 (hp w0) _ [ow [(.slice (some ⟨b1_1, 0, none⟩) 1 1)] ([xs1_1.2] : List Int), blk b0_1 [(.int .i64 (f.params)), (.int .i64 (f.slots)), (.slice p1_1 f.ins.length c1_1)] 35, ow [v1_2] ys1_1] := hm.pick [0, 1, 2] (by decide) rfl
    refine td_p hf rfl rfl rfl rfl (fun w => y_move rfl rfl) ?_
    clear hf a; intro a hf
    refine td_p hf rfl rfl rfl rfl (fun w => y_fieldAddr fo_35_2 rfl rfl) ?_
    clear hf a; intro a hf
    refine td_p hf rfl rfl rfl rfl (fun w => y_move rfl rfl) ?_
    clear hf a; intro a hf
    refine td_p hf rfl rfl rfl rfl (fun w => y_move rfl rfl) ?_
    clear hf a; intro a hf
    refine td_p hf rfl rfl rfl rfl (fun w => y_move rfl rfl) ?_
    clear hf a; intro a hf
    obtain ⟨x1_1, hx1_2, hb0_1⟩ := bnd hb0_1
    obtain ⟨h1_2, hx1_3⟩ := getI_some.1 hx1_2
    obtain ⟨b1_2, o1_1, c1_2, he⟩ := idx_form h2 hx1_3
    subst he
    refine td_p hf rfl rfl rfl rfl (fun w => y_indexAddr st_68 rfl rfl rfl h1_2 (idx_lt hx1_3)) ?_
    clear hf a; intro a hf
    refine td_y hf rfl rfl rfl rfl hS (fun w hm => y_load1 Tryd.isAgg33 rfl rfl (hm.blk_cell 1 rfl rfl)) ?_
    clear hf a; intro a hf
    obtain ⟨x1_2, hx1_4, hb0_1⟩ := bnd hb0_1
    obtain ⟨h1_3, hx1_5⟩ := getI_some.1 hx1_4
    obtain ⟨b1_3, o1_2, c1_3, he⟩ := idx_form h1 hx1_5
    simp only [Value.slice.injEq, Option.some.injEq] at he; obtain ⟨rfl, _, rfl⟩ := he
    refine td_p hf rfl rfl rfl rfl (fun w => y_indexAddr st_33 rfl rfl rfl h1_3 (idx_lt hx1_5)) ?_
    clear hf a; intro a hf
    refine td_y hf rfl rfl rfl rfl hS (fun w hm => y_loadN (cs := [(.int .i64 (x1_2.op)), (.int .i64 (x1_2.a_)), (.int .i64 (x1_2.b)), (.int .i64 (x1_2.c)), (.int .i64 (x1_2.n_))]) Tryd.isAgg27 Tryd.sizeOf27 rfl rfl (flat_cells (cs := [(.int .i64 (x1_2.op)), (.int .i64 (x1_2.a_)), (.int .i64 (x1_2.b)), (.int .i64 (x1_2.c)), (.int .i64 (x1_2.n_))]) (hm.now h1) hx1_5 rfl)) ?_
    clear hf a; intro a hf
    refine te_one ?_
    refine td_ef hf rfl rfl rfl rfl (ef_y hf (y_load1 Tryd.isAgg4 rfl rfl ((flat_cells (cs := [(.bool (x1_1))]) (hm.now h2) hx1_3 rfl).cell (j := 0) rfl))) ?_
    clear hf a; rintro _ _ a ⟨rfl, rfl⟩ hf
    refine ⟨fun _ => hS, ?_⟩
    refine te_one ?_
    obtain ⟨r1_1, hx1_6, hb0_1⟩ := bnd hb0_1
    refine td_ef hf rfl rfl rfl rfl (e_call hf rfl Tryd.call57 rfl (spec_l25Size_ok _ x1_2 x1_1 _ hx1_6)) ?_
    clear hf a; rintro v1_3 w1_3 a ho1_1 hf
    obtain ⟨rfl, hB⟩ := ho1_1
    replace hm := hm.below' hB; clear hB
    refine ⟨fun h => absurd h (by decide), ?_⟩
    refine td_p hf rfl rfl rfl rfl (fun w => y_addw rfl rfl rfl) ?_
    clear hf a; intro a hf
    refine td_p hf rfl rfl rfl rfl (fun w => y_assign rfl rfl) ?_
    clear hf a; intro a hf
    clear hS; refine td_end ?_
    refine x_blk_n ?_
    refine x_then_n ?_
    refine wp_region_lit ?_
    refine st_y hf rfl rfl rfl (y_move rfl rfl) ?_
    clear hf a; intro a hf
    refine st_y hf rfl rfl rfl (y_add64 rfl rfl rfl (by omega) (by omega)) ?_
    clear hf a; intro a hf
    refine st_y hf rfl rfl rfl (y_assign rfl rfl) ?_
    clear hf a; intro a hf
    refine st_end ?_
    refine x_then_n ?_
    obtain rfl := Option.some.inj hb0_1
    exact ⟨_, rfl, v1_2, hf.sub ⟨rfl, rfl, rfl, rfl, rfl, trivial⟩, hm.pick [1, 2] (by decide) rfl⟩
  ·
    clear hf hm
    rintro i0_1 xs0_1 a w ⟨v0_2, hf, hm⟩ hi0_1 hi0_2 rfl
    replace hq := sum_l hq
    refine wp_seq ?_
    refine wp_seq ?_
    refine wp_region_lit ?_
    refine st_y hf rfl rfl rfl (y_move rfl rfl) ?_
    clear hf a; intro a hf
    refine st_y hf rfl rfl rfl (y_fieldAddr fo_35_2 rfl rfl) ?_
    clear hf a; intro a hf
    refine st_y hf rfl rfl rfl (y_load1 Tryd.isAgg33 rfl rfl (hm.blk_cell 0 rfl rfl)) ?_
    clear hf a; intro a hf
    obtain ⟨p0_2, c0_2, he, hl0_3⟩ := ro_slice h1
    subst he
    refine st_y hf rfl rfl rfl (y_len_slice st_33.und rfl rfl) ?_
    clear hf a; intro a hf
    refine st_y hf rfl rfl rfl (y_lss rfl rfl rfl) ?_
    clear hf a; intro a hf
    refine st_end ?_
    refine x_then_n ?_
    refine cond_f hf rfl (decide_eq_false (by omega)) ?_
    refine wp_exit ?_
    refine x_then_exit ?_
    refine x_then_exit ?_
    refine x_blk_hit ?_
    refine x_then_n ?_
    refine wp_seq ?_
    refine wp_region_lit ?_
    refine st_y hf rfl rfl rfl (y_move rfl rfl) ?_
    clear hf a; intro a hf
    refine st_y hf rfl rfl rfl (y_move rfl rfl) ?_
    clear hf a; intro a hf
    refine st_y hf rfl rfl rfl (y_assign rfl rfl) ?_
    clear hf a; intro a hf
    refine st_y hf rfl rfl rfl (y_assign rfl rfl) ?_
    clear hf a; intro a hf
    refine st_end ?_
    refine x_then_n ?_
    refine wp_ret ?_
    obtain rfl := Option.some.inj hq
    refine ret_tmp2 hf Tryd.results55 rfl rfl ?_
    exact ⟨v0_2, rfl, hm.pick [1] (by decide) rfl⟩

end Go.Proofs.YtmhjfaoefcdelaaDoor
