/- A part of the proof of FnExactDropMinsSaid. -/
import Derived.Test.YtmhjfaoefcdelaaDmModels
import Derived.Test.YtmhjfaoefcdelaaChecked
namespace Go.Proofs.Ytmhjfaoefcdelaa
open Go Go.Wk Go.RowKit

theorem fo_24_0 : FieldOff Try.prog 24 0 0 := by have h := FieldOff.mk (k := 0) Try.underlying24 rfl Try.sizeOf3; exact h
theorem fo_24_1 : FieldOff Try.prog 24 1 1 := by have h := FieldOff.mk (k := 1) Try.underlying24 rfl Try.sizeOf3; exact h
theorem fo_24_2 : FieldOff Try.prog 24 2 2 := by have h := FieldOff.mk (k := 2) Try.underlying24 rfl Try.sizeOf22; exact h
theorem fo_29_0 : FieldOff Try.prog 29 0 0 := by have h := FieldOff.mk (k := 0) Try.underlying29 rfl Try.sizeOf3; exact h
theorem fo_29_1 : FieldOff Try.prog 29 1 1 := by have h := FieldOff.mk (k := 1) Try.underlying29 rfl Try.sizeOf3; exact h
theorem fo_29_2 : FieldOff Try.prog 29 2 2 := by have h := FieldOff.mk (k := 2) Try.underlying29 rfl Try.sizeOf27; exact h
theorem fo_50_0 : FieldOff Try.prog 50 0 0 := by have h := FieldOff.mk (k := 0) Try.underlying50 rfl Try.sizeOf3; exact h
theorem fo_50_1 : FieldOff Try.prog 50 1 1 := by have h := FieldOff.mk (k := 1) Try.underlying50 rfl Try.sizeOf3; exact h
theorem fo_50_2 : FieldOff Try.prog 50 2 2 := by have h := FieldOff.mk (k := 2) Try.underlying50 rfl Try.sizeOf3; exact h
theorem fo_50_3 : FieldOff Try.prog 50 3 3 := by have h := FieldOff.mk (k := 3) Try.underlying50 rfl Try.sizeOf3; exact h
theorem fo_50_4 : FieldOff Try.prog 50 4 4 := by have h := FieldOff.mk (k := 4) Try.underlying50 rfl Try.sizeOf3; exact h
theorem fo_60_0 : FieldOff Try.prog 60 0 0 := by have h := FieldOff.mk (k := 0) Try.underlying60 rfl Try.sizeOf3; exact h
theorem fo_60_1 : FieldOff Try.prog 60 1 1 := by have h := FieldOff.mk (k := 1) Try.underlying60 rfl Try.sizeOf3; exact h
theorem fo_60_2 : FieldOff Try.prog 60 2 2 := by have h := FieldOff.mk (k := 2) Try.underlying60 rfl Try.sizeOf3; exact h
theorem fo_60_3 : FieldOff Try.prog 60 3 3 := by have h := FieldOff.mk (k := 3) Try.underlying60 rfl Try.sizeOf3; exact h
theorem fo_60_4 : FieldOff Try.prog 60 4 4 := by have h := FieldOff.mk (k := 4) Try.underlying60 rfl Try.sizeOf3; exact h
theorem st_22 : SliceTy Try.prog 22 60 5 := ⟨Try.underlying22, Try.sizeOf60⟩
theorem st_27 : SliceTy Try.prog 27 50 5 := ⟨Try.underlying27, Try.sizeOf50⟩
theorem st_33 : SliceTy Try.prog 33 3 1 := ⟨Try.underlying33, Try.sizeOf3⟩
theorem st_47 : SliceTy Try.prog 47 4 1 := ⟨Try.underlying47, Try.sizeOf4⟩
theorem et_27 : ElemTy Try.prog 27 50 5 (.agg #[(.int .i64 (0)), (.int .i64 (0)), (.int .i64 (0)), (.int .i64 (0)), (.int .i64 (0))]) := ⟨Try.underlying27, ⟨_, (by kernel_rfl : Try.prog.info? 50 = some Try.t50), rfl, by decide, rfl⟩, rfl, by decide⟩
theorem et_33 : ElemTy Try.prog 33 3 1 (.int .i64 (0)) := ⟨Try.underlying33, ⟨_, (by kernel_rfl : Try.prog.info? 3 = some Try.t3), rfl, by decide, rfl⟩, rfl, by decide⟩
theorem et_47 : ElemTy Try.prog 47 4 1 (.bool (false)) := ⟨Try.underlying47, ⟨_, (by kernel_rfl : Try.prog.info? 4 = some Try.t4), rfl, by decide, rfl⟩, rfl, by decide⟩

theorem laws_szMinsS_ok (w0 : World) (a_ : List Mins) (v1 : Value) (h1 : GT.rep (hp w0) [v1] a_) (left : Int) (r : Int) (hq : laws_szMinsS a_ left = some r) :
    Con Try.prog 21 [v1, (.int .i64 (left))] w0 (fun v w' => v = (.int .i64 (r)) ∧ Below w0.heap.size w0 w') := by
  unfold laws_szMinsS at hq
  refine con_body (l := [(0, v1), (1, (.int .i64 (left)))]) Try.func21 rfl Try.ntmps21 (Args.get ⟨rfl, rfl, trivial⟩) rfl ?_
  intro a hf
  have hm := Mem.start w0
  refine wp_seq ?_
  refine wp_region_lit ?_
  refine st_y hf rfl rfl rfl (y_assign rfl rfl) ?_
  clear hf a; intro a hf
  refine st_end ?_
  refine x_then_n ?_
  refine wp_seq ?_
  refine wp_region_lit ?_
  refine st_y hf rfl rfl rfl (y_move rfl rfl) ?_
  clear hf a; intro a hf
  refine st_y hf rfl rfl rfl (y_move rfl rfl) ?_
  clear hf a; intro a hf
  obtain ⟨p0_1, c0_1, he, hl0_1⟩ := ro_slice (hm.now h1)
  subst he
  refine st_y hf rfl rfl rfl (y_len_slice st_22.und rfl rfl) ?_
  clear hf a; intro a hf
  refine st_y hf rfl rfl rfl (y_subw rfl rfl rfl) ?_
  clear hf a; intro a hf
  refine st_y hf rfl rfl rfl (y_assign rfl rfl) ?_
  clear hf a; intro a hf
  refine st_end ?_
  refine x_then_n ?_
  refine wp_seq ?_
  refine wp_seq ?_
  refine wp_region_lit ?_
  refine st_y hf rfl rfl rfl (y_move rfl rfl) ?_
  clear hf a; intro a hf
  refine st_y hf rfl rfl rfl (y_lss rfl rfl rfl) ?_
  clear hf a; intro a hf
  refine st_end ?_
  refine x_then_n ?_
  rcases bcases (decide ((w64 (left - ((a_.length : Int)))) < 0)) with h0_1 | h0_1
  ·
    replace hq := (ite_t h0_1).symm.trans hq
    have h0_2 := of_decide_eq_true h0_1
    refine cond_t hf rfl h0_1 ?_
    refine wp_seq ?_
    refine wp_region_lit ?_
    refine st_y hf rfl rfl rfl (y_assign rfl rfl) ?_
    clear hf a; intro a hf
    refine st_end ?_
    refine x_then_n ?_
    refine wp_ret ?_
    refine x_then_ret ?_
    obtain rfl := Option.some.inj hq
    refine ret_tmp hf Try.results21 rfl ?_
    exact ⟨rfl, hm.below⟩
  ·
    replace hq := (ite_f h0_1).symm.trans hq
    have h0_3 := of_decide_eq_false h0_1
    refine cond_f hf rfl h0_1 ?_
    refine wp_skip ?_
    refine x_then_n ?_
    refine wp_seq ?_
    refine wp_region_lit ?_
    refine st_y hf rfl rfl rfl (y_move rfl rfl) ?_
    clear hf a; intro a hf
    refine st_y hf rfl rfl rfl (y_assign rfl rfl) ?_
    clear hf a; intro a hf
    refine st_end ?_
    refine x_then_n ?_
    refine wp_ret ?_
    obtain rfl := Option.some.inj hq
    refine ret_tmp hf Try.results21 rfl ?_
    exact ⟨rfl, hm.below⟩

theorem laws_szMfn_ok (w0 : World) (a_ : Mfn) (v1 : Value) (h1 : GT.rep (hp w0) [v1] a_.ins) (left : Int) (r : Int) (hq : laws_szMfn a_ left = some r) :
    Con Try.prog 6 [(.agg #[(.int .i64 (a_.params)), (.int .i64 (a_.slots)), v1]), (.int .i64 (left))] w0 (fun v w' => v = (.int .i64 (r)) ∧ Below w0.heap.size w0 w') := by
  unfold laws_szMfn at hq
  refine con_body (l := [(0, (.agg #[(.int .i64 (a_.params)), (.int .i64 (a_.slots)), v1])), (1, (.int .i64 (left)))]) Try.func6 rfl Try.ntmps6 (Args.get ⟨rfl, rfl, trivial⟩) rfl ?_
  intro a hf
  have hm := Mem.start w0
  refine wp_seq ?_
  refine wp_region_lit ?_
  refine st_ef hf rfl rfl rfl (e_box hf hm rfl rfl rfl) ?_
  clear hf a; rintro _ w0_1 a ⟨b0_1, rfl, hm⟩ hf
  refine st_y hf rfl rfl rfl (y_assign rfl rfl) ?_
  clear hf a; intro a hf
  refine st_end ?_
  refine x_then_n ?_
  refine wp_seq ?_
  refine wp_region_lit ?_
  refine st_y hf rfl rfl rfl (y_fieldAddr fo_24_2 rfl rfl) ?_
  clear hf a; intro a hf
  refine st_y hf rfl rfl rfl (y_load1 Try.isAgg22 rfl rfl (hm.blk_cell 0 rfl rfl)) ?_
  clear hf a; intro a hf
  refine st_y hf rfl rfl rfl (y_move rfl rfl) ?_
  clear hf a; intro a hf
  obtain ⟨r0_1, hx0_1, hq⟩ := bnd hq
  refine st_ef hf rfl rfl rfl (e_call hf rfl Try.call21 rfl (laws_szMinsS_ok _ a_.ins v1 (hm.now h1) left _ hx0_1)) ?_
  clear hf a; rintro _ w0_2 a ⟨rfl, hB⟩ hf
  replace hm := hm.below' hB; clear hB
  refine st_y hf rfl rfl rfl (y_assign rfl rfl) ?_
  clear hf a; intro a hf
  refine st_end ?_
  refine x_then_n ?_
  refine wp_seq ?_
  refine wp_seq ?_
  refine wp_region_lit ?_
  refine st_y hf rfl rfl rfl (y_move rfl rfl) ?_
  clear hf a; intro a hf
  refine st_y hf rfl rfl rfl (y_lss rfl rfl rfl) ?_
  clear hf a; intro a hf
  refine st_end ?_
  refine x_then_n ?_
  rcases bcases (decide (r0_1 < 0)) with h0_1 | h0_1
  ·
    replace hq := (ite_t h0_1).symm.trans hq
    have h0_2 := of_decide_eq_true h0_1
    refine cond_t hf rfl h0_1 ?_
    refine wp_seq ?_
    refine wp_region_lit ?_
    refine st_y hf rfl rfl rfl (y_assign rfl rfl) ?_
    clear hf a; intro a hf
    refine st_end ?_
    refine x_then_n ?_
    refine wp_ret ?_
    refine x_then_ret ?_
    obtain rfl := Option.some.inj hq
    refine ret_tmp hf Try.results6 rfl ?_
    exact ⟨rfl, hm.below⟩
  ·
    replace hq := (ite_f h0_1).symm.trans hq
    have h0_3 := of_decide_eq_false h0_1
    refine cond_f hf rfl h0_1 ?_
    refine wp_skip ?_
    refine x_then_n ?_
    refine wp_seq ?_
    refine wp_region_lit ?_
    refine st_y hf rfl rfl rfl (y_move rfl rfl) ?_
    clear hf a; intro a hf
    refine st_y hf rfl rfl rfl (y_assign rfl rfl) ?_
    clear hf a; intro a hf
    refine st_end ?_
    refine x_then_n ?_
    refine wp_ret ?_
    obtain rfl := Option.some.inj hq
    refine ret_tmp hf Try.results6 rfl ?_
    exact ⟨rfl, hm.below⟩

theorem laws_toMins_ok (w0 : World) (a_ : Mins) (r : Mins) (hq : laws_toMins a_ = some r) :
    Con Try.prog 42 [(.agg #[(.int .i64 (a_.op)), (.int .i64 (a_.a_)), (.int .i64 (a_.b)), (.int .i64 (a_.c)), (.int .i64 (a_.n_))])] w0 (fun v w' => v = (.agg #[(.int .i64 (r.op)), (.int .i64 (r.a_)), (.int .i64 (r.b)), (.int .i64 (r.c)), (.int .i64 (r.n_))]) ∧ Below w0.heap.size w0 w') := by
  unfold laws_toMins at hq
  refine con_body (l := [(0, (.agg #[(.int .i64 (a_.op)), (.int .i64 (a_.a_)), (.int .i64 (a_.b)), (.int .i64 (a_.c)), (.int .i64 (a_.n_))]))]) Try.func42 rfl Try.ntmps42 (Args.get ⟨rfl, trivial⟩) rfl ?_
  intro a hf
  have hm := Mem.start w0
  refine wp_seq ?_
  refine wp_region_lit ?_
  refine st_ef hf rfl rfl rfl (e_box hf hm rfl rfl rfl) ?_
  clear hf a; rintro _ w0_1 a ⟨b0_1, rfl, hm⟩ hf
  refine st_ef hf rfl rfl rfl (e_alloc hm Try.zeroValue50 rfl rfl) ?_
  clear hf a; rintro _ w0_2 a ⟨b0_2, rfl, hm⟩ hf
  refine st_end ?_
  refine x_then_n ?_
  refine wp_seq ?_
  refine wp_region_lit ?_
  refine st_ef hf rfl rfl rfl (e_alloc hm Try.zeroValue50 rfl rfl) ?_
  clear hf a; rintro _ w0_3 a ⟨b0_3, rfl, hm⟩ hf
  refine st_end ?_
  refine x_then_n ?_
  refine wp_seq ?_
  refine wp_region_lit ?_
  refine st_y hf rfl rfl rfl (y_fieldAddr fo_60_0 rfl rfl) ?_
  clear hf a; intro a hf
  refine st_y hf rfl rfl rfl (y_load1 Try.isAgg3 rfl rfl (hm.blk_cell 2 rfl rfl)) ?_
  clear hf a; intro a hf
  refine st_y hf rfl rfl rfl (y_fieldAddr fo_50_0 rfl rfl) ?_
  clear hf a; intro a hf
  refine st_ef0 hf rfl rfl (e_store1 0 hf hm rfl Try.sizeOf3 rfl rfl rfl rfl rfl) ?_
  clear hf a; rintro _ w0_4 a hm hf
  refine st_end ?_
  refine x_then_n ?_
  refine wp_seq ?_
  refine wp_region_lit ?_
  refine st_y hf rfl rfl rfl (y_fieldAddr fo_60_1 rfl rfl) ?_
  clear hf a; intro a hf
  refine st_y hf rfl rfl rfl (y_load1 Try.isAgg3 rfl rfl (hm.blk_cell 2 rfl rfl)) ?_
  clear hf a; intro a hf
  refine st_y hf rfl rfl rfl (y_fieldAddr fo_50_1 rfl rfl) ?_
  clear hf a; intro a hf
  refine st_ef0 hf rfl rfl (e_store1 0 hf hm rfl Try.sizeOf3 rfl rfl rfl rfl rfl) ?_
  clear hf a; rintro _ w0_5 a hm hf
  refine st_end ?_
  refine x_then_n ?_
  refine wp_seq ?_
  refine wp_region_lit ?_
  refine st_y hf rfl rfl rfl (y_fieldAddr fo_60_2 rfl rfl) ?_
  clear hf a; intro a hf
  refine st_y hf rfl rfl rfl (y_load1 Try.isAgg3 rfl rfl (hm.blk_cell 2 rfl rfl)) ?_
  clear hf a; intro a hf
  refine st_y hf rfl rfl rfl (y_fieldAddr fo_50_2 rfl rfl) ?_
  clear hf a; intro a hf
  refine st_ef0 hf rfl rfl (e_store1 0 hf hm rfl Try.sizeOf3 rfl rfl rfl rfl rfl) ?_
  clear hf a; rintro _ w0_6 a hm hf
  refine st_end ?_
  refine x_then_n ?_
  refine wp_seq ?_
  refine wp_region_lit ?_
  refine st_y hf rfl rfl rfl (y_fieldAddr fo_60_3 rfl rfl) ?_
  clear hf a; intro a hf
  refine st_y hf rfl rfl rfl (y_load1 Try.isAgg3 rfl rfl (hm.blk_cell 2 rfl rfl)) ?_
  clear hf a; intro a hf
  refine st_y hf rfl rfl rfl (y_fieldAddr fo_50_3 rfl rfl) ?_
  clear hf a; intro a hf
  refine st_ef0 hf rfl rfl (e_store1 0 hf hm rfl Try.sizeOf3 rfl rfl rfl rfl rfl) ?_
  clear hf a; rintro _ w0_7 a hm hf
  refine st_end ?_
  refine x_then_n ?_
  refine wp_seq ?_
  refine wp_region_lit ?_
  refine st_y hf rfl rfl rfl (y_fieldAddr fo_60_4 rfl rfl) ?_
  clear hf a; intro a hf
  refine st_y hf rfl rfl rfl (y_load1 Try.isAgg3 rfl rfl (hm.blk_cell 2 rfl rfl)) ?_
  clear hf a; intro a hf
  refine st_y hf rfl rfl rfl (y_fieldAddr fo_50_4 rfl rfl) ?_
  clear hf a; intro a hf
  refine st_ef0 hf rfl rfl (e_store1 0 hf hm rfl Try.sizeOf3 rfl rfl rfl rfl rfl) ?_
  clear hf a; rintro _ w0_8 a hm hf
  refine st_end ?_
  refine x_then_n ?_
  refine wp_seq ?_
  refine wp_region_lit ?_
  refine st_y hf rfl rfl rfl (y_loadN (cs := [(.int .i64 (a_.op)), (.int .i64 (a_.a_)), (.int .i64 (a_.b)), (.int .i64 (a_.c)), (.int .i64 (a_.n_))]) Try.isAgg50 Try.sizeOf50 rfl rfl (hm.blk_at 0 rfl)) ?_
  clear hf a; intro a hf
  refine st_ef0 hf rfl rfl (e_storeN 1 hf hm rfl Try.sizeOf50 rfl rfl rfl (one_cons rfl (one_cons rfl (one_cons rfl (one_cons rfl (one_cons rfl one_nil))))) rfl rfl) ?_
  clear hf a; rintro _ w0_9 a hm hf
  refine st_end ?_
  refine x_then_n ?_
  refine wp_ret ?_
  obtain rfl := Option.some.inj hq
  refine ret_cell 1 hf Try.results42 hm rfl rfl Try.isAgg50 Try.sizeOf50 ?_
  exact ⟨rfl, hm.below⟩

theorem laws_toMinsS_ok (w0 : World) (a_ : List Mins) (v1 : Value) (h1 : GT.rep (hp w0) [v1] a_) (r : (List Mins)) (hq : laws_toMinsS a_ = some r) :
    Con Try.prog 25 [v1] w0 (fun v w' => ∃ (x1 : Value), v = x1 ∧ Mem w0 (hp w0) w' [ow [x1] r]) := by
  unfold laws_toMinsS at hq
  refine con_body (l := [(0, v1)]) Try.func25 rfl Try.ntmps25 (Args.get ⟨rfl, trivial⟩) rfl ?_
  intro a hf
  have hm := Mem.start w0
  refine wp_seq ?_
  refine wp_region_lit ?_
  refine st_y hf rfl rfl rfl (y_assign rfl rfl) ?_
  clear hf a; intro a hf
  refine st_end ?_
  refine x_then_n ?_
  refine wp_seq ?_
  refine wp_region_lit ?_
  refine st_y hf rfl rfl rfl (y_move rfl rfl) ?_
  clear hf a; intro a hf
  obtain ⟨p0_1, c0_1, he, hl0_1⟩ := ro_slice (hm.now h1)
  subst he
  refine st_y hf rfl rfl rfl (y_len_slice st_22.und rfl rfl) ?_
  clear hf a; intro a hf
  obtain ⟨ys0_1, hx0_1, hq⟩ := bnd hq
  obtain ⟨⟨h0_11, h0_12⟩, h0_1e⟩ := makeM_some.1 hx0_1
  refine st_ef hf rfl rfl rfl (e_make (x0 := ((⟨0, 0, 0, 0, 0⟩ : Mins) : Mins)) et_27 (fun _ => Flat.own_iff.2 rfl) hf hm rfl rfl rfl h0_11 (Int.le_refl _) h0_12) ?_
  clear hf a; rintro v0_1 w0_1 a hm hf
  rw [h0_1e] at hm
  have h0_1l : (ys0_1.length : Int) = (a_.length : Int) := by rw [← h0_1e]; simp only [List.length_replicate]; omega
  refine st_y hf rfl rfl rfl (y_assign rfl rfl) ?_
  clear hf a; intro a hf
  refine st_end ?_
  refine x_then_n ?_
  refine wp_seq ?_
  refine wp_seq ?_
  refine wp_region_lit ?_
  refine st_y hf rfl rfl rfl (y_assign rfl rfl) ?_
  clear hf a; intro a hf
  refine st_end ?_
  refine x_then_n ?_
  obtain ⟨p0_2, c0_2, he, hl0_2⟩ := ro_slice (hm.ow_rep 0 rfl)
  subst he
  refine wp_block ?_
  obtain ⟨r0_1, hl0_3, hq⟩ := bnd hq
  refine wp_forN _ (fun i1_1 xs1_1 a w => Fr 23 [(0, (.slice p0_1 a_.length c0_1)), (3, (.slice p0_2 ys0_1.length c0_2)), (4, (.int .i64 (i1_1)))] a ∧ Mem w0 (hp w0) w [ow [(.slice p0_2 ys0_1.length c0_2)] xs1_1]) (0) ((a_.length : Int)) hl0_3 ?_ ?_ ?_
  ·
    exact ⟨hf.sub ⟨rfl, rfl, rfl, trivial⟩, hm.pick [0] (by decide) rfl⟩
  ·
    clear hf hm
    rintro i1_1 xs1_1 a w ⟨hf, hm⟩ hi1_1 hi1_2 q0_1 hb0_1 ho0_1
    refine wp_seq ?_
    refine wp_seq ?_
    refine wp_region_lit ?_
    refine st_y hf rfl rfl rfl (y_move rfl rfl) ?_
    clear hf a; intro a hf
    refine st_y hf rfl rfl rfl (y_move rfl rfl) ?_
    clear hf a; intro a hf
    refine st_y hf rfl rfl rfl (y_len_slice st_22.und rfl rfl) ?_
    clear hf a; intro a hf
    refine st_y hf rfl rfl rfl (y_lss rfl rfl rfl) ?_
    clear hf a; intro a hf
    refine st_end ?_
    refine x_then_n ?_
    refine cond_t hf rfl (decide_eq_true (by omega)) ?_
    refine wp_skip ?_
    refine x_then_n ?_
    refine wp_seq ?_
    refine wp_block ?_
    refine wp_region_lit ?_
    refine st_y hf rfl rfl rfl (y_move rfl rfl) ?_
    clear hf a; intro a hf
    refine st_y hf rfl rfl rfl (y_move rfl rfl) ?_
    clear hf a; intro a hf
    refine st_y hf rfl rfl rfl (y_move rfl rfl) ?_
    clear hf a; intro a hf
    refine st_y hf rfl rfl rfl (y_move rfl rfl) ?_
    clear hf a; intro a hf
    obtain ⟨x1_1, hx1_1, hb0_1⟩ := bnd hb0_1
    obtain ⟨h1_1, hx1_2⟩ := getI_some.1 hx1_1
    obtain ⟨b1_1, o1_1, c1_1, he⟩ := idx_form h1 hx1_2
    simp only [Value.slice.injEq, Option.some.injEq] at he; obtain ⟨rfl, _, rfl⟩ := he
    refine st_y hf rfl rfl rfl (y_indexAddr st_22 rfl rfl rfl h1_1 (idx_lt hx1_2)) ?_
    clear hf a; intro a hf
    refine st_y hf rfl rfl rfl (y_loadN (cs := [(.int .i64 (x1_1.op)), (.int .i64 (x1_1.a_)), (.int .i64 (x1_1.b)), (.int .i64 (x1_1.c)), (.int .i64 (x1_1.n_))]) Try.isAgg60 Try.sizeOf60 rfl rfl (flat_cells (cs := [(.int .i64 (x1_1.op)), (.int .i64 (x1_1.a_)), (.int .i64 (x1_1.b)), (.int .i64 (x1_1.c)), (.int .i64 (x1_1.n_))]) (hm.now h1) hx1_2 rfl)) ?_
    clear hf a; intro a hf
    obtain ⟨r1_1, hx1_3, hb0_1⟩ := bnd hb0_1
    refine st_ef hf rfl rfl rfl (e_call hf rfl Try.call42 rfl (laws_toMins_ok _ x1_1 _ hx1_3)) ?_
    clear hf a; rintro _ w1_1 a ⟨rfl, hB⟩ hf
    replace hm := hm.below' hB; clear hB
    obtain ⟨x1_2, hx1_4, hb0_1⟩ := bnd hb0_1
    obtain ⟨h1_2, hx1_5⟩ := getI_some.1 hx1_4
    obtain ⟨b1_2, o1_2, c1_2, he⟩ := idx_form (hm.ow_rep 0 rfl) hx1_5
    simp only [Value.slice.injEq, Option.some.injEq] at he; obtain ⟨rfl, _, rfl⟩ := he
    refine st_y hf rfl rfl rfl (y_indexAddr st_27 rfl rfl rfl h1_2 (idx_lt2 hx1_5 (rep_slice_len (hm.ow_rep 0 rfl)))) ?_
    clear hf a; intro a hf
    refine st_ef0 hf rfl rfl (e_setElem (x1 := r1_1) (j := 0) (vs := [(.int .i64 (r1_1.op)), (.int .i64 (r1_1.a_)), (.int .i64 (r1_1.b)), (.int .i64 (r1_1.c)), (.int .i64 (r1_1.n_))]) 0 hf hm rfl hx1_5 rfl Try.sizeOf50 rfl rfl rfl (one_cons rfl (one_cons rfl (one_cons rfl (one_cons rfl (one_cons rfl one_nil))))) rfl rfl) ?_
    clear hf a; rintro _ w1_2 a hm hf
    have hx1_6 := List.getElem?_set_self (a := r1_1) (idx_lt hx1_5)
    refine st_end ?_
    refine x_blk_n ?_
    refine x_then_n ?_
    refine wp_region_lit ?_
    refine st_y hf rfl rfl rfl (y_move rfl rfl) ?_
    clear hf a; intro a hf
    refine st_y hf rfl rfl rfl (y_add64 rfl rfl rfl (by omega) (by omega)) ?_
    clear hf a; intro a hf
    refine st_y hf rfl rfl rfl (y_assign rfl rfl) ?_
    clear hf a; intro a hf
    refine st_end ?_
    refine x_then_n ?_
    obtain rfl := Option.some.inj hb0_1
    exact ⟨_, rfl, hf.sub ⟨rfl, rfl, rfl, trivial⟩, hm.pick [0] (by decide) rfl⟩
  ·
    clear hf hm
    rintro i0_1 xs0_1 a w ⟨hf, hm⟩ hi0_1 hi0_2 rfl
    replace hq := sum_l hq
    refine wp_seq ?_
    refine wp_seq ?_
    refine wp_region_lit ?_
    refine st_y hf rfl rfl rfl (y_move rfl rfl) ?_
    clear hf a; intro a hf
    refine st_y hf rfl rfl rfl (y_move rfl rfl) ?_
    clear hf a; intro a hf
    refine st_y hf rfl rfl rfl (y_len_slice st_22.und rfl rfl) ?_
    clear hf a; intro a hf
    refine st_y hf rfl rfl rfl (y_lss rfl rfl rfl) ?_
    clear hf a; intro a hf
    refine st_end ?_
    refine x_then_n ?_
    refine cond_f hf rfl (decide_eq_false (by omega)) ?_
    refine wp_exit ?_
    refine x_then_exit ?_
    refine x_then_exit ?_
    refine x_blk_hit ?_
    refine x_then_n ?_
    refine wp_seq ?_
    refine wp_region_lit ?_
    refine st_y hf rfl rfl rfl (y_move rfl rfl) ?_
    clear hf a; intro a hf
    refine st_y hf rfl rfl rfl (y_assign rfl rfl) ?_
    clear hf a; intro a hf
    refine st_end ?_
    refine x_then_n ?_
    refine wp_ret ?_
    obtain rfl := Option.some.inj hq
    refine ret_tmp hf Try.results25 rfl ?_
    exact ⟨(.slice p0_2 ys0_1.length c0_2), rfl, hm.pick [0] (by decide) rfl⟩

theorem laws_toMfn_ok (w0 : World) (a_ : Mfn) (v1 : Value) (h1 : GT.rep (hp w0) [v1] a_.ins) (r : Mfn) (hq : laws_toMfn a_ = some r) :
    Con Try.prog 8 [(.agg #[(.int .i64 (a_.params)), (.int .i64 (a_.slots)), v1])] w0 (fun v w' => ∃ (x1 : Value), v = (.agg #[(.int .i64 (r.params)), (.int .i64 (r.slots)), x1]) ∧ Mem w0 (hp w0) w' [ow [x1] r.ins]) := by
  unfold laws_toMfn at hq
  refine con_body (l := [(0, (.agg #[(.int .i64 (a_.params)), (.int .i64 (a_.slots)), v1]))]) Try.func8 rfl Try.ntmps8 (Args.get ⟨rfl, trivial⟩) rfl ?_
  intro a hf
  have hm := Mem.start w0
  refine wp_seq ?_
  refine wp_region_lit ?_
  refine st_ef hf rfl rfl rfl (e_box hf hm rfl rfl rfl) ?_
  clear hf a; rintro _ w0_1 a ⟨b0_1, rfl, hm⟩ hf
  refine st_ef hf rfl rfl rfl (e_alloc hm Try.zeroValue29 rfl rfl) ?_
  clear hf a; rintro _ w0_2 a ⟨b0_2, rfl, hm⟩ hf
  refine st_end ?_
  refine x_then_n ?_
  refine wp_seq ?_
  refine wp_region_lit ?_
  refine st_ef hf rfl rfl rfl (e_alloc hm Try.zeroValue29 rfl rfl) ?_
  clear hf a; rintro _ w0_3 a ⟨b0_3, rfl, hm⟩ hf
  refine st_end ?_
  refine x_then_n ?_
  refine wp_seq ?_
  refine wp_region_lit ?_
  refine st_y hf rfl rfl rfl (y_fieldAddr fo_24_0 rfl rfl) ?_
  clear hf a; intro a hf
  refine st_y hf rfl rfl rfl (y_load1 Try.isAgg3 rfl rfl (hm.blk_cell 2 rfl rfl)) ?_
  clear hf a; intro a hf
  refine st_y hf rfl rfl rfl (y_fieldAddr fo_29_0 rfl rfl) ?_
  clear hf a; intro a hf
  refine st_ef0 hf rfl rfl (e_store1 0 hf hm rfl Try.sizeOf3 rfl rfl rfl rfl rfl) ?_
  clear hf a; rintro _ w0_4 a hm hf
  refine st_end ?_
  refine x_then_n ?_
  refine wp_seq ?_
  refine wp_region_lit ?_
  refine st_y hf rfl rfl rfl (y_fieldAddr fo_24_1 rfl rfl) ?_
  clear hf a; intro a hf
  refine st_y hf rfl rfl rfl (y_load1 Try.isAgg3 rfl rfl (hm.blk_cell 2 rfl rfl)) ?_
  clear hf a; intro a hf
  refine st_y hf rfl rfl rfl (y_fieldAddr fo_29_1 rfl rfl) ?_
  clear hf a; intro a hf
  refine st_ef0 hf rfl rfl (e_store1 0 hf hm rfl Try.sizeOf3 rfl rfl rfl rfl rfl) ?_
  clear hf a; rintro _ w0_5 a hm hf
  refine st_end ?_
  refine x_then_n ?_
  refine wp_seq ?_
  refine wp_region_lit ?_
  refine st_y hf rfl rfl rfl (y_fieldAddr fo_24_2 rfl rfl) ?_
  clear hf a; intro a hf
  refine st_y hf rfl rfl rfl (y_load1 Try.isAgg22 rfl rfl (hm.blk_cell 2 rfl rfl)) ?_
  clear hf a; intro a hf
  obtain ⟨r0_1, hx0_1, hq⟩ := bnd hq
  refine st_ef hf rfl rfl rfl (e_call hf rfl Try.call25 rfl (laws_toMinsS_ok _ a_.ins v1 (hm.now h1) _ hx0_1)) ?_
  clear hf a; rintro v0_1 w0_6 a ⟨_, rfl, hB⟩ hf
  replace hm := hm.give hB; clear hB
  refine st_y hf rfl rfl rfl (y_fieldAddr fo_29_2 rfl rfl) ?_
  clear hf a; intro a hf
  refine st_ef0 hf rfl rfl (e_store1 1 hf hm rfl Try.sizeOf27 rfl rfl rfl (rep_one (hm.ow_rep 0 rfl)) rfl) ?_
  clear hf a; rintro _ w0_7 a hm hf
  refine st_end ?_
  refine x_then_n ?_
  refine wp_seq ?_
  refine wp_region_lit ?_
  refine st_y hf rfl rfl rfl (y_loadN (cs := [(.int .i64 (a_.params)), (.int .i64 (a_.slots)), v0_1]) Try.isAgg29 Try.sizeOf29 rfl rfl (hm.blk_at 1 rfl)) ?_
  clear hf a; intro a hf
  refine st_ef0 hf rfl rfl (e_storeN 2 hf hm rfl Try.sizeOf29 rfl rfl rfl (one_cons rfl (one_cons rfl (one_cons (rep_one (hm.ow_rep 0 rfl)) one_nil))) rfl rfl) ?_
  clear hf a; rintro _ w0_8 a hm hf
  refine st_end ?_
  refine x_then_n ?_
  refine wp_ret ?_
  obtain rfl := Option.some.inj hq
  refine ret_cell 2 hf Try.results8 hm rfl rfl Try.isAgg29 Try.sizeOf29 ?_
  exact ⟨v0_1, rfl, hm.pick [0] (by decide) rfl⟩

theorem laws_toIntS_ok (w0 : World) (a_ : List Int) (v1 : Value) (h1 : GT.rep (hp w0) [v1] a_) (r : (List Int)) (hq : laws_toIntS a_ = some r) :
    Con Try.prog 12 [v1] w0 (fun v w' => ∃ (x1 : Value), v = x1 ∧ Mem w0 (hp w0) w' [ow [x1] r]) := by
  unfold laws_toIntS at hq
  refine con_body (l := [(0, v1)]) Try.func12 rfl Try.ntmps12 (Args.get ⟨rfl, trivial⟩) rfl ?_
  intro a hf
  have hm := Mem.start w0
  refine wp_seq ?_
  refine wp_region_lit ?_
  refine st_y hf rfl rfl rfl (y_assign rfl rfl) ?_
  clear hf a; intro a hf
  refine st_end ?_
  refine x_then_n ?_
  refine wp_seq ?_
  refine wp_region_lit ?_
  refine st_y hf rfl rfl rfl (y_move rfl rfl) ?_
  clear hf a; intro a hf
  obtain ⟨p0_1, c0_1, he, hl0_1⟩ := ro_slice (hm.now h1)
  subst he
  refine st_y hf rfl rfl rfl (y_len_slice st_33.und rfl rfl) ?_
  clear hf a; intro a hf
  obtain ⟨ys0_1, hx0_1, hq⟩ := bnd hq
  obtain ⟨⟨h0_11, h0_12⟩, h0_1e⟩ := makeM_some.1 hx0_1
  refine st_ef hf rfl rfl rfl (e_make (x0 := (0 : Int)) et_33 (fun _ => Flat.own_iff.2 rfl) hf hm rfl rfl rfl h0_11 (Int.le_refl _) h0_12) ?_
  clear hf a; rintro v0_1 w0_1 a hm hf
  rw [h0_1e] at hm
  have h0_1l : (ys0_1.length : Int) = (a_.length : Int) := by rw [← h0_1e]; simp only [List.length_replicate]; omega
  refine st_y hf rfl rfl rfl (y_assign rfl rfl) ?_
  clear hf a; intro a hf
  refine st_end ?_
  refine x_then_n ?_
  refine wp_seq ?_
  refine wp_seq ?_
  refine wp_region_lit ?_
  refine st_y hf rfl rfl rfl (y_assign rfl rfl) ?_
  clear hf a; intro a hf
  refine st_end ?_
  refine x_then_n ?_
  obtain ⟨p0_2, c0_2, he, hl0_2⟩ := ro_slice (hm.ow_rep 0 rfl)
  subst he
  refine wp_block ?_
  obtain ⟨r0_1, hl0_3, hq⟩ := bnd hq
  refine wp_forN _ (fun i1_1 xs1_1 a w => Fr 22 [(0, (.slice p0_1 a_.length c0_1)), (3, (.slice p0_2 ys0_1.length c0_2)), (4, (.int .i64 (i1_1)))] a ∧ Mem w0 (hp w0) w [ow [(.slice p0_2 ys0_1.length c0_2)] xs1_1]) (0) ((a_.length : Int)) hl0_3 ?_ ?_ ?_
  ·
    exact ⟨hf.sub ⟨rfl, rfl, rfl, trivial⟩, hm.pick [0] (by decide) rfl⟩
  ·
    clear hf hm
    rintro i1_1 xs1_1 a w ⟨hf, hm⟩ hi1_1 hi1_2 q0_1 hb0_1 ho0_1
    refine wp_seq ?_
    refine wp_seq ?_
    refine wp_region_lit ?_
    refine st_y hf rfl rfl rfl (y_move rfl rfl) ?_
    clear hf a; intro a hf
    refine st_y hf rfl rfl rfl (y_move rfl rfl) ?_
    clear hf a; intro a hf
    refine st_y hf rfl rfl rfl (y_len_slice st_33.und rfl rfl) ?_
    clear hf a; intro a hf
    refine st_y hf rfl rfl rfl (y_lss rfl rfl rfl) ?_
    clear hf a; intro a hf
    refine st_end ?_
    refine x_then_n ?_
    refine cond_t hf rfl (decide_eq_true (by omega)) ?_
    refine wp_skip ?_
    refine x_then_n ?_
    refine wp_seq ?_
    refine wp_block ?_
    refine wp_region_lit ?_
    refine st_y hf rfl rfl rfl (y_move rfl rfl) ?_
    clear hf a; intro a hf
    refine st_y hf rfl rfl rfl (y_move rfl rfl) ?_
    clear hf a; intro a hf
    refine st_y hf rfl rfl rfl (y_move rfl rfl) ?_
    clear hf a; intro a hf
    refine st_y hf rfl rfl rfl (y_move rfl rfl) ?_
    clear hf a; intro a hf
    obtain ⟨x1_1, hx1_1, hb0_1⟩ := bnd hb0_1
    obtain ⟨h1_1, hx1_2⟩ := getI_some.1 hx1_1
    obtain ⟨b1_1, o1_1, c1_1, he⟩ := idx_form h1 hx1_2
    simp only [Value.slice.injEq, Option.some.injEq] at he; obtain ⟨rfl, _, rfl⟩ := he
    refine st_y hf rfl rfl rfl (y_indexAddr st_33 rfl rfl rfl h1_1 (idx_lt hx1_2)) ?_
    clear hf a; intro a hf
    refine st_y hf rfl rfl rfl (y_load1 Try.isAgg3 rfl rfl ((flat_cells (cs := [(.int .i64 (x1_1))]) (hm.now h1) hx1_2 rfl).cell (j := 0) rfl)) ?_
    clear hf a; intro a hf
    obtain ⟨x1_2, hx1_3, hb0_1⟩ := bnd hb0_1
    obtain ⟨h1_2, hx1_4⟩ := getI_some.1 hx1_3
    obtain ⟨b1_2, o1_2, c1_2, he⟩ := idx_form (hm.ow_rep 0 rfl) hx1_4
    simp only [Value.slice.injEq, Option.some.injEq] at he; obtain ⟨rfl, _, rfl⟩ := he
    refine st_y hf rfl rfl rfl (y_indexAddr st_33 rfl rfl rfl h1_2 (idx_lt2 hx1_4 (rep_slice_len (hm.ow_rep 0 rfl)))) ?_
    clear hf a; intro a hf
    refine st_ef0 hf rfl rfl (e_setElem (x1 := x1_1) (j := 0) (vs := [(.int .i64 (x1_1))]) 0 hf hm rfl hx1_4 rfl Try.sizeOf3 rfl rfl rfl (one_cons rfl one_nil) rfl rfl) ?_
    clear hf a; rintro _ w1_1 a hm hf
    have hx1_5 := List.getElem?_set_self (a := x1_1) (idx_lt hx1_4)
    refine st_end ?_
    refine x_blk_n ?_
    refine x_then_n ?_
    refine wp_region_lit ?_
    refine st_y hf rfl rfl rfl (y_move rfl rfl) ?_
    clear hf a; intro a hf
    refine st_y hf rfl rfl rfl (y_add64 rfl rfl rfl (by omega) (by omega)) ?_
    clear hf a; intro a hf
    refine st_y hf rfl rfl rfl (y_assign rfl rfl) ?_
    clear hf a; intro a hf
    refine st_end ?_
    refine x_then_n ?_
    obtain rfl := Option.some.inj hb0_1
    exact ⟨_, rfl, hf.sub ⟨rfl, rfl, rfl, trivial⟩, hm.pick [0] (by decide) rfl⟩
  ·
    clear hf hm
    rintro i0_1 xs0_1 a w ⟨hf, hm⟩ hi0_1 hi0_2 rfl
    replace hq := sum_l hq
    refine wp_seq ?_
    refine wp_seq ?_
    refine wp_region_lit ?_
    refine st_y hf rfl rfl rfl (y_move rfl rfl) ?_
    clear hf a; intro a hf
    refine st_y hf rfl rfl rfl (y_move rfl rfl) ?_
    clear hf a; intro a hf
    refine st_y hf rfl rfl rfl (y_len_slice st_33.und rfl rfl) ?_
    clear hf a; intro a hf
    refine st_y hf rfl rfl rfl (y_lss rfl rfl rfl) ?_
    clear hf a; intro a hf
    refine st_end ?_
    refine x_then_n ?_
    refine cond_f hf rfl (decide_eq_false (by omega)) ?_
    refine wp_exit ?_
    refine x_then_exit ?_
    refine x_then_exit ?_
    refine x_blk_hit ?_
    refine x_then_n ?_
    refine wp_seq ?_
    refine wp_region_lit ?_
    refine st_y hf rfl rfl rfl (y_move rfl rfl) ?_
    clear hf a; intro a hf
    refine st_y hf rfl rfl rfl (y_assign rfl rfl) ?_
    clear hf a; intro a hf
    refine st_end ?_
    refine x_then_n ?_
    refine wp_ret ?_
    obtain rfl := Option.some.inj hq
    refine ret_tmp hf Try.results12 rfl ?_
    exact ⟨(.slice p0_2 ys0_1.length c0_2), rfl, hm.pick [0] (by decide) rfl⟩

theorem spec_l24Jumps_ok (w0 : World) (x_ : Mins) (r : Bool) (hq : spec_l24Jumps x_ = some r) :
    Con Try.prog 41 [(.agg #[(.int .i64 (x_.op)), (.int .i64 (x_.a_)), (.int .i64 (x_.b)), (.int .i64 (x_.c)), (.int .i64 (x_.n_))])] w0 (fun v w' => v = (.bool (r)) ∧ Below w0.heap.size w0 w') := by
  unfold spec_l24Jumps at hq
  refine con_body (l := [(0, (.agg #[(.int .i64 (x_.op)), (.int .i64 (x_.a_)), (.int .i64 (x_.b)), (.int .i64 (x_.c)), (.int .i64 (x_.n_))]))]) Try.func41 rfl Try.ntmps41 (Args.get ⟨rfl, trivial⟩) rfl ?_
  intro a hf
  have hm := Mem.start w0
  refine wp_seq ?_
  refine wp_region_lit ?_
  refine st_ef hf rfl rfl rfl (e_box hf hm rfl rfl rfl) ?_
  clear hf a; rintro _ w0_1 a ⟨b0_1, rfl, hm⟩ hf
  refine st_y hf rfl rfl rfl (y_assign rfl rfl) ?_
  clear hf a; intro a hf
  refine st_end ?_
  refine x_then_n ?_
  refine wp_seq ?_
  obtain ⟨s0_1, hq0_1, hq⟩ := bnd hq
  refine code_cut (K := fun a w => Fr 11 [(2, (.bool (s0_1)))] a ∧ Mem w0 (hp w0) w []) ?_ ?_
  ·
    refine wp_region_lit ?_
    refine st_y hf rfl rfl rfl (y_fieldAddr fo_50_0 rfl rfl) ?_
    clear hf a; intro a hf
    refine st_y hf rfl rfl rfl (y_load1 Try.isAgg3 rfl rfl (hm.blk_cell 0 rfl rfl)) ?_
    clear hf a; intro a hf
    refine st_y hf rfl rfl rfl (y_eql rfl rfl rfl) ?_
    clear hf a; intro a hf
    refine st_y hf rfl rfl rfl (y_move rfl rfl) ?_
    clear hf a; intro a hf
    rcases bcases (decide (x_.op = 20)) with h1_1 | h1_1
    ·
      replace hq0_1 := (ite_t h1_1).symm.trans hq0_1
      have h1_2 := of_decide_eq_true h1_1
      refine st_no hf rfl rfl (lk_b rfl h1_1) rfl rfl rfl ?_
      clear hf a; intro a hf
      refine st_no hf rfl rfl (lk_b rfl h1_1) rfl rfl rfl ?_
      clear hf a; intro a hf
      refine st_no hf rfl rfl (lk_b rfl h1_1) rfl rfl rfl ?_
      clear hf a; intro a hf
      refine st_y hf rfl rfl rfl (y_pick_t rfl (ev_b rfl h1_1) rfl) ?_
      clear hf a; intro a hf
      refine st_y hf rfl rfl rfl (y_assign rfl rfl) ?_
      clear hf a; intro a hf
      refine st_end ?_
      refine x_then_n ?_
      obtain rfl := Option.some.inj hq0_1
      exact ⟨hf.sub ⟨rfl, trivial⟩, hm.pick [] (by decide) rfl⟩
    ·
      replace hq0_1 := (ite_f h1_1).symm.trans hq0_1
      have h1_3 := of_decide_eq_false h1_1
      refine st_yg hf rfl rfl (lk_b rfl h1_1) rfl rfl (y_fieldAddr fo_50_0 rfl rfl) ?_
      clear hf a; intro a hf
      refine st_yg hf rfl rfl (lk_b rfl h1_1) rfl rfl (y_load1 Try.isAgg3 rfl rfl (hm.blk_cell 0 rfl rfl)) ?_
      clear hf a; intro a hf
      refine st_yg hf rfl rfl (lk_b rfl h1_1) rfl rfl (y_eql rfl rfl rfl) ?_
      clear hf a; intro a hf
      refine st_y hf rfl rfl rfl (y_pick_f rfl (ev_b rfl h1_1) rfl) ?_
      clear hf a; intro a hf
      refine st_y hf rfl rfl rfl (y_assign rfl rfl) ?_
      clear hf a; intro a hf
      refine st_end ?_
      refine x_then_n ?_
      obtain rfl := Option.some.inj hq0_1
      exact ⟨hf.sub ⟨rfl, trivial⟩, hm.pick [] (by decide) rfl⟩
  ·
    clear hf hm
    rintro a w ⟨hf, hm⟩
    refine x_then_n ?_
    refine wp_ret ?_
    obtain rfl := Option.some.inj hq
    refine ret_tmp hf Try.results41 rfl ?_
    exact ⟨rfl, hm.below⟩

theorem spec_l1In_ok (w0 : World) (n_ : Int) (low : Int) (high : Int) (r : Bool) (hq : spec_l1In n_ low high = some r) :
    Con Try.prog 23 [(.int .i64 (n_)), (.int .i64 (low)), (.int .i64 (high))] w0 (fun v w' => v = (.bool (r)) ∧ Below w0.heap.size w0 w') := by
  unfold spec_l1In at hq
  refine con_body (l := [(0, (.int .i64 (n_))), (1, (.int .i64 (low))), (2, (.int .i64 (high)))]) Try.func23 rfl Try.ntmps23 (Args.get ⟨rfl, rfl, rfl, trivial⟩) rfl ?_
  intro a hf
  have hm := Mem.start w0
  refine wp_seq ?_
  refine wp_region_lit ?_
  refine st_y hf rfl rfl rfl (y_assign rfl rfl) ?_
  clear hf a; intro a hf
  refine st_end ?_
  refine x_then_n ?_
  refine wp_seq ?_
  obtain ⟨s0_1, hq0_1, hq⟩ := bnd hq
  refine code_cut (K := fun a w => Fr 15 [(6, (.bool (s0_1)))] a ∧ Mem w0 (hp w0) w []) ?_ ?_
  ·
    refine wp_region_lit ?_
    refine st_y hf rfl rfl rfl (y_move rfl rfl) ?_
    clear hf a; intro a hf
    refine st_y hf rfl rfl rfl (y_move rfl rfl) ?_
    clear hf a; intro a hf
    refine st_y hf rfl rfl rfl (y_geq rfl rfl rfl) ?_
    clear hf a; intro a hf
    refine st_y hf rfl rfl rfl (y_move rfl rfl) ?_
    clear hf a; intro a hf
    rcases bcases (decide (low ≤ n_)) with h1_1 | h1_1
    ·
      replace hq0_1 := (ite_t h1_1).symm.trans hq0_1
      have h1_2 := of_decide_eq_true h1_1
      refine st_yg hf rfl rfl (lk_b rfl h1_1) rfl rfl (y_move rfl rfl) ?_
      clear hf a; intro a hf
      refine st_yg hf rfl rfl (lk_b rfl h1_1) rfl rfl (y_move rfl rfl) ?_
      clear hf a; intro a hf
      refine st_yg hf rfl rfl (lk_b rfl h1_1) rfl rfl (y_leq rfl rfl rfl) ?_
      clear hf a; intro a hf
      refine st_y hf rfl rfl rfl (y_pick_t rfl (ev_b rfl h1_1) rfl) ?_
      clear hf a; intro a hf
      refine st_y hf rfl rfl rfl (y_assign rfl rfl) ?_
      clear hf a; intro a hf
      refine st_end ?_
      refine x_then_n ?_
      obtain rfl := Option.some.inj hq0_1
      exact ⟨hf.sub ⟨rfl, trivial⟩, hm.pick [] (by decide) rfl⟩
    ·
      replace hq0_1 := (ite_f h1_1).symm.trans hq0_1
      have h1_3 := of_decide_eq_false h1_1
      refine st_no hf rfl rfl (lk_b rfl h1_1) rfl rfl rfl ?_
      clear hf a; intro a hf
      refine st_no hf rfl rfl (lk_b rfl h1_1) rfl rfl rfl ?_
      clear hf a; intro a hf
      refine st_no hf rfl rfl (lk_b rfl h1_1) rfl rfl rfl ?_
      clear hf a; intro a hf
      refine st_y hf rfl rfl rfl (y_pick_f rfl (ev_b rfl h1_1) rfl) ?_
      clear hf a; intro a hf
      refine st_y hf rfl rfl rfl (y_assign rfl rfl) ?_
      clear hf a; intro a hf
      refine st_end ?_
      refine x_then_n ?_
      obtain rfl := Option.some.inj hq0_1
      exact ⟨hf.sub ⟨rfl, trivial⟩, hm.pick [] (by decide) rfl⟩
  ·
    clear hf hm
    rintro a w ⟨hf, hm⟩
    refine x_then_n ?_
    refine wp_ret ?_
    obtain rfl := Option.some.inj hq
    refine ret_tmp hf Try.results23 rfl ?_
    exact ⟨rfl, hm.below⟩

theorem spec_l24Fits_ok (w0 : World) (f : Mfn) (v1 : Value) (h1 : GT.rep (hp w0) [v1] f.ins) (r : Bool) (hq : spec_l24Fits f = some r) :
    Con Try.prog 22 [(.agg #[(.int .i64 (f.params)), (.int .i64 (f.slots)), v1])] w0 (fun v w' => v = (.bool (r)) ∧ Below w0.heap.size w0 w') := by
  unfold spec_l24Fits at hq
  refine con_body (l := [(0, (.agg #[(.int .i64 (f.params)), (.int .i64 (f.slots)), v1]))]) Try.func22 rfl Try.ntmps22 (Args.get ⟨rfl, trivial⟩) rfl ?_
  intro a hf
  have hm := Mem.start w0
  refine wp_seq ?_
  refine wp_region_lit ?_
  refine st_ef hf rfl rfl rfl (e_box hf hm rfl rfl rfl) ?_
  clear hf a; rintro _ w0_1 a ⟨b0_1, rfl, hm⟩ hf
  refine st_y hf rfl rfl rfl (y_assign rfl rfl) ?_
  clear hf a; intro a hf
  refine st_end ?_
  refine x_then_n ?_
  refine wp_seq ?_
  refine wp_seq ?_
  refine wp_region_lit ?_
  refine st_y hf rfl rfl rfl (y_assign rfl rfl) ?_
  clear hf a; intro a hf
  refine st_end ?_
  refine x_then_n ?_
  refine wp_block ?_
  obtain ⟨r0_1, hl0_1, hq⟩ := bnd hq
  refine wp_forN _ (fun i1_1 xs1_1 a w => Fr 51 [(1, (.pointer (some ⟨b0_1, 0, none⟩))), (3, (.int .i64 (i1_1)))] a ∧ Mem w0 (hp w0) w [blk b0_1 [(.int .i64 (f.params)), (.int .i64 (f.slots)), v1] 29]) (0) ((f.ins.length : Int)) hl0_1 ?_ ?_ ?_
  ·
    exact ⟨hf.sub ⟨rfl, rfl, trivial⟩, hm.pick [0] (by decide) rfl⟩
  ·
    clear hf hm
    rintro i1_1 xs1_1 a w ⟨hf, hm⟩ hi1_1 hi1_2 q0_1 hb0_1 ho0_1
    refine wp_seq ?_
    refine wp_seq ?_
    refine wp_region_lit ?_
    refine st_y hf rfl rfl rfl (y_move rfl rfl) ?_
    clear hf a; intro a hf
    refine st_y hf rfl rfl rfl (y_fieldAddr fo_29_2 rfl rfl) ?_
    clear hf a; intro a hf
    refine st_y hf rfl rfl rfl (y_load1 Try.isAgg27 rfl rfl (hm.blk_cell 0 rfl rfl)) ?_
    clear hf a; intro a hf
    obtain ⟨p1_1, c1_1, he, hl1_1⟩ := ro_slice (hm.now h1)
    subst he
    refine st_y hf rfl rfl rfl (y_len_slice st_27.und rfl rfl) ?_
    clear hf a; intro a hf
    refine st_y hf rfl rfl rfl (y_lss rfl rfl rfl) ?_
    clear hf a; intro a hf
    refine st_end ?_
    refine x_then_n ?_
    refine cond_t hf rfl (decide_eq_true (by omega)) ?_
    refine wp_skip ?_
    refine x_then_n ?_
    refine wp_seq ?_
    refine wp_block ?_
    refine wp_seq ?_
    obtain ⟨s1_1, hq1_1, hb0_1⟩ := bnd hb0_1
    refine code_cut (K := fun a w => Fr 51 [(1, (.pointer (some ⟨b0_1, 0, none⟩))), (3, (.int .i64 (i1_1))), (31, (.bool (s1_1)))] a ∧ Mem w0 (hp w0) w [blk b0_1 [(.int .i64 (f.params)), (.int .i64 (f.slots)), (.slice p1_1 f.ins.length c1_1)] 29]) ?_ ?_
    ·
      refine wp_draw [(true, 0), (true, 1), (false, 2), (false, 3), (false, 4), (false, 5), (false, 6), (true, 7), (true, 8), (true, 9), (true, 10), (true, 11), (true, 12), (false, 13), (false, 14), (false, 15), (false, 16), (false, 17), (false, 18), (false, 19)] [2, 7, 8, 9, 13, 14, 15, 16] (fun w => Mem w0 (hp w0) w [blk b0_1 [(.int .i64 (f.params)), (.int .i64 (f.slots)), (.slice p1_1 f.ins.length c1_1)] 29]) (by kernel_rfl) (by kernel_rfl) (fun _ _ _ h => h.2) ?_
      replace hm := hm.drew
      have hS : Mem w0 (hp w0) _ [blk b0_1 [(.int .i64 (f.params)), (.int .i64 (f.slots)), (.slice p1_1 f.ins.length c1_1)] 29] := hm.pick [0] (by decide) rfl
      refine sd_y hf rfl rfl rfl rfl hS (fun w hm => y_fieldAddr fo_29_2 rfl rfl) ?_
      clear hf a; intro a hf
      refine sd_y hf rfl rfl rfl rfl hS (fun w hm => y_load1 Try.isAgg27 rfl rfl (hm.blk_cell 0 rfl rfl)) ?_
      clear hf a; intro a hf
      refine sd_ef hf rfl rfl rfl rfl (ef_y hf (y_move rfl rfl)) ?_
      clear hf a; rintro _ _ a ⟨rfl, rfl⟩ hf
      refine ⟨fun _ => hS, ?_⟩
      obtain ⟨x2_1, hx2_1, hq1_1⟩ := bnd hq1_1
      obtain ⟨h2_1, hx2_2⟩ := getI_some.1 hx2_1
      obtain ⟨b2_1, o2_1, c2_1, he⟩ := idx_form h1 hx2_2
      simp only [Value.slice.injEq, Option.some.injEq] at he; obtain ⟨rfl, _, rfl⟩ := he
      refine sd_ef hf rfl rfl rfl rfl (ef_y hf (y_indexAddr st_27 rfl rfl rfl h2_1 (idx_lt hx2_2))) ?_
      clear hf a; rintro _ _ a ⟨rfl, rfl⟩ hf
      refine ⟨fun h => absurd h (by decide), ?_⟩
      refine sd_ef hf rfl rfl rfl rfl (ef_y hf (y_loadN (cs := [(.int .i64 (x2_1.op)), (.int .i64 (x2_1.a_)), (.int .i64 (x2_1.b)), (.int .i64 (x2_1.c)), (.int .i64 (x2_1.n_))]) Try.isAgg50 Try.sizeOf50 rfl rfl (flat_cells (cs := [(.int .i64 (x2_1.op)), (.int .i64 (x2_1.a_)), (.int .i64 (x2_1.b)), (.int .i64 (x2_1.c)), (.int .i64 (x2_1.n_))]) (hm.now h1) hx2_2 rfl))) ?_
      clear hf a; rintro _ _ a ⟨rfl, rfl⟩ hf
      refine ⟨fun h => absurd h (by decide), ?_⟩
      obtain ⟨r2_1, hx2_3, hq1_1⟩ := bnd hq1_1
      refine sd_ef hf rfl rfl rfl rfl (e_call hf rfl Try.call41 rfl (spec_l24Jumps_ok _ x2_1 _ hx2_3)) ?_
      clear hf a; rintro _ w2_1 a ⟨rfl, hB⟩ hf
      replace hm := hm.below' hB; clear hB
      clear hS
      have hS : Mem w0 (hp w0) _ [blk b0_1 [(.int .i64 (f.params)), (.int .i64 (f.slots)), (.slice (some ⟨b2_1, o2_1, none⟩) f.ins.length c1_1)] 29] := hm.pick [0] (by decide) rfl
      refine ⟨fun h => absurd h (by decide), ?_⟩
      refine sd_ef hf rfl rfl rfl rfl (ef_y hf (y_move rfl rfl)) ?_
      clear hf a; rintro _ _ a ⟨rfl, rfl⟩ hf
      refine ⟨fun h => absurd h (by decide), ?_⟩
      rcases bcases (r2_1) with h2_2 | h2_2
      ·
        replace hq1_1 := (ite_t h2_2).symm.trans hq1_1
        refine sd_yg hf rfl rfl rfl (lk_b rfl h2_2) rfl rfl hS (fun w hm => y_fieldAddr fo_29_2 rfl rfl) ?_
        clear hf a; intro a hf
        refine sd_yg hf rfl rfl rfl (lk_b rfl h2_2) rfl rfl hS (fun w hm => y_load1 Try.isAgg27 rfl rfl (hm.blk_cell 0 rfl rfl)) ?_
        clear hf a; intro a hf
        refine sd_yg hf rfl rfl rfl (lk_b rfl h2_2) rfl rfl hS (fun w hm => y_move rfl rfl) ?_
        clear hf a; intro a hf
        refine sd_yg hf rfl rfl rfl (lk_b rfl h2_2) rfl rfl hS (fun w hm => y_indexAddr st_27 rfl rfl rfl h2_1 (idx_lt hx2_2)) ?_
        clear hf a; intro a hf
        refine sd_yg hf rfl rfl rfl (lk_b rfl h2_2) rfl rfl hS (fun w hm => y_fieldAddr fo_50_4 rfl rfl) ?_
        clear hf a; intro a hf
        refine sd_yg hf rfl rfl rfl (lk_b rfl h2_2) rfl rfl hS (fun w hm => y_load1 Try.isAgg3 rfl rfl ((flat_cells (cs := [(.int .i64 (x2_1.op)), (.int .i64 (x2_1.a_)), (.int .i64 (x2_1.b)), (.int .i64 (x2_1.c)), (.int .i64 (x2_1.n_))]) (hm.now h1) hx2_2 rfl).cell (j := 4) rfl)) ?_
        clear hf a; intro a hf
        refine sd_efg hf rfl rfl rfl (lk_b rfl h2_2) rfl rfl (ef_y hf (y_fieldAddr fo_29_2 rfl rfl)) ?_
        clear hf a; rintro _ _ a ⟨rfl, rfl⟩ hf
        refine ⟨fun _ => hS, ?_⟩
        refine sd_efg hf rfl rfl rfl (lk_b rfl h2_2) rfl rfl (ef_y hf (y_load1 Try.isAgg27 rfl rfl (hm.blk_cell 0 rfl rfl))) ?_
        clear hf a; rintro _ _ a ⟨rfl, rfl⟩ hf
        refine ⟨fun _ => hS, ?_⟩
        refine sd_efg hf rfl rfl rfl (lk_b rfl h2_2) rfl rfl (ef_y hf (y_len_slice st_27.und rfl rfl)) ?_
        clear hf a; rintro _ _ a ⟨rfl, rfl⟩ hf
        refine ⟨fun _ => hS, ?_⟩
        refine sd_efg hf rfl rfl rfl (lk_b rfl h2_2) rfl rfl (ef_y hf (y_sub64 rfl rfl rfl (by omega) (by omega))) ?_
        clear hf a; rintro _ _ a ⟨rfl, rfl⟩ hf
        refine ⟨fun _ => hS, ?_⟩
        obtain ⟨r2_2, hx2_4, hq1_1⟩ := bnd hq1_1
        refine sd_efg hf rfl rfl rfl (lk_b rfl h2_2) rfl rfl (e_call hf rfl Try.call23 rfl (spec_l1In_ok _ x2_1.n_ 0 (((f.ins.length : Int)) - 1) _ hx2_4)) ?_
        clear hf a; rintro _ w2_2 a ⟨rfl, hB⟩ hf
        replace hm := hm.below' hB; clear hB
        refine ⟨fun h => absurd h (by decide), ?_⟩
        refine sd_efg hf rfl rfl rfl (lk_b rfl h2_2) rfl rfl (ef_y hf (y_not rfl rfl)) ?_
        clear hf a; rintro _ _ a ⟨rfl, rfl⟩ hf
        refine ⟨fun h => absurd h (by decide), ?_⟩
        refine sd_ef hf rfl rfl rfl rfl (ef_y hf (y_pick_t rfl (ev_b rfl h2_2) rfl)) ?_
        clear hf a; rintro _ _ a ⟨rfl, rfl⟩ hf
        refine ⟨fun h => absurd h (by decide), ?_⟩
        clear hS; refine sd_end ?_
        refine x_then_n ?_
        obtain rfl := Option.some.inj hq1_1
        exact ⟨hf.sub ⟨rfl, rfl, rfl, trivial⟩, hm.pick [0] (by decide) rfl⟩
      ·
        replace hq1_1 := (ite_f h2_2).symm.trans hq1_1
        refine sd_no hf rfl rfl rfl (lk_b rfl h2_2) rfl rfl rfl hS ?_
        clear hf a; intro a hf
        refine sd_no hf rfl rfl rfl (lk_b rfl h2_2) rfl rfl rfl hS ?_
        clear hf a; intro a hf
        refine sd_no hf rfl rfl rfl (lk_b rfl h2_2) rfl rfl rfl hS ?_
        clear hf a; intro a hf
        refine sd_no hf rfl rfl rfl (lk_b rfl h2_2) rfl rfl rfl hS ?_
        clear hf a; intro a hf
        refine sd_no hf rfl rfl rfl (lk_b rfl h2_2) rfl rfl rfl hS ?_
        clear hf a; intro a hf
        refine sd_no hf rfl rfl rfl (lk_b rfl h2_2) rfl rfl rfl hS ?_
        clear hf a; intro a hf
        refine sd_no' hf rfl rfl rfl (lk_b rfl h2_2) rfl rfl rfl ?_
        clear hf a; intro a hf
        refine ⟨fun _ => hS, ?_⟩
        refine sd_no' hf rfl rfl rfl (lk_b rfl h2_2) rfl rfl rfl ?_
        clear hf a; intro a hf
        refine ⟨fun _ => hS, ?_⟩
        refine sd_no' hf rfl rfl rfl (lk_b rfl h2_2) rfl rfl rfl ?_
        clear hf a; intro a hf
        refine ⟨fun _ => hS, ?_⟩
        refine sd_no' hf rfl rfl rfl (lk_b rfl h2_2) rfl rfl rfl ?_
        clear hf a; intro a hf
        refine ⟨fun _ => hS, ?_⟩
        refine sd_no' hf rfl rfl rfl (lk_b rfl h2_2) rfl rfl rfl ?_
        clear hf a; intro a hf
        refine ⟨fun h => absurd h (by decide), ?_⟩
        refine sd_no' hf rfl rfl rfl (lk_b rfl h2_2) rfl rfl rfl ?_
        clear hf a; intro a hf
        refine ⟨fun h => absurd h (by decide), ?_⟩
        refine sd_ef hf rfl rfl rfl rfl (ef_y hf (y_pick_f rfl (ev_b rfl h2_2) rfl)) ?_
        clear hf a; rintro _ _ a ⟨rfl, rfl⟩ hf
        refine ⟨fun h => absurd h (by decide), ?_⟩
        clear hS; refine sd_end ?_
        refine x_then_n ?_
        obtain rfl := Option.some.inj hq1_1
        exact ⟨hf.sub ⟨rfl, rfl, rfl, trivial⟩, hm.pick [0] (by decide) rfl⟩
    ·
      clear hf hm
      rintro a w ⟨hf, hm⟩
      refine x_then_n ?_
      rcases bcases (s1_1) with h1_1 | h1_1
      ·
        replace hb0_1 := (ite_t h1_1).symm.trans hb0_1
        refine cond_t hf rfl h1_1 ?_
        refine wp_seq ?_
        refine wp_region_lit ?_
        refine st_y hf rfl rfl rfl (y_assign rfl rfl) ?_
        clear hf a; intro a hf
        refine st_end ?_
        refine x_then_n ?_
        refine wp_ret ?_
        refine x_blk_ret ?_
        refine x_then_ret ?_
        refine x_then_ret ?_
        refine x_blk_ret ?_
        refine x_then_ret ?_
        obtain rfl := Option.some.inj hb0_1
        obtain rfl := ho0_1 _ rfl
        replace hq := sum_r hq
        obtain rfl := Option.some.inj hq
        refine ret_tmp hf Try.results22 rfl ?_
        exact ⟨rfl, hm.below⟩
      ·
        replace hb0_1 := (ite_f h1_1).symm.trans hb0_1
        refine cond_f hf rfl h1_1 ?_
        refine wp_skip ?_
        refine x_blk_n ?_
        refine x_then_n ?_
        refine wp_region_lit ?_
        refine st_y hf rfl rfl rfl (y_move rfl rfl) ?_
        clear hf a; intro a hf
        refine st_y hf rfl rfl rfl (y_add64 rfl rfl rfl (by omega) (by omega)) ?_
        clear hf a; intro a hf
        refine st_y hf rfl rfl rfl (y_assign rfl rfl) ?_
        clear hf a; intro a hf
        refine st_end ?_
        refine x_then_n ?_
        obtain rfl := Option.some.inj hb0_1
        exact ⟨_, rfl, hf.sub ⟨rfl, rfl, trivial⟩, hm.pick [0] (by decide) rfl⟩
  ·
    clear hf hm
    rintro i0_1 xs0_1 a w ⟨hf, hm⟩ hi0_1 hi0_2 rfl
    replace hq := sum_l hq
    refine wp_seq ?_
    refine wp_seq ?_
    refine wp_region_lit ?_
    refine st_y hf rfl rfl rfl (y_move rfl rfl) ?_
    clear hf a; intro a hf
    refine st_y hf rfl rfl rfl (y_fieldAddr fo_29_2 rfl rfl) ?_
    clear hf a; intro a hf
    refine st_y hf rfl rfl rfl (y_load1 Try.isAgg27 rfl rfl (hm.blk_cell 0 rfl rfl)) ?_
    clear hf a; intro a hf
    obtain ⟨p0_1, c0_1, he, hl0_2⟩ := ro_slice (hm.now h1)
    subst he
    refine st_y hf rfl rfl rfl (y_len_slice st_27.und rfl rfl) ?_
    clear hf a; intro a hf
    refine st_y hf rfl rfl rfl (y_lss rfl rfl rfl) ?_
    clear hf a; intro a hf
    refine st_end ?_
    refine x_then_n ?_
    refine cond_f hf rfl (decide_eq_false (by omega)) ?_
    refine wp_exit ?_
    refine x_then_exit ?_
    refine x_then_exit ?_
    refine x_blk_hit ?_
    refine x_then_n ?_
    refine wp_seq ?_
    refine wp_seq ?_
    refine wp_region_lit ?_
    refine st_y hf rfl rfl rfl (y_fieldAddr fo_29_2 rfl rfl) ?_
    clear hf a; intro a hf
    refine st_y hf rfl rfl rfl (y_load1 Try.isAgg27 rfl rfl (hm.blk_cell 0 rfl rfl)) ?_
    clear hf a; intro a hf
    refine st_y hf rfl rfl rfl (y_len_slice st_27.und rfl rfl) ?_
    clear hf a; intro a hf
    refine st_y hf rfl rfl rfl (y_eql rfl rfl rfl) ?_
    clear hf a; intro a hf
    refine st_end ?_
    refine x_then_n ?_
    rcases bcases (decide (((f.ins.length : Int)) = 0)) with h0_1 | h0_1
    ·
      replace hq := (ite_t h0_1).symm.trans hq
      have h0_2 := of_decide_eq_true h0_1
      refine cond_t hf rfl h0_1 ?_
      refine wp_seq ?_
      refine wp_region_lit ?_
      refine st_y hf rfl rfl rfl (y_assign rfl rfl) ?_
      clear hf a; intro a hf
      refine st_end ?_
      refine x_then_n ?_
      refine wp_ret ?_
      refine x_then_ret ?_
      obtain rfl := Option.some.inj hq
      refine ret_tmp hf Try.results22 rfl ?_
      exact ⟨rfl, hm.below⟩
    ·
      replace hq := (ite_f h0_1).symm.trans hq
      have h0_3 := of_decide_eq_false h0_1
      refine cond_f hf rfl h0_1 ?_
      refine wp_skip ?_
      refine x_then_n ?_
      refine wp_seq ?_
      refine wp_region_lit ?_
      refine st_y hf rfl rfl rfl (y_fieldAddr fo_29_2 rfl rfl) ?_
      clear hf a; intro a hf
      refine st_y hf rfl rfl rfl (y_load1 Try.isAgg27 rfl rfl (hm.blk_cell 0 rfl rfl)) ?_
      clear hf a; intro a hf
      refine st_y hf rfl rfl rfl (y_fieldAddr fo_29_2 rfl rfl) ?_
      clear hf a; intro a hf
      refine st_y hf rfl rfl rfl (y_load1 Try.isAgg27 rfl rfl (hm.blk_cell 0 rfl rfl)) ?_
      clear hf a; intro a hf
      refine st_y hf rfl rfl rfl (y_len_slice st_27.und rfl rfl) ?_
      clear hf a; intro a hf
      refine st_y hf rfl rfl rfl (y_sub64 rfl rfl rfl (by omega) (by omega)) ?_
      clear hf a; intro a hf
      obtain ⟨x0_1, hx0_1, hq⟩ := bnd hq
      obtain ⟨h0_4, hx0_2⟩ := getI_some.1 hx0_1
      obtain ⟨b0_2, o0_1, c0_2, he⟩ := idx_form h1 hx0_2
      simp only [Value.slice.injEq, Option.some.injEq] at he; obtain ⟨rfl, _, rfl⟩ := he
      refine st_y hf rfl rfl rfl (y_indexAddr st_27 rfl rfl rfl h0_4 (idx_lt hx0_2)) ?_
      clear hf a; intro a hf
      refine st_y hf rfl rfl rfl (y_fieldAddr fo_50_0 rfl rfl) ?_
      clear hf a; intro a hf
      refine st_y hf rfl rfl rfl (y_load1 Try.isAgg3 rfl rfl ((flat_cells (cs := [(.int .i64 (x0_1.op)), (.int .i64 (x0_1.a_)), (.int .i64 (x0_1.b)), (.int .i64 (x0_1.c)), (.int .i64 (x0_1.n_))]) (hm.now h1) hx0_2 rfl).cell (j := 0) rfl)) ?_
      clear hf a; intro a hf
      refine st_y hf rfl rfl rfl (y_assign rfl rfl) ?_
      clear hf a; intro a hf
      refine st_end ?_
      refine x_then_n ?_
      refine wp_seq ?_
      obtain ⟨s0_1, hq0_1, hq⟩ := bnd hq
      refine code_cut (K := fun a w => Fr 51 [(2, (.bool (s0_1)))] a ∧ Mem w0 (hp w0) w []) ?_ ?_
      ·
        refine wp_region_lit ?_
        refine st_y hf rfl rfl rfl (y_move rfl rfl) ?_
        clear hf a; intro a hf
        refine st_y hf rfl rfl rfl (y_eql rfl rfl rfl) ?_
        clear hf a; intro a hf
        refine st_y hf rfl rfl rfl (y_move rfl rfl) ?_
        clear hf a; intro a hf
        rcases bcases (decide (x0_1.op = 20)) with h1_2 | h1_2
        ·
          replace hq0_1 := (ite_t h1_2).symm.trans hq0_1
          have h1_3 := of_decide_eq_true h1_2
          refine st_no hf rfl rfl (lk_b rfl h1_2) rfl rfl rfl ?_
          clear hf a; intro a hf
          refine st_no hf rfl rfl (lk_b rfl h1_2) rfl rfl rfl ?_
          clear hf a; intro a hf
          refine st_y hf rfl rfl rfl (y_pick_t rfl (ev_b rfl h1_2) rfl) ?_
          clear hf a; intro a hf
          refine st_y hf rfl rfl rfl (y_assign rfl rfl) ?_
          clear hf a; intro a hf
          refine st_end ?_
          refine x_then_n ?_
          obtain rfl := Option.some.inj hq0_1
          exact ⟨hf.sub ⟨rfl, trivial⟩, hm.pick [] (by decide) rfl⟩
        ·
          replace hq0_1 := (ite_f h1_2).symm.trans hq0_1
          have h1_4 := of_decide_eq_false h1_2
          refine st_yg hf rfl rfl (lk_b rfl h1_2) rfl rfl (y_move rfl rfl) ?_
          clear hf a; intro a hf
          refine st_yg hf rfl rfl (lk_b rfl h1_2) rfl rfl (y_eql rfl rfl rfl) ?_
          clear hf a; intro a hf
          refine st_y hf rfl rfl rfl (y_pick_f rfl (ev_b rfl h1_2) rfl) ?_
          clear hf a; intro a hf
          refine st_y hf rfl rfl rfl (y_assign rfl rfl) ?_
          clear hf a; intro a hf
          refine st_end ?_
          refine x_then_n ?_
          obtain rfl := Option.some.inj hq0_1
          exact ⟨hf.sub ⟨rfl, trivial⟩, hm.pick [] (by decide) rfl⟩
      ·
        clear hf hm
        rintro a w ⟨hf, hm⟩
        refine x_then_n ?_
        refine wp_ret ?_
        obtain rfl := Option.some.inj hq
        refine ret_tmp hf Try.results22 rfl ?_
        exact ⟨rfl, hm.below⟩

theorem spec_l24Copy_ok (w0 : World) (f : Mfn) (v1 : Value) (h1 : GT.rep (hp w0) [v1] f.ins) (r : Mfn) (hq : spec_l24Copy f = some r) :
    Con Try.prog 30 [(.agg #[(.int .i64 (f.params)), (.int .i64 (f.slots)), v1])] w0 (fun v w' => ∃ (x1 : Value), v = (.agg #[(.int .i64 (r.params)), (.int .i64 (r.slots)), x1]) ∧ Mem w0 (hp w0) w' [ow [x1] r.ins]) := by
  unfold spec_l24Copy at hq
  refine con_body (l := [(0, (.agg #[(.int .i64 (f.params)), (.int .i64 (f.slots)), v1]))]) Try.func30 rfl Try.ntmps30 (Args.get ⟨rfl, trivial⟩) rfl ?_
  intro a hf
  have hm := Mem.start w0
  refine wp_seq ?_
  refine wp_region_lit ?_
  refine st_ef hf rfl rfl rfl (e_box hf hm rfl rfl rfl) ?_
  clear hf a; rintro _ w0_1 a ⟨b0_1, rfl, hm⟩ hf
  refine st_ef hf rfl rfl rfl (e_alloc hm Try.zeroValue29 rfl rfl) ?_
  clear hf a; rintro _ w0_2 a ⟨b0_2, rfl, hm⟩ hf
  refine st_end ?_
  refine x_then_n ?_
  refine wp_seq ?_
  refine wp_draw [(true, 0), (true, 1), (true, 2), (true, 3), (true, 5), (true, 6), (false, 4), (false, 7), (false, 8), (false, 9)] [0, 1, 2, 3, 4, 5, 6, 7] (fun w => Mem w0 (hp w0) w [blk b0_2 [(.int .i64 (0)), (.int .i64 (0)), (.slice none 0 0)] 29, blk b0_1 [(.int .i64 (f.params)), (.int .i64 (f.slots)), v1] 29]) (by kernel_rfl) (by kernel_rfl) (fun _ _ _ h => h.2) ?_
  replace hm := hm.drew
  have hS : Mem w0 (hp w0) _ [blk b0_2 [(.int .i64 (0)), (.int .i64 (0)), (.slice none 0 0)] 29, blk b0_1 [(.int .i64 (f.params)), (.int .i64 (f.slots)), v1] 29] := hm.pick [0, 1] (by decide) rfl
  refine sd_y hf rfl rfl rfl rfl hS (fun w hm => y_fieldAddr fo_29_0 rfl rfl) ?_
  clear hf a; intro a hf
  refine sd_y hf rfl rfl rfl rfl hS (fun w hm => y_load1 Try.isAgg3 rfl rfl (hm.blk_cell 1 rfl rfl)) ?_
  clear hf a; intro a hf
  refine sd_y hf rfl rfl rfl rfl hS (fun w hm => y_fieldAddr fo_29_1 rfl rfl) ?_
  clear hf a; intro a hf
  refine sd_y hf rfl rfl rfl rfl hS (fun w hm => y_load1 Try.isAgg3 rfl rfl (hm.blk_cell 1 rfl rfl)) ?_
  clear hf a; intro a hf
  refine sd_y hf rfl rfl rfl rfl hS (fun w hm => y_fieldAddr fo_29_2 rfl rfl) ?_
  clear hf a; intro a hf
  refine sd_y hf rfl rfl rfl rfl hS (fun w hm => y_load1 Try.isAgg27 rfl rfl (hm.blk_cell 1 rfl rfl)) ?_
  clear hf a; intro a hf
  refine sd_ef hf rfl rfl rfl rfl (e_build0 (α := Mins) et_27 hm rfl) ?_
  clear hf a; rintro v0_1 w0_3 a hm hf
  clear hS
  have hS : Mem w0 (hp w0) _ [blk b0_2 [(.int .i64 (0)), (.int .i64 (0)), (.slice none 0 0)] 29, blk b0_1 [(.int .i64 (f.params)), (.int .i64 (f.slots)), v1] 29] := hm.pick [1, 2] (by decide) rfl
  refine ⟨fun _ => hS, ?_⟩
  obtain ⟨ys0_1, hx0_1, hq⟩ := bnd hq
  obtain ⟨h0_1, h0_1e⟩ := appM_some.1 hx0_1
  refine sd_ef hf rfl rfl rfl rfl (e_append 0 et_27 hf hm rfl (hm.now h1) rfl rfl rfl h0_1) ?_
  clear hf a; rintro v0_2 w0_4 a hm hf
  rw [h0_1e] at hm
  clear hS
  have hS : Mem w0 (hp w0) _ [blk b0_2 [(.int .i64 (0)), (.int .i64 (0)), (.slice none 0 0)] 29, blk b0_1 [(.int .i64 (f.params)), (.int .i64 (f.slots)), v1] 29] := hm.pick [1, 2] (by decide) rfl
  refine ⟨fun _ => hS, ?_⟩
  obtain ⟨p0_1, c0_1, he, hl0_1⟩ := ro_slice (hm.ow_rep 0 rfl)
  subst he
  refine sd_ef hf rfl rfl rfl rfl (ef_y hf (y_build (vs := [(0, (.int .i64 (f.params))), (1, (.int .i64 (f.slots))), (2, (.slice p0_1 ys0_1.length c0_1))]) (cs := #[(.int .i64 (f.params)), (.int .i64 (f.slots)), (.slice p0_1 ys0_1.length c0_1)]) rfl rfl (by kernel_rfl))) ?_
  clear hf a; rintro _ _ a ⟨rfl, rfl⟩ hf
  refine ⟨fun h => absurd h (by decide), ?_⟩
  refine sd_ef0 hf rfl rfl rfl (e_storeN 1 hf hm rfl Try.sizeOf29 rfl rfl rfl (one_cons rfl (one_cons rfl (one_cons rfl one_nil))) rfl rfl) ?_
  clear hf a; rintro _ w0_5 a hm hf
  refine ⟨fun h => absurd h (by decide), ?_⟩
  clear hS; refine sd_end ?_
  refine x_then_n ?_
  refine wp_ret ?_
  obtain rfl := Option.some.inj hq
  refine ret_cell 1 hf Try.results30 hm rfl rfl Try.isAgg29 Try.sizeOf29 ?_
  exact ⟨(.slice p0_1 ys0_1.length c0_1), rfl, hm.pick [0] (by decide) rfl⟩

theorem spec_l24Drop_ok (w0 : World) (f : Mfn) (v1 : Value) (h1 : GT.rep (hp w0) [v1] f.ins) (gone : List Bool) (v2 : Value) (h2 : GT.rep (hp w0) [v2] gone) (r : Mfn) (hq : spec_l24Drop f gone = some r) :
    Con Try.prog 31 [(.agg #[(.int .i64 (f.params)), (.int .i64 (f.slots)), v1]), v2] w0 (fun v w' => ∃ (x1 : Value), v = (.agg #[(.int .i64 (r.params)), (.int .i64 (r.slots)), x1]) ∧ Mem w0 (hp w0) w' [ow [x1] r.ins]) := by
  unfold spec_l24Drop at hq
  refine con_body (l := [(0, (.agg #[(.int .i64 (f.params)), (.int .i64 (f.slots)), v1])), (1, v2)]) Try.func31 rfl Try.ntmps31 (Args.get ⟨rfl, rfl, trivial⟩) rfl ?_
  intro a hf
  have hm := Mem.start w0
  refine wp_seq ?_
  refine wp_region_lit ?_
  refine st_ef hf rfl rfl rfl (e_box hf hm rfl rfl rfl) ?_
  clear hf a; rintro _ w0_1 a ⟨b0_1, rfl, hm⟩ hf
  refine st_ef hf rfl rfl rfl (e_alloc hm Try.zeroValue29 rfl rfl) ?_
  clear hf a; rintro _ w0_2 a ⟨b0_2, rfl, hm⟩ hf
  refine st_end ?_
  refine x_then_n ?_
  refine wp_seq ?_
  refine wp_region_lit ?_
  refine st_y hf rfl rfl rfl (y_fieldAddr fo_29_2 rfl rfl) ?_
  clear hf a; intro a hf
  refine st_y hf rfl rfl rfl (y_load1 Try.isAgg27 rfl rfl (hm.blk_cell 1 rfl rfl)) ?_
  clear hf a; intro a hf
  obtain ⟨p0_1, c0_1, he, hl0_1⟩ := ro_slice (hm.now h1)
  subst he
  refine st_y hf rfl rfl rfl (y_len_slice st_27.und rfl rfl) ?_
  clear hf a; intro a hf
  obtain ⟨ys0_1, hx0_1, hq⟩ := bnd hq
  obtain ⟨⟨h0_11, h0_12⟩, h0_1e⟩ := makeM_some.1 hx0_1
  refine st_ef hf rfl rfl rfl (e_make (x0 := (0 : Int)) et_33 (fun _ => Flat.own_iff.2 rfl) hf hm rfl rfl rfl h0_11 (Int.le_refl _) h0_12) ?_
  clear hf a; rintro v0_1 w0_3 a hm hf
  rw [h0_1e] at hm
  have h0_1l : (ys0_1.length : Int) = (f.ins.length : Int) := by rw [← h0_1e]; simp only [List.length_replicate]; omega
  refine st_y hf rfl rfl rfl (y_assign rfl rfl) ?_
  clear hf a; intro a hf
  refine st_end ?_
  refine x_then_n ?_
  refine wp_seq ?_
  refine wp_region_lit ?_
  refine st_y hf rfl rfl rfl (y_fieldAddr fo_29_0 rfl rfl) ?_
  clear hf a; intro a hf
  refine st_y hf rfl rfl rfl (y_load1 Try.isAgg3 rfl rfl (hm.blk_cell 2 rfl rfl)) ?_
  clear hf a; intro a hf
  refine st_y hf rfl rfl rfl (y_fieldAddr fo_29_1 rfl rfl) ?_
  clear hf a; intro a hf
  refine st_y hf rfl rfl rfl (y_load1 Try.isAgg3 rfl rfl (hm.blk_cell 2 rfl rfl)) ?_
  clear hf a; intro a hf
  refine st_ef hf rfl rfl rfl (e_build0 (α := Mins) et_27 hm rfl) ?_
  clear hf a; rintro v0_2 w0_4 a hm hf
  obtain ⟨p0_2, c0_2, he, hl0_2⟩ := ro_slice (hm.ow_rep 0 rfl)
  subst he
  refine st_y hf rfl rfl rfl (y_build (vs := [(0, (.int .i64 (f.params))), (1, (.int .i64 (f.slots))), (2, (.slice p0_2 ([] : List Mins).length c0_2))]) (cs := #[(.int .i64 (f.params)), (.int .i64 (f.slots)), (.slice p0_2 ([] : List Mins).length c0_2)]) rfl rfl (by kernel_rfl)) ?_
  clear hf a; intro a hf
  refine st_ef hf rfl rfl rfl (e_alloc hm Try.zeroValue29 rfl rfl) ?_
  clear hf a; rintro _ w0_5 a ⟨b0_3, rfl, hm⟩ hf
  refine st_ef0 hf rfl rfl (e_storeN 0 hf hm rfl Try.sizeOf29 rfl rfl rfl (one_cons rfl (one_cons rfl (one_cons rfl one_nil))) rfl rfl) ?_
  clear hf a; rintro _ w0_6 a hm hf
  refine st_end ?_
  refine x_then_n ?_
  refine wp_seq ?_
  refine wp_seq ?_
  refine wp_region_lit ?_
  refine st_y hf rfl rfl rfl (y_assign rfl rfl) ?_
  clear hf a; intro a hf
  refine st_end ?_
  refine x_then_n ?_
  obtain ⟨p0_3, c0_3, he, hl0_3⟩ := ro_slice (hm.ow_rep 2 rfl)
  subst he
  refine wp_block ?_
  obtain ⟨r0_1, hl0_4, hq⟩ := bnd hq
  refine wp_forN _ (fun i1_1 xs1_1 a w => ∃ (v1_1 : Value), Fr 75 [(1, v2), (2, (.pointer (some ⟨b0_1, 0, none⟩))), (4, (.pointer (some ⟨b0_2, 0, none⟩))), (5, (.slice p0_3 ys0_1.length c0_3)), (6, (.pointer (some ⟨b0_3, 0, none⟩))), (7, (.int .i64 (i1_1)))] a ∧ Mem w0 (hp w0) w [blk b0_1 [(.int .i64 (f.params)), (.int .i64 (f.slots)), (.slice p0_1 f.ins.length c0_1)] 29, blk b0_2 [(.int .i64 (0)), (.int .i64 (0)), (.slice none 0 0)] 29, ow [(.slice p0_3 ys0_1.length c0_3)] xs1_1.1, blk b0_3 [(.int .i64 (f.params)), (.int .i64 (f.slots)), v1_1] 29, ow [v1_1] xs1_1.2]) (0) ((f.ins.length : Int)) hl0_4 ?_ ?_ ?_
  ·
    exact ⟨(.slice p0_2 ([] : List Mins).length c0_2), hf.sub ⟨rfl, rfl, rfl, rfl, rfl, rfl, trivial⟩, hm.pick [4, 3, 2, 0, 1] (by decide) rfl⟩
  ·
    clear hf hm
    rintro i1_1 xs1_1 a w ⟨v1_1, hf, hm⟩ hi1_1 hi1_2 q0_1 hb0_1 ho0_1
    refine wp_seq ?_
    refine wp_seq ?_
    refine wp_region_lit ?_
    refine st_y hf rfl rfl rfl (y_move rfl rfl) ?_
    clear hf a; intro a hf
    refine st_y hf rfl rfl rfl (y_fieldAddr fo_29_2 rfl rfl) ?_
    clear hf a; intro a hf
    refine st_y hf rfl rfl rfl (y_load1 Try.isAgg27 rfl rfl (hm.blk_cell 0 rfl rfl)) ?_
    clear hf a; intro a hf
    refine st_y hf rfl rfl rfl (y_len_slice st_27.und rfl rfl) ?_
    clear hf a; intro a hf
    refine st_y hf rfl rfl rfl (y_lss rfl rfl rfl) ?_
    clear hf a; intro a hf
    refine st_end ?_
    refine x_then_n ?_
    refine cond_t hf rfl (decide_eq_true (by omega)) ?_
    refine wp_skip ?_
    refine x_then_n ?_
    refine wp_seq ?_
    obtain ⟨s1_1, hq1_1, hb0_1⟩ := bnd hb0_1
    refine code_cut (K := fun a w => ∃ (v1_2 : Value), Fr 75 [(1, v2), (2, (.pointer (some ⟨b0_1, 0, none⟩))), (4, (.pointer (some ⟨b0_2, 0, none⟩))), (5, (.slice p0_3 ys0_1.length c0_3)), (6, (.pointer (some ⟨b0_3, 0, none⟩))), (7, (.int .i64 (i1_1)))] a ∧ Mem w0 (hp w0) w [blk b0_1 [(.int .i64 (f.params)), (.int .i64 (f.slots)), (.slice p0_1 f.ins.length c0_1)] 29, blk b0_2 [(.int .i64 (0)), (.int .i64 (0)), (.slice none 0 0)] 29, ow [(.slice p0_3 ys0_1.length c0_3)] (xs1_1.1.set (i1_1).toNat (xs1_1.2.length : Int)), blk b0_3 [(.int .i64 (f.params)), (.int .i64 (f.slots)), v1_2] 29, ow [v1_2] s1_1]) ?_ ?_
    ·
      refine wp_block ?_
      refine wp_seq ?_
      refine wp_region_lit ?_
      refine st_y hf rfl rfl rfl (y_move rfl rfl) ?_
      clear hf a; intro a hf
      refine st_y hf rfl rfl rfl (y_move rfl rfl) ?_
      clear hf a; intro a hf
      refine st_y hf rfl rfl rfl (y_fieldAddr fo_29_2 rfl rfl) ?_
      clear hf a; intro a hf
      refine st_y hf rfl rfl rfl (y_load1 Try.isAgg27 rfl rfl (hm.blk_cell 3 rfl rfl)) ?_
      clear hf a; intro a hf
      obtain ⟨p2_1, c2_1, he, hl2_1⟩ := ro_slice (hm.ow_rep 4 rfl)
      subst he
      refine st_y hf rfl rfl rfl (y_len_slice st_27.und rfl rfl) ?_
      clear hf a; intro a hf
      obtain ⟨x2_1, hx2_1, hq1_1⟩ := bnd hq1_1
      obtain ⟨h2_1, hx2_2⟩ := getI_some.1 hx2_1
      obtain ⟨b2_1, o2_1, c2_2, he⟩ := idx_form (hm.ow_rep 2 rfl) hx2_2
      simp only [Value.slice.injEq, Option.some.injEq] at he; obtain ⟨rfl, _, rfl⟩ := he
      refine st_y hf rfl rfl rfl (y_indexAddr st_33 rfl rfl rfl h2_1 (idx_lt2 hx2_2 (rep_slice_len (hm.ow_rep 2 rfl)))) ?_
      clear hf a; intro a hf
      refine st_ef0 hf rfl rfl (e_setElem (x1 := (xs1_1.2.length : Int)) (j := 0) (vs := [(.int .i64 ((xs1_1.2.length : Int)))]) 2 hf hm rfl hx2_2 rfl Try.sizeOf3 rfl rfl rfl (one_cons rfl one_nil) rfl rfl) ?_
      clear hf a; rintro _ w2_1 a hm hf
      have hx2_3 := List.getElem?_set_self (a := (xs1_1.2.length : Int)) (idx_lt hx2_2)
      refine st_end ?_
      refine x_then_n ?_
      refine wp_seq ?_
      refine wp_region_lit ?_
      refine st_y hf rfl rfl rfl (y_move rfl rfl) ?_
      clear hf a; intro a hf
      refine st_y hf rfl rfl rfl (y_move rfl rfl) ?_
      clear hf a; intro a hf
      obtain ⟨x2_2, hx2_4, hq1_1⟩ := bnd hq1_1
      obtain ⟨h2_2, hx2_5⟩ := getI_some.1 hx2_4
      obtain ⟨b2_2, o2_2, c2_3, he⟩ := idx_form h2 hx2_5
      subst he
      refine st_y hf rfl rfl rfl (y_indexAddr st_47 rfl rfl rfl h2_2 (idx_lt hx2_5)) ?_
      clear hf a; intro a hf
      refine st_y hf rfl rfl rfl (y_load1 Try.isAgg4 rfl rfl ((flat_cells (cs := [(.bool (x2_2))]) (hm.now h2) hx2_5 rfl).cell (j := 0) rfl)) ?_
      clear hf a; intro a hf
      refine st_y hf rfl rfl rfl (y_not rfl rfl) ?_
      clear hf a; intro a hf
      refine st_end ?_
      refine x_then_n ?_
      obtain ⟨s2_1, hq2_1, hq1_1⟩ := bnd hq1_1
      refine code_cut (K := fun a w => ∃ (v2_1 : Value), Fr 75 [(1, (.slice (some ⟨b2_2, o2_2, none⟩) gone.length c2_3)), (2, (.pointer (some ⟨b0_1, 0, none⟩))), (4, (.pointer (some ⟨b0_2, 0, none⟩))), (5, (.slice (some ⟨b2_1, o2_1, none⟩) ys0_1.length c0_3)), (6, (.pointer (some ⟨b0_3, 0, none⟩))), (7, (.int .i64 (i1_1)))] a ∧ Mem w0 (hp w0) w [blk b0_1 [(.int .i64 (f.params)), (.int .i64 (f.slots)), (.slice p0_1 f.ins.length c0_1)] 29, blk b0_2 [(.int .i64 (0)), (.int .i64 (0)), (.slice none 0 0)] 29, ow [(.slice (some ⟨b2_1, o2_1, none⟩) ys0_1.length c0_3)] (xs1_1.1.set (i1_1).toNat (xs1_1.2.length : Int)), blk b0_3 [(.int .i64 (f.params)), (.int .i64 (f.slots)), v2_1] 29, ow [v2_1] s2_1]) ?_ ?_
      ·
        rcases bcases (!(x2_2)) with h3_1 | h3_1
        ·
          replace hq2_1 := (ite_t h3_1).symm.trans hq2_1
          have h3_2 := bnot_t' h3_1
          refine cond_t hf rfl h3_1 ?_
          refine wp_draw [(true, 0), (true, 1), (true, 2), (true, 3), (false, 4), (false, 5), (false, 6), (false, 7), (false, 8), (false, 9), (false, 10)] [0, 1, 2, 3, 4, 5, 6, 7] (fun w => Mem w0 (hp w0) w [blk b0_1 [(.int .i64 (f.params)), (.int .i64 (f.slots)), (.slice p0_1 f.ins.length c0_1)] 29, blk b0_2 [(.int .i64 (0)), (.int .i64 (0)), (.slice none 0 0)] 29, ow [(.slice (some ⟨b2_1, o2_1, none⟩) ys0_1.length c0_3)] (xs1_1.1.set (i1_1).toNat (xs1_1.2.length : Int)), blk b0_3 [(.int .i64 (f.params)), (.int .i64 (f.slots)), (.slice p2_1 xs1_1.2.length c2_1)] 29, ow [(.slice p2_1 xs1_1.2.length c2_1)] xs1_1.2]) (by kernel_rfl) (by kernel_rfl) (fun _ _ _ h => h.2) ?_
          replace hm := hm.drew
          have hS : Mem w0 (hp w0) _ [blk b0_1 [(.int .i64 (f.params)), (.int .i64 (f.slots)), (.slice p0_1 f.ins.length c0_1)] 29, blk b0_2 [(.int .i64 (0)), (.int .i64 (0)), (.slice none 0 0)] 29, ow [(.slice (some ⟨b2_1, o2_1, none⟩) ys0_1.length c0_3)] (xs1_1.1.set (i1_1).toNat (xs1_1.2.length : Int)), blk b0_3 [(.int .i64 (f.params)), (.int .i64 (f.slots)), (.slice p2_1 xs1_1.2.length c2_1)] 29, ow [(.slice p2_1 xs1_1.2.length c2_1)] xs1_1.2] := hm.pick [0, 1, 2, 3, 4] (by decide) rfl
          refine sd_y hf rfl rfl rfl rfl hS (fun w hm => y_fieldAddr fo_29_2 rfl rfl) ?_
          clear hf a; intro a hf
          refine sd_y hf rfl rfl rfl rfl hS (fun w hm => y_load1 Try.isAgg27 rfl rfl (hm.blk_cell 3 rfl rfl)) ?_
          clear hf a; intro a hf
          refine sd_y hf rfl rfl rfl rfl hS (fun w hm => y_fieldAddr fo_29_2 rfl rfl) ?_
          clear hf a; intro a hf
          refine sd_y hf rfl rfl rfl rfl hS (fun w hm => y_load1 Try.isAgg27 rfl rfl (hm.blk_cell 0 rfl rfl)) ?_
          clear hf a; intro a hf
          refine sd_ef hf rfl rfl rfl rfl (ef_y hf (y_move rfl rfl)) ?_
          clear hf a; rintro _ _ a ⟨rfl, rfl⟩ hf
          refine ⟨fun _ => hS, ?_⟩
          obtain ⟨x3_1, hx3_1, hq2_1⟩ := bnd hq2_1
          obtain ⟨h3_3, hx3_2⟩ := getI_some.1 hx3_1
          obtain ⟨b3_1, o3_1, c3_1, he⟩ := idx_form h1 hx3_2
          simp only [Value.slice.injEq, Option.some.injEq] at he; obtain ⟨rfl, _, rfl⟩ := he
          refine sd_ef hf rfl rfl rfl rfl (ef_y hf (y_indexAddr st_27 rfl rfl rfl h3_3 (idx_lt hx3_2))) ?_
          clear hf a; rintro _ _ a ⟨rfl, rfl⟩ hf
          refine ⟨fun _ => hS, ?_⟩
          refine sd_ef hf rfl rfl rfl rfl (ef_y hf (y_loadN (cs := [(.int .i64 (x3_1.op)), (.int .i64 (x3_1.a_)), (.int .i64 (x3_1.b)), (.int .i64 (x3_1.c)), (.int .i64 (x3_1.n_))]) Try.isAgg50 Try.sizeOf50 rfl rfl (flat_cells (cs := [(.int .i64 (x3_1.op)), (.int .i64 (x3_1.a_)), (.int .i64 (x3_1.b)), (.int .i64 (x3_1.c)), (.int .i64 (x3_1.n_))]) (hm.now h1) hx3_2 rfl))) ?_
          clear hf a; rintro _ _ a ⟨rfl, rfl⟩ hf
          refine ⟨fun _ => hS, ?_⟩
          refine sd_ef hf rfl rfl rfl rfl (e_build (vs := #[(0, (.agg #[(.int .i64 (x3_1.op)), (.int .i64 (x3_1.a_)), (.int .i64 (x3_1.b)), (.int .i64 (x3_1.c)), (.int .i64 (x3_1.n_))]))]) (cs := [(.int .i64 (x3_1.op)), (.int .i64 (x3_1.a_)), (.int .i64 (x3_1.b)), (.int .i64 (x3_1.c)), (.int .i64 (x3_1.n_))]) et_27 hf hm rfl rfl (by kernel_rfl) rfl rfl) ?_
          clear hf a; rintro _ w3_1 a ⟨b3_2, rfl, hm⟩ hf
          clear hS
          have hS : Mem w0 (hp w0) _ [blk b0_1 [(.int .i64 (f.params)), (.int .i64 (f.slots)), (.slice (some ⟨b3_1, o3_1, none⟩) f.ins.length c0_1)] 29, blk b0_2 [(.int .i64 (0)), (.int .i64 (0)), (.slice none 0 0)] 29, ow [(.slice (some ⟨b2_1, o2_1, none⟩) ys0_1.length c0_3)] (xs1_1.1.set (i1_1).toNat (xs1_1.2.length : Int)), blk b0_3 [(.int .i64 (f.params)), (.int .i64 (f.slots)), (.slice p2_1 xs1_1.2.length c2_1)] 29, ow [(.slice p2_1 xs1_1.2.length c2_1)] xs1_1.2] := hm.pick [1, 2, 3, 4, 5] (by decide) rfl
          refine ⟨fun _ => hS, ?_⟩
          obtain ⟨ys3_1, hx3_3, hq2_1⟩ := bnd hq2_1
          obtain ⟨h3_4, h3_4e⟩ := appM_some.1 hx3_3
          refine sd_ef hf rfl rfl rfl rfl (e_append 5 et_27 hf hm rfl (hm.lit_rep (xs := ([x3_1] : List Mins)) 0 rfl rfl rfl rfl) rfl rfl rfl h3_4) ?_
          clear hf a; rintro v3_1 w3_2 a hm hf
          rw [h3_4e] at hm
          refine ⟨fun h => absurd h (by decide), ?_⟩
          refine sd_ef hf rfl rfl rfl rfl (ef_y hf (y_fieldAddr fo_29_2 rfl rfl)) ?_
          clear hf a; rintro _ _ a ⟨rfl, rfl⟩ hf
          refine ⟨fun h => absurd h (by decide), ?_⟩
          refine sd_ef0 hf rfl rfl rfl (e_store1 4 hf hm rfl Try.sizeOf27 rfl rfl rfl (rep_one (hm.ow_rep 5 rfl)) rfl) ?_
          clear hf a; rintro _ w3_3 a hm hf
          refine ⟨fun h => absurd h (by decide), ?_⟩
          clear hS; refine sd_end ?_
          refine x_then_n ?_
          obtain rfl := Option.some.inj hq2_1
          exact ⟨v3_1, hf.sub ⟨rfl, rfl, rfl, rfl, rfl, rfl, trivial⟩, hm.pick [1, 2, 3, 4, 5] (by decide) rfl⟩
        ·
          replace hq2_1 := (ite_f h3_1).symm.trans hq2_1
          have h3_5 := bnot_f' h3_1
          refine cond_f hf rfl h3_1 ?_
          refine wp_skip ?_
          refine x_then_n ?_
          obtain rfl := Option.some.inj hq2_1
          exact ⟨(.slice p2_1 xs1_1.2.length c2_1), hf.sub ⟨rfl, rfl, rfl, rfl, rfl, rfl, trivial⟩, hm.pick [0, 1, 2, 3, 4] (by decide) rfl⟩
      ·
        clear hf hm
        rintro a w ⟨v2_1, hf, hm⟩
        refine x_blk_n ?_
        refine x_then_n ?_
        obtain rfl := Option.some.inj hq1_1
        exact ⟨v2_1, hf.sub ⟨rfl, rfl, rfl, rfl, rfl, rfl, trivial⟩, hm.pick [0, 1, 2, 3, 4] (by decide) rfl⟩
    ·
      clear hf hm
      rintro a w ⟨v1_2, hf, hm⟩
      refine x_then_n ?_
      refine wp_region_lit ?_
      refine st_y hf rfl rfl rfl (y_move rfl rfl) ?_
      clear hf a; intro a hf
      refine st_y hf rfl rfl rfl (y_add64 rfl rfl rfl (by omega) (by omega)) ?_
      clear hf a; intro a hf
      refine st_y hf rfl rfl rfl (y_assign rfl rfl) ?_
      clear hf a; intro a hf
      refine st_end ?_
      refine x_then_n ?_
      obtain rfl := Option.some.inj hb0_1
      exact ⟨_, rfl, v1_2, hf.sub ⟨rfl, rfl, rfl, rfl, rfl, rfl, trivial⟩, hm.pick [0, 1, 2, 3, 4] (by decide) rfl⟩
  ·
    clear hf hm
    rintro i0_1 xs0_1 a w ⟨v0_3, hf, hm⟩ hi0_1 hi0_2 rfl
    replace hq := sum_l hq
    refine wp_seq ?_
    refine wp_seq ?_
    refine wp_region_lit ?_
    refine st_y hf rfl rfl rfl (y_move rfl rfl) ?_
    clear hf a; intro a hf
    refine st_y hf rfl rfl rfl (y_fieldAddr fo_29_2 rfl rfl) ?_
    clear hf a; intro a hf
    refine st_y hf rfl rfl rfl (y_load1 Try.isAgg27 rfl rfl (hm.blk_cell 0 rfl rfl)) ?_
    clear hf a; intro a hf
    refine st_y hf rfl rfl rfl (y_len_slice st_27.und rfl rfl) ?_
    clear hf a; intro a hf
    refine st_y hf rfl rfl rfl (y_lss rfl rfl rfl) ?_
    clear hf a; intro a hf
    refine st_end ?_
    refine x_then_n ?_
    refine cond_f hf rfl (decide_eq_false (by omega)) ?_
    refine wp_exit ?_
    refine x_then_exit ?_
    refine x_then_exit ?_
    refine x_blk_hit ?_
    refine x_then_n ?_
    refine wp_seq ?_
    refine wp_seq ?_
    refine wp_region_lit ?_
    refine st_y hf rfl rfl rfl (y_assign rfl rfl) ?_
    clear hf a; intro a hf
    refine st_end ?_
    refine x_then_n ?_
    obtain ⟨p0_4, c0_4, he, hl0_5⟩ := ro_slice (hm.ow_rep 4 rfl)
    subst he
    refine wp_block ?_
    obtain ⟨r0_2, hl0_6, hq⟩ := bnd hq
    refine wp_forN _ (fun i1_2 xs1_2 a w => Fr 75 [(4, (.pointer (some ⟨b0_2, 0, none⟩))), (5, (.slice p0_3 ys0_1.length c0_3)), (6, (.pointer (some ⟨b0_3, 0, none⟩))), (8, (.int .i64 (i1_2)))] a ∧ Mem w0 (hp w0) w [blk b0_2 [(.int .i64 (0)), (.int .i64 (0)), (.slice none 0 0)] 29, ow [(.slice p0_3 ys0_1.length c0_3)] xs0_1.1, blk b0_3 [(.int .i64 (f.params)), (.int .i64 (f.slots)), (.slice p0_4 xs0_1.2.length c0_4)] 29, ow [(.slice p0_4 xs0_1.2.length c0_4)] xs1_2]) (0) ((xs0_1.2.length : Int)) hl0_6 ?_ ?_ ?_
    ·
      exact ⟨hf.sub ⟨rfl, rfl, rfl, rfl, trivial⟩, hm.pick [1, 2, 3, 4] (by decide) rfl⟩
    ·
      clear hf hm
      rintro i1_2 xs1_2 a w ⟨hf, hm⟩ hi1_3 hi1_4 q0_2 hb0_2 ho0_2
      refine wp_seq ?_
      refine wp_seq ?_
      refine wp_region_lit ?_
      refine st_y hf rfl rfl rfl (y_move rfl rfl) ?_
      clear hf a; intro a hf
      refine st_y hf rfl rfl rfl (y_fieldAddr fo_29_2 rfl rfl) ?_
      clear hf a; intro a hf
      refine st_y hf rfl rfl rfl (y_load1 Try.isAgg27 rfl rfl (hm.blk_cell 2 rfl rfl)) ?_
      clear hf a; intro a hf
      have hl1_1 := rep_len (hm.ow_rep 3 rfl)
      refine st_y hf rfl rfl rfl (y_len_slice st_27.und rfl rfl) ?_
      clear hf a; intro a hf
      refine st_y hf rfl rfl rfl (y_lss rfl rfl rfl) ?_
      clear hf a; intro a hf
      refine st_end ?_
      refine x_then_n ?_
      refine cond_t hf rfl (decide_eq_true (by omega)) ?_
      refine wp_skip ?_
      refine x_then_n ?_
      refine wp_seq ?_
      obtain ⟨s1_2, hq1_2, hb0_2⟩ := bnd hb0_2
      refine code_cut (K := fun a w => Fr 75 [(4, (.pointer (some ⟨b0_2, 0, none⟩))), (5, (.slice p0_3 ys0_1.length c0_3)), (6, (.pointer (some ⟨b0_3, 0, none⟩))), (8, (.int .i64 (i1_2)))] a ∧ Mem w0 (hp w0) w [blk b0_2 [(.int .i64 (0)), (.int .i64 (0)), (.slice none 0 0)] 29, ow [(.slice p0_3 ys0_1.length c0_3)] xs0_1.1, blk b0_3 [(.int .i64 (f.params)), (.int .i64 (f.slots)), (.slice p0_4 xs0_1.2.length c0_4)] 29, ow [(.slice p0_4 xs0_1.2.length c0_4)] s1_2]) ?_ ?_
      ·
        refine wp_block ?_
        refine wp_seq ?_
        refine wp_region_lit ?_
        refine st_y hf rfl rfl rfl (y_fieldAddr fo_29_2 rfl rfl) ?_
        clear hf a; intro a hf
        refine st_y hf rfl rfl rfl (y_load1 Try.isAgg27 rfl rfl (hm.blk_cell 2 rfl rfl)) ?_
        clear hf a; intro a hf
        refine st_y hf rfl rfl rfl (y_move rfl rfl) ?_
        clear hf a; intro a hf
        obtain ⟨x2_3, hx2_6, hq1_2⟩ := bnd hq1_2
        obtain ⟨h2_3, hx2_7⟩ := getI_some.1 hx2_6
        obtain ⟨b2_3, o2_3, c2_4, he⟩ := idx_form (hm.ow_rep 3 rfl) hx2_7
        simp only [Value.slice.injEq, Option.some.injEq] at he; obtain ⟨rfl, _, rfl⟩ := he
        refine st_y hf rfl rfl rfl (y_indexAddr st_27 rfl rfl rfl h2_3 (idx_lt2 hx2_7 (rep_slice_len (hm.ow_rep 3 rfl)))) ?_
        clear hf a; intro a hf
        refine st_y hf rfl rfl rfl (y_loadN (cs := [(.int .i64 (x2_3.op)), (.int .i64 (x2_3.a_)), (.int .i64 (x2_3.b)), (.int .i64 (x2_3.c)), (.int .i64 (x2_3.n_))]) Try.isAgg50 Try.sizeOf50 rfl rfl (flat_cells (cs := [(.int .i64 (x2_3.op)), (.int .i64 (x2_3.a_)), (.int .i64 (x2_3.b)), (.int .i64 (x2_3.c)), (.int .i64 (x2_3.n_))]) (hm.ow_rep 3 rfl) hx2_7 rfl)) ?_
        clear hf a; intro a hf
        obtain ⟨r2_1, hx2_8, hq1_2⟩ := bnd hq1_2
        refine st_ef hf rfl rfl rfl (e_call hf rfl Try.call41 rfl (spec_l24Jumps_ok _ x2_3 _ hx2_8)) ?_
        clear hf a; rintro _ w2_2 a ⟨rfl, hB⟩ hf
        replace hm := hm.below' hB; clear hB
        refine st_end ?_
        refine x_then_n ?_
        obtain ⟨s2_2, hq2_2, hq1_2⟩ := bnd hq1_2
        refine code_cut (K := fun a w => Fr 75 [(4, (.pointer (some ⟨b0_2, 0, none⟩))), (5, (.slice p0_3 ys0_1.length c0_3)), (6, (.pointer (some ⟨b0_3, 0, none⟩))), (8, (.int .i64 (i1_2)))] a ∧ Mem w0 (hp w0) w [blk b0_2 [(.int .i64 (0)), (.int .i64 (0)), (.slice none 0 0)] 29, ow [(.slice p0_3 ys0_1.length c0_3)] xs0_1.1, blk b0_3 [(.int .i64 (f.params)), (.int .i64 (f.slots)), (.slice (some ⟨b2_3, o2_3, none⟩) xs0_1.2.length c0_4)] 29, ow [(.slice (some ⟨b2_3, o2_3, none⟩) xs0_1.2.length c0_4)] s2_2]) ?_ ?_
        ·
          rcases bcases (r2_1) with h3_6 | h3_6
          ·
            replace hq2_2 := (ite_t h3_6).symm.trans hq2_2
            refine cond_t hf rfl h3_6 ?_
            refine wp_draw [(true, 0), (true, 1), (true, 2), (true, 3), (true, 4), (true, 5), (false, 6), (false, 7), (false, 8), (false, 9), (false, 10), (false, 11), (false, 12), (false, 13), (false, 14)] [0, 1, 2, 3, 4, 5, 6, 7, 8, 9, 10, 11] (fun w => Mem w0 (hp w0) w [blk b0_2 [(.int .i64 (0)), (.int .i64 (0)), (.slice none 0 0)] 29, ow [(.slice p0_3 ys0_1.length c0_3)] xs0_1.1, blk b0_3 [(.int .i64 (f.params)), (.int .i64 (f.slots)), (.slice (some ⟨b2_3, o2_3, none⟩) xs0_1.2.length c0_4)] 29, ow [(.slice (some ⟨b2_3, o2_3, none⟩) xs0_1.2.length c0_4)] xs1_2]) (by kernel_rfl) (by kernel_rfl) (fun _ _ _ h => h.2) ?_
            replace hm := hm.drew
            have hS : Mem w0 (hp w0) _ [blk b0_2 [(.int .i64 (0)), (.int .i64 (0)), (.slice none 0 0)] 29, ow [(.slice p0_3 ys0_1.length c0_3)] xs0_1.1, blk b0_3 [(.int .i64 (f.params)), (.int .i64 (f.slots)), (.slice (some ⟨b2_3, o2_3, none⟩) xs0_1.2.length c0_4)] 29, ow [(.slice (some ⟨b2_3, o2_3, none⟩) xs0_1.2.length c0_4)] xs1_2] := hm.pick [0, 1, 2, 3] (by decide) rfl
            refine sd_y hf rfl rfl rfl rfl hS (fun w hm => y_fieldAddr fo_29_2 rfl rfl) ?_
            clear hf a; intro a hf
            refine sd_y hf rfl rfl rfl rfl hS (fun w hm => y_load1 Try.isAgg27 rfl rfl (hm.blk_cell 2 rfl rfl)) ?_
            clear hf a; intro a hf
            refine sd_y hf rfl rfl rfl rfl hS (fun w hm => y_move rfl rfl) ?_
            clear hf a; intro a hf
            refine sd_y hf rfl rfl rfl rfl hS (fun w hm => y_move rfl rfl) ?_
            clear hf a; intro a hf
            refine sd_y hf rfl rfl rfl rfl hS (fun w hm => y_fieldAddr fo_29_2 rfl rfl) ?_
            clear hf a; intro a hf
            refine sd_y hf rfl rfl rfl rfl hS (fun w hm => y_load1 Try.isAgg27 rfl rfl (hm.blk_cell 2 rfl rfl)) ?_
            clear hf a; intro a hf
            refine sd_ef hf rfl rfl rfl rfl (ef_y hf (y_move rfl rfl)) ?_
            clear hf a; rintro _ _ a ⟨rfl, rfl⟩ hf
            refine ⟨fun _ => hS, ?_⟩
            refine sd_ef hf rfl rfl rfl rfl (ef_y hf (y_indexAddr st_27 rfl rfl rfl h2_3 (idx_lt2 hx2_7 (rep_slice_len (hm.ow_rep 3 rfl))))) ?_
            clear hf a; rintro _ _ a ⟨rfl, rfl⟩ hf
            refine ⟨fun _ => hS, ?_⟩
            refine sd_ef hf rfl rfl rfl rfl (ef_y hf (y_fieldAddr fo_50_4 rfl rfl)) ?_
            clear hf a; rintro _ _ a ⟨rfl, rfl⟩ hf
            refine ⟨fun _ => hS, ?_⟩
            refine sd_ef hf rfl rfl rfl rfl (ef_y hf (y_load1 Try.isAgg3 rfl rfl ((flat_cells (cs := [(.int .i64 (x2_3.op)), (.int .i64 (x2_3.a_)), (.int .i64 (x2_3.b)), (.int .i64 (x2_3.c)), (.int .i64 (x2_3.n_))]) (hm.ow_rep 3 rfl) hx2_7 rfl).cell (j := 4) rfl))) ?_
            clear hf a; rintro _ _ a ⟨rfl, rfl⟩ hf
            refine ⟨fun _ => hS, ?_⟩
            obtain ⟨x3_2, hx3_4, hq2_2⟩ := bnd hq2_2
            obtain ⟨h3_7, hx3_5⟩ := getI_some.1 hx3_4
            obtain ⟨b3_3, o3_2, c3_2, he⟩ := idx_form (hm.ow_rep 1 rfl) hx3_5
            simp only [Value.slice.injEq, Option.some.injEq] at he; obtain ⟨rfl, _, rfl⟩ := he
            refine sd_ef hf rfl rfl rfl rfl (ef_y hf (y_indexAddr st_33 rfl rfl rfl h3_7 (idx_lt2 hx3_5 (rep_slice_len (hm.ow_rep 1 rfl))))) ?_
            clear hf a; rintro _ _ a ⟨rfl, rfl⟩ hf
            refine ⟨fun _ => hS, ?_⟩
            refine sd_ef hf rfl rfl rfl rfl (ef_y hf (y_load1 Try.isAgg3 rfl rfl ((flat_cells (cs := [(.int .i64 (x3_2))]) (hm.ow_rep 1 rfl) hx3_5 rfl).cell (j := 0) rfl))) ?_
            clear hf a; rintro _ _ a ⟨rfl, rfl⟩ hf
            refine ⟨fun _ => hS, ?_⟩
            refine sd_ef hf rfl rfl rfl rfl (ef_y hf (y_indexAddr st_27 rfl rfl rfl h2_3 (idx_lt2 hx2_7 (rep_slice_len (hm.ow_rep 3 rfl))))) ?_
            clear hf a; rintro _ _ a ⟨rfl, rfl⟩ hf
            refine ⟨fun h => absurd h (by decide), ?_⟩
            refine sd_ef hf rfl rfl rfl rfl (ef_y hf (y_fieldAddr fo_50_4 rfl rfl)) ?_
            clear hf a; rintro _ _ a ⟨rfl, rfl⟩ hf
            refine ⟨fun h => absurd h (by decide), ?_⟩
            refine sd_ef0 hf rfl rfl rfl (e_setElem (x1 := (⟨x2_3.op, x2_3.a_, x2_3.b, x2_3.c, x3_2⟩ : Mins)) (j := 4) (vs := [(.int .i64 (x3_2))]) 3 hf hm rfl hx2_7 rfl Try.sizeOf3 rfl rfl rfl (one_cons rfl one_nil) rfl rfl) ?_
            clear hf a; rintro _ w3_4 a hm hf
            have hx3_6 := List.getElem?_set_self (a := (⟨x2_3.op, x2_3.a_, x2_3.b, x2_3.c, x3_2⟩ : Mins)) (idx_lt hx2_7)
            refine ⟨fun h => absurd h (by decide), ?_⟩
            clear hS; refine sd_end ?_
            refine x_then_n ?_
            obtain rfl := Option.some.inj hq2_2
            exact ⟨hf.sub ⟨rfl, rfl, rfl, rfl, trivial⟩, hm.pick [0, 1, 2, 3] (by decide) rfl⟩
          ·
            replace hq2_2 := (ite_f h3_6).symm.trans hq2_2
            refine cond_f hf rfl h3_6 ?_
            refine wp_skip ?_
            refine x_then_n ?_
            obtain rfl := Option.some.inj hq2_2
            exact ⟨hf.sub ⟨rfl, rfl, rfl, rfl, trivial⟩, hm.pick [0, 1, 2, 3] (by decide) rfl⟩
        ·
          clear hf hm
          rintro a w ⟨hf, hm⟩
          refine x_blk_n ?_
          refine x_then_n ?_
          obtain rfl := Option.some.inj hq1_2
          exact ⟨hf.sub ⟨rfl, rfl, rfl, rfl, trivial⟩, hm.pick [0, 1, 2, 3] (by decide) rfl⟩
      ·
        clear hf hm
        rintro a w ⟨hf, hm⟩
        refine x_then_n ?_
        refine wp_region_lit ?_
        refine st_y hf rfl rfl rfl (y_move rfl rfl) ?_
        clear hf a; intro a hf
        refine st_y hf rfl rfl rfl (y_add64 rfl rfl rfl (by omega) (by omega)) ?_
        clear hf a; intro a hf
        refine st_y hf rfl rfl rfl (y_assign rfl rfl) ?_
        clear hf a; intro a hf
        refine st_end ?_
        refine x_then_n ?_
        obtain rfl := Option.some.inj hb0_2
        exact ⟨_, rfl, hf.sub ⟨rfl, rfl, rfl, rfl, trivial⟩, hm.pick [0, 1, 2, 3] (by decide) rfl⟩
    ·
      clear hf hm
      rintro i0_2 xs0_2 a w ⟨hf, hm⟩ hi0_3 hi0_4 rfl
      replace hq := sum_l hq
      refine wp_seq ?_
      refine wp_seq ?_
      refine wp_region_lit ?_
      refine st_y hf rfl rfl rfl (y_move rfl rfl) ?_
      clear hf a; intro a hf
      refine st_y hf rfl rfl rfl (y_fieldAddr fo_29_2 rfl rfl) ?_
      clear hf a; intro a hf
      refine st_y hf rfl rfl rfl (y_load1 Try.isAgg27 rfl rfl (hm.blk_cell 2 rfl rfl)) ?_
      clear hf a; intro a hf
      have hl0_7 := rep_len (hm.ow_rep 3 rfl)
      refine st_y hf rfl rfl rfl (y_len_slice st_27.und rfl rfl) ?_
      clear hf a; intro a hf
      refine st_y hf rfl rfl rfl (y_lss rfl rfl rfl) ?_
      clear hf a; intro a hf
      refine st_end ?_
      refine x_then_n ?_
      refine cond_f hf rfl (decide_eq_false (by omega)) ?_
      refine wp_exit ?_
      refine x_then_exit ?_
      refine x_then_exit ?_
      refine x_blk_hit ?_
      refine x_then_n ?_
      refine wp_seq ?_
      refine wp_region_lit ?_
      refine st_y hf rfl rfl rfl (y_loadN (cs := [(.int .i64 (f.params)), (.int .i64 (f.slots)), (.slice p0_4 xs0_1.2.length c0_4)]) Try.isAgg29 Try.sizeOf29 rfl rfl (hm.blk_at 2 rfl)) ?_
      clear hf a; intro a hf
      refine st_ef0 hf rfl rfl (e_storeN 0 hf hm rfl Try.sizeOf29 rfl rfl rfl (one_cons rfl (one_cons rfl (one_cons rfl one_nil))) rfl rfl) ?_
      clear hf a; rintro _ w0_7 a hm hf
      refine st_end ?_
      refine x_then_n ?_
      refine wp_ret ?_
      obtain rfl := Option.some.inj hq
      refine ret_cell 0 hf Try.results31 hm rfl rfl Try.isAgg29 Try.sizeOf29 ?_
      exact ⟨(.slice p0_4 xs0_1.2.length c0_4), rfl, hm.pick [3] (by decide) rfl⟩

theorem spec_DropMins_ok (w0 : World) (f : Mfn) (v1 : Value) (h1 : GT.rep (hp w0) [v1] f.ins) (list : List Int) (v2 : Value) (h2 : GT.rep (hp w0) [v2] list) (r : Mfn) (hq : spec_DropMins f list = some r) :
    Con Try.prog 11 [(.agg #[(.int .i64 (f.params)), (.int .i64 (f.slots)), v1]), v2] w0 (fun v w' => ∃ (x1 : Value), v = (.agg #[(.int .i64 (r.params)), (.int .i64 (r.slots)), x1]) ∧ Mem w0 (hp w0) w' [ow [x1] r.ins]) := by
  unfold spec_DropMins at hq
  refine con_body (l := [(0, (.agg #[(.int .i64 (f.params)), (.int .i64 (f.slots)), v1])), (1, v2)]) Try.func11 rfl Try.ntmps11 (Args.get ⟨rfl, rfl, trivial⟩) rfl ?_
  intro a hf
  have hm := Mem.start w0
  refine wp_seq ?_
  refine wp_region_lit ?_
  refine st_ef hf rfl rfl rfl (e_box hf hm rfl rfl rfl) ?_
  clear hf a; rintro _ w0_1 a ⟨b0_1, rfl, hm⟩ hf
  refine st_ef hf rfl rfl rfl (e_alloc hm Try.zeroValue29 rfl rfl) ?_
  clear hf a; rintro _ w0_2 a ⟨b0_2, rfl, hm⟩ hf
  refine st_end ?_
  refine x_then_n ?_
  refine wp_seq ?_
  refine wp_seq ?_
  refine wp_region_lit ?_
  refine st_y hf rfl rfl rfl (y_loadN (cs := [(.int .i64 (f.params)), (.int .i64 (f.slots)), v1]) Try.isAgg29 Try.sizeOf29 rfl rfl (hm.blk_at 1 rfl)) ?_
  clear hf a; intro a hf
  obtain ⟨r0_1, hx0_1, hq⟩ := bnd hq
  refine st_ef hf rfl rfl rfl (e_call hf rfl Try.call22 rfl (spec_l24Fits_ok _ f v1 (hm.now h1) _ hx0_1)) ?_
  clear hf a; rintro _ w0_3 a ⟨rfl, hB⟩ hf
  replace hm := hm.below' hB; clear hB
  refine st_y hf rfl rfl rfl (y_not rfl rfl) ?_
  clear hf a; intro a hf
  refine st_end ?_
  refine x_then_n ?_
  rcases bcases (!(r0_1)) with h0_1 | h0_1
  ·
    replace hq := (ite_t h0_1).symm.trans hq
    have h0_2 := bnot_t' h0_1
    refine cond_t hf rfl h0_1 ?_
    refine wp_seq ?_
    refine wp_region_lit ?_
    refine st_y hf rfl rfl rfl (y_loadN (cs := [(.int .i64 (f.params)), (.int .i64 (f.slots)), v1]) Try.isAgg29 Try.sizeOf29 rfl rfl (hm.blk_at 1 rfl)) ?_
    clear hf a; intro a hf
    obtain ⟨r0_2, hx0_2, hq⟩ := bnd hq
    refine st_ef hf rfl rfl rfl (e_call hf rfl Try.call30 rfl (spec_l24Copy_ok _ f v1 (hm.now h1) _ hx0_2)) ?_
    clear hf a; rintro _ w0_4 a ⟨v0_1, rfl, hB⟩ hf
    replace hm := hm.give hB; clear hB
    refine st_ef0 hf rfl rfl (e_storeN 1 hf hm rfl Try.sizeOf29 rfl rfl rfl (one_cons rfl (one_cons rfl (one_cons (rep_one (hm.ow_rep 0 rfl)) one_nil))) rfl rfl) ?_
    clear hf a; rintro _ w0_5 a hm hf
    refine st_end ?_
    refine x_then_n ?_
    refine wp_ret ?_
    refine x_then_ret ?_
    obtain rfl := Option.some.inj hq
    refine ret_cell 1 hf Try.results11 hm rfl rfl Try.isAgg29 Try.sizeOf29 ?_
    exact ⟨v0_1, rfl, hm.pick [0] (by decide) rfl⟩
  ·
    replace hq := (ite_f h0_1).symm.trans hq
    have h0_3 := bnot_f' h0_1
    refine cond_f hf rfl h0_1 ?_
    refine wp_skip ?_
    refine x_then_n ?_
    refine wp_seq ?_
    refine wp_region_lit ?_
    refine st_y hf rfl rfl rfl (y_fieldAddr fo_29_2 rfl rfl) ?_
    clear hf a; intro a hf
    refine st_y hf rfl rfl rfl (y_load1 Try.isAgg27 rfl rfl (hm.blk_cell 1 rfl rfl)) ?_
    clear hf a; intro a hf
    obtain ⟨p0_1, c0_1, he, hl0_1⟩ := ro_slice (hm.now h1)
    subst he
    refine st_y hf rfl rfl rfl (y_len_slice st_27.und rfl rfl) ?_
    clear hf a; intro a hf
    obtain ⟨ys0_1, hx0_3, hq⟩ := bnd hq
    obtain ⟨⟨h0_41, h0_42⟩, h0_4e⟩ := makeM_some.1 hx0_3
    refine st_ef hf rfl rfl rfl (e_make (x0 := (false : Bool)) et_47 (fun _ => Flat.own_iff.2 rfl) hf hm rfl rfl rfl h0_41 (Int.le_refl _) h0_42) ?_
    clear hf a; rintro v0_2 w0_6 a hm hf
    rw [h0_4e] at hm
    have h0_4l : (ys0_1.length : Int) = (f.ins.length : Int) := by rw [← h0_4e]; simp only [List.length_replicate]; omega
    refine st_y hf rfl rfl rfl (y_assign rfl rfl) ?_
    clear hf a; intro a hf
    refine st_end ?_
    refine x_then_n ?_
    refine wp_seq ?_
    refine wp_seq ?_
    refine wp_region_lit ?_
    refine st_y hf rfl rfl rfl (y_assign rfl rfl) ?_
    clear hf a; intro a hf
    refine st_end ?_
    refine x_then_n ?_
    obtain ⟨p0_2, c0_2, he, hl0_2⟩ := ro_slice (hm.ow_rep 0 rfl)
    subst he
    refine wp_block ?_
    obtain ⟨r0_3, hl0_3, hq⟩ := bnd hq
    refine wp_forN _ (fun i1_1 xs1_1 a w => Fr 40 [(1, v2), (2, (.pointer (some ⟨b0_1, 0, none⟩))), (4, (.pointer (some ⟨b0_2, 0, none⟩))), (5, (.slice p0_2 ys0_1.length c0_2)), (6, (.int .i64 (i1_1)))] a ∧ Mem w0 (hp w0) w [blk b0_1 [(.int .i64 (f.params)), (.int .i64 (f.slots)), (.slice p0_1 f.ins.length c0_1)] 29, blk b0_2 [(.int .i64 (0)), (.int .i64 (0)), (.slice none 0 0)] 29, ow [(.slice p0_2 ys0_1.length c0_2)] xs1_1]) (0) ((list.length : Int)) hl0_3 ?_ ?_ ?_
    ·
      exact ⟨hf.sub ⟨rfl, rfl, rfl, rfl, rfl, trivial⟩, hm.pick [2, 1, 0] (by decide) rfl⟩
    ·
      clear hf hm
      rintro i1_1 xs1_1 a w ⟨hf, hm⟩ hi1_1 hi1_2 q0_1 hb0_1 ho0_1
      refine wp_seq ?_
      refine wp_seq ?_
      refine wp_region_lit ?_
      refine st_y hf rfl rfl rfl (y_move rfl rfl) ?_
      clear hf a; intro a hf
      refine st_y hf rfl rfl rfl (y_move rfl rfl) ?_
      clear hf a; intro a hf
      obtain ⟨p1_1, c1_1, he, hl1_1⟩ := ro_slice (hm.now h2)
      subst he
      refine st_y hf rfl rfl rfl (y_len_slice st_33.und rfl rfl) ?_
      clear hf a; intro a hf
      refine st_y hf rfl rfl rfl (y_lss rfl rfl rfl) ?_
      clear hf a; intro a hf
      refine st_end ?_
      refine x_then_n ?_
      refine cond_t hf rfl (decide_eq_true (by omega)) ?_
      refine wp_skip ?_
      refine x_then_n ?_
      refine wp_seq ?_
      obtain ⟨s1_1, hq1_1, hb0_1⟩ := bnd hb0_1
      refine code_cut (K := fun a w => Fr 40 [(1, (.slice p1_1 list.length c1_1)), (2, (.pointer (some ⟨b0_1, 0, none⟩))), (4, (.pointer (some ⟨b0_2, 0, none⟩))), (5, (.slice p0_2 ys0_1.length c0_2)), (6, (.int .i64 (i1_1)))] a ∧ Mem w0 (hp w0) w [blk b0_1 [(.int .i64 (f.params)), (.int .i64 (f.slots)), (.slice p0_1 f.ins.length c0_1)] 29, blk b0_2 [(.int .i64 (0)), (.int .i64 (0)), (.slice none 0 0)] 29, ow [(.slice p0_2 ys0_1.length c0_2)] s1_1]) ?_ ?_
      ·
        refine wp_block ?_
        refine wp_seq ?_
        refine wp_draw [(true, 0), (true, 1), (true, 2), (true, 3), (false, 4), (false, 5), (false, 6), (false, 7), (false, 8)] [0, 1, 4, 5, 6, 7] (fun w => Mem w0 (hp w0) w [blk b0_1 [(.int .i64 (f.params)), (.int .i64 (f.slots)), (.slice p0_1 f.ins.length c0_1)] 29, blk b0_2 [(.int .i64 (0)), (.int .i64 (0)), (.slice none 0 0)] 29, ow [(.slice p0_2 ys0_1.length c0_2)] xs1_1]) (by kernel_rfl) (by kernel_rfl) (fun _ _ _ h => h.2) ?_
        replace hm := hm.drew
        have hS : Mem w0 (hp w0) _ [blk b0_1 [(.int .i64 (f.params)), (.int .i64 (f.slots)), (.slice p0_1 f.ins.length c0_1)] 29, blk b0_2 [(.int .i64 (0)), (.int .i64 (0)), (.slice none 0 0)] 29, ow [(.slice p0_2 ys0_1.length c0_2)] xs1_1] := hm.pick [0, 1, 2] (by decide) rfl
        refine sd_y hf rfl rfl rfl rfl hS (fun w hm => y_move rfl rfl) ?_
        clear hf a; intro a hf
        refine sd_y hf rfl rfl rfl rfl hS (fun w hm => y_move rfl rfl) ?_
        clear hf a; intro a hf
        obtain ⟨x2_1, hx2_1, hq1_1⟩ := bnd hq1_1
        obtain ⟨h2_1, hx2_2⟩ := getI_some.1 hx2_1
        obtain ⟨b2_1, o2_1, c2_1, he⟩ := idx_form h2 hx2_2
        simp only [Value.slice.injEq, Option.some.injEq] at he; obtain ⟨rfl, _, rfl⟩ := he
        refine sd_y hf rfl rfl rfl rfl hS (fun w hm => y_indexAddr st_33 rfl rfl rfl h2_1 (idx_lt hx2_2)) ?_
        clear hf a; intro a hf
        refine sd_y hf rfl rfl rfl rfl hS (fun w hm => y_load1 Try.isAgg3 rfl rfl ((flat_cells (cs := [(.int .i64 (x2_1))]) (hm.now h2) hx2_2 rfl).cell (j := 0) rfl)) ?_
        clear hf a; intro a hf
        refine sd_ef hf rfl rfl rfl rfl (ef_y hf (y_fieldAddr fo_29_2 rfl rfl)) ?_
        clear hf a; rintro _ _ a ⟨rfl, rfl⟩ hf
        refine ⟨fun _ => hS, ?_⟩
        refine sd_ef hf rfl rfl rfl rfl (ef_y hf (y_load1 Try.isAgg27 rfl rfl (hm.blk_cell 0 rfl rfl))) ?_
        clear hf a; rintro _ _ a ⟨rfl, rfl⟩ hf
        refine ⟨fun _ => hS, ?_⟩
        refine sd_ef hf rfl rfl rfl rfl (ef_y hf (y_len_slice st_27.und rfl rfl)) ?_
        clear hf a; rintro _ _ a ⟨rfl, rfl⟩ hf
        refine ⟨fun _ => hS, ?_⟩
        refine sd_ef hf rfl rfl rfl rfl (ef_y hf (y_sub64 rfl rfl rfl (by omega) (by omega))) ?_
        clear hf a; rintro _ _ a ⟨rfl, rfl⟩ hf
        refine ⟨fun _ => hS, ?_⟩
        obtain ⟨r2_1, hx2_3, hq1_1⟩ := bnd hq1_1
        refine sd_ef hf rfl rfl rfl rfl (e_call hf rfl Try.call23 rfl (spec_l1In_ok _ x2_1 0 (((f.ins.length : Int)) - 2) _ hx2_3)) ?_
        clear hf a; rintro _ w2_1 a ⟨rfl, hB⟩ hf
        replace hm := hm.below' hB; clear hB
        refine ⟨fun h => absurd h (by decide), ?_⟩
        clear hS; refine sd_end ?_
        refine x_then_n ?_
        obtain ⟨s2_1, hq2_1, hq1_1⟩ := bnd hq1_1
        refine code_cut (K := fun a w => Fr 40 [(1, (.slice (some ⟨b2_1, o2_1, none⟩) list.length c1_1)), (2, (.pointer (some ⟨b0_1, 0, none⟩))), (4, (.pointer (some ⟨b0_2, 0, none⟩))), (5, (.slice p0_2 ys0_1.length c0_2)), (6, (.int .i64 (i1_1)))] a ∧ Mem w0 (hp w0) w [blk b0_1 [(.int .i64 (f.params)), (.int .i64 (f.slots)), (.slice p0_1 f.ins.length c0_1)] 29, blk b0_2 [(.int .i64 (0)), (.int .i64 (0)), (.slice none 0 0)] 29, ow [(.slice p0_2 ys0_1.length c0_2)] s2_1]) ?_ ?_
        ·
          rcases bcases (r2_1) with h3_1 | h3_1
          ·
            replace hq2_1 := (ite_t h3_1).symm.trans hq2_1
            refine cond_t hf rfl h3_1 ?_
            refine wp_region_lit ?_
            refine st_y hf rfl rfl rfl (y_move rfl rfl) ?_
            clear hf a; intro a hf
            refine st_y hf rfl rfl rfl (y_move rfl rfl) ?_
            clear hf a; intro a hf
            refine st_y hf rfl rfl rfl (y_move rfl rfl) ?_
            clear hf a; intro a hf
            refine st_y hf rfl rfl rfl (y_indexAddr st_33 rfl rfl rfl h2_1 (idx_lt hx2_2)) ?_
            clear hf a; intro a hf
            refine st_y hf rfl rfl rfl (y_load1 Try.isAgg3 rfl rfl ((flat_cells (cs := [(.int .i64 (x2_1))]) (hm.now h2) hx2_2 rfl).cell (j := 0) rfl)) ?_
            clear hf a; intro a hf
            obtain ⟨x3_1, hx3_1, hq2_1⟩ := bnd hq2_1
            obtain ⟨h3_2, hx3_2⟩ := getI_some.1 hx3_1
            obtain ⟨b3_1, o3_1, c3_1, he⟩ := idx_form (hm.ow_rep 2 rfl) hx3_2
            simp only [Value.slice.injEq, Option.some.injEq] at he; obtain ⟨rfl, _, rfl⟩ := he
            refine st_y hf rfl rfl rfl (y_indexAddr st_47 rfl rfl rfl h3_2 (idx_lt2 hx3_2 (rep_slice_len (hm.ow_rep 2 rfl)))) ?_
            clear hf a; intro a hf
            refine st_ef0 hf rfl rfl (e_setElem (x1 := true) (j := 0) (vs := [(.bool (true))]) 2 hf hm rfl hx3_2 rfl Try.sizeOf4 rfl rfl rfl (one_cons rfl one_nil) rfl rfl) ?_
            clear hf a; rintro _ w3_1 a hm hf
            have hx3_3 := List.getElem?_set_self (a := true) (idx_lt hx3_2)
            refine st_end ?_
            refine x_then_n ?_
            obtain rfl := Option.some.inj hq2_1
            exact ⟨hf.sub ⟨rfl, rfl, rfl, rfl, rfl, trivial⟩, hm.pick [0, 1, 2] (by decide) rfl⟩
          ·
            replace hq2_1 := (ite_f h3_1).symm.trans hq2_1
            refine cond_f hf rfl h3_1 ?_
            refine wp_skip ?_
            refine x_then_n ?_
            obtain rfl := Option.some.inj hq2_1
            exact ⟨hf.sub ⟨rfl, rfl, rfl, rfl, rfl, trivial⟩, hm.pick [0, 1, 2] (by decide) rfl⟩
        ·
          clear hf hm
          rintro a w ⟨hf, hm⟩
          refine x_blk_n ?_
          refine x_then_n ?_
          obtain rfl := Option.some.inj hq1_1
          exact ⟨hf.sub ⟨rfl, rfl, rfl, rfl, rfl, trivial⟩, hm.pick [0, 1, 2] (by decide) rfl⟩
      ·
        clear hf hm
        rintro a w ⟨hf, hm⟩
        refine x_then_n ?_
        refine wp_region_lit ?_
        refine st_y hf rfl rfl rfl (y_move rfl rfl) ?_
        clear hf a; intro a hf
        refine st_y hf rfl rfl rfl (y_add64 rfl rfl rfl (by omega) (by omega)) ?_
        clear hf a; intro a hf
        refine st_y hf rfl rfl rfl (y_assign rfl rfl) ?_
        clear hf a; intro a hf
        refine st_end ?_
        refine x_then_n ?_
        obtain rfl := Option.some.inj hb0_1
        exact ⟨_, rfl, hf.sub ⟨rfl, rfl, rfl, rfl, rfl, trivial⟩, hm.pick [0, 1, 2] (by decide) rfl⟩
    ·
      clear hf hm
      rintro i0_1 xs0_1 a w ⟨hf, hm⟩ hi0_1 hi0_2 rfl
      replace hq := sum_l hq
      refine wp_seq ?_
      refine wp_seq ?_
      refine wp_region_lit ?_
      refine st_y hf rfl rfl rfl (y_move rfl rfl) ?_
      clear hf a; intro a hf
      refine st_y hf rfl rfl rfl (y_move rfl rfl) ?_
      clear hf a; intro a hf
      obtain ⟨p0_3, c0_3, he, hl0_4⟩ := ro_slice (hm.now h2)
      subst he
      refine st_y hf rfl rfl rfl (y_len_slice st_33.und rfl rfl) ?_
      clear hf a; intro a hf
      refine st_y hf rfl rfl rfl (y_lss rfl rfl rfl) ?_
      clear hf a; intro a hf
      refine st_end ?_
      refine x_then_n ?_
      refine cond_f hf rfl (decide_eq_false (by omega)) ?_
      refine wp_exit ?_
      refine x_then_exit ?_
      refine x_then_exit ?_
      refine x_blk_hit ?_
      refine x_then_n ?_
      refine wp_seq ?_
      refine wp_region_lit ?_
      refine st_y hf rfl rfl rfl (y_loadN (cs := [(.int .i64 (f.params)), (.int .i64 (f.slots)), (.slice p0_1 f.ins.length c0_1)]) Try.isAgg29 Try.sizeOf29 rfl rfl (hm.blk_at 0 rfl)) ?_
      clear hf a; intro a hf
      refine st_y hf rfl rfl rfl (y_move rfl rfl) ?_
      clear hf a; intro a hf
      obtain ⟨r0_4, hx0_4, hq⟩ := bnd hq
      refine st_ef hf rfl rfl rfl (e_call hf rfl Try.call31 rfl (spec_l24Drop_ok _ f (.slice p0_1 f.ins.length c0_1) (hm.now h1) xs0_1 (.slice p0_2 ys0_1.length c0_2) (hm.ow_rep 2 rfl) _ hx0_4)) ?_
      clear hf a; rintro _ w0_7 a ⟨v0_3, rfl, hB⟩ hf
      replace hm := hm.give hB; clear hB
      refine st_ef0 hf rfl rfl (e_storeN 2 hf hm rfl Try.sizeOf29 rfl rfl rfl (one_cons rfl (one_cons rfl (one_cons (rep_one (hm.ow_rep 0 rfl)) one_nil))) rfl rfl) ?_
      clear hf a; rintro _ w0_8 a hm hf
      refine st_end ?_
      refine x_then_n ?_
      refine wp_ret ?_
      obtain rfl := Option.some.inj hq
      refine ret_cell 2 hf Try.results11 hm rfl rfl Try.isAgg29 Try.sizeOf29 ?_
      exact ⟨v0_3, rfl, hm.pick [0] (by decide) rfl⟩

theorem impl_jumpOp_ok (w0 : World) (op : Int) (r : Bool) (hq : impl_jumpOp op = some r) :
    Con Try.prog 34 [(.int .i64 (op))] w0 (fun v w' => v = (.bool (r)) ∧ Below w0.heap.size w0 w') := by
  unfold impl_jumpOp at hq
  refine con_body (l := [(0, (.int .i64 (op)))]) Try.func34 rfl Try.ntmps34 (Args.get ⟨rfl, trivial⟩) rfl ?_
  intro a hf
  have hm := Mem.start w0
  refine wp_seq ?_
  refine wp_region_lit ?_
  refine st_y hf rfl rfl rfl (y_assign rfl rfl) ?_
  clear hf a; intro a hf
  refine st_end ?_
  refine x_then_n ?_
  refine wp_seq ?_
  obtain ⟨s0_1, hq0_1, hq⟩ := bnd hq
  refine code_cut (K := fun a w => Fr 9 [(2, (.bool (s0_1)))] a ∧ Mem w0 (hp w0) w []) ?_ ?_
  ·
    refine wp_region_lit ?_
    refine st_y hf rfl rfl rfl (y_move rfl rfl) ?_
    clear hf a; intro a hf
    refine st_y hf rfl rfl rfl (y_eql rfl rfl rfl) ?_
    clear hf a; intro a hf
    refine st_y hf rfl rfl rfl (y_move rfl rfl) ?_
    clear hf a; intro a hf
    rcases bcases (decide (op = 20)) with h1_1 | h1_1
    ·
      replace hq0_1 := (ite_t h1_1).symm.trans hq0_1
      have h1_2 := of_decide_eq_true h1_1
      refine st_no hf rfl rfl (lk_b rfl h1_1) rfl rfl rfl ?_
      clear hf a; intro a hf
      refine st_no hf rfl rfl (lk_b rfl h1_1) rfl rfl rfl ?_
      clear hf a; intro a hf
      refine st_y hf rfl rfl rfl (y_pick_t rfl (ev_b rfl h1_1) rfl) ?_
      clear hf a; intro a hf
      refine st_y hf rfl rfl rfl (y_assign rfl rfl) ?_
      clear hf a; intro a hf
      refine st_end ?_
      refine x_then_n ?_
      obtain rfl := Option.some.inj hq0_1
      exact ⟨hf.sub ⟨rfl, trivial⟩, hm.pick [] (by decide) rfl⟩
    ·
      replace hq0_1 := (ite_f h1_1).symm.trans hq0_1
      have h1_3 := of_decide_eq_false h1_1
      refine st_yg hf rfl rfl (lk_b rfl h1_1) rfl rfl (y_move rfl rfl) ?_
      clear hf a; intro a hf
      refine st_yg hf rfl rfl (lk_b rfl h1_1) rfl rfl (y_eql rfl rfl rfl) ?_
      clear hf a; intro a hf
      refine st_y hf rfl rfl rfl (y_pick_f rfl (ev_b rfl h1_1) rfl) ?_
      clear hf a; intro a hf
      refine st_y hf rfl rfl rfl (y_assign rfl rfl) ?_
      clear hf a; intro a hf
      refine st_end ?_
      refine x_then_n ?_
      obtain rfl := Option.some.inj hq0_1
      exact ⟨hf.sub ⟨rfl, trivial⟩, hm.pick [] (by decide) rfl⟩
  ·
    clear hf hm
    rintro a w ⟨hf, hm⟩
    refine x_then_n ?_
    refine wp_ret ?_
    obtain rfl := Option.some.inj hq
    refine ret_tmp hf Try.results34 rfl ?_
    exact ⟨rfl, hm.below⟩

theorem impl_within_ok (w0 : World) (n_ : Int) (low : Int) (high : Int) (r : Bool) (hq : impl_within n_ low high = some r) :
    Con Try.prog 27 [(.int .i64 (n_)), (.int .i64 (low)), (.int .i64 (high))] w0 (fun v w' => v = (.bool (r)) ∧ Below w0.heap.size w0 w') := by
  unfold impl_within at hq
  refine con_body (l := [(0, (.int .i64 (n_))), (1, (.int .i64 (low))), (2, (.int .i64 (high)))]) Try.func27 rfl Try.ntmps27 (Args.get ⟨rfl, rfl, rfl, trivial⟩) rfl ?_
  intro a hf
  have hm := Mem.start w0
  refine wp_seq ?_
  refine wp_region_lit ?_
  refine st_y hf rfl rfl rfl (y_assign rfl rfl) ?_
  clear hf a; intro a hf
  refine st_end ?_
  refine x_then_n ?_
  refine wp_seq ?_
  obtain ⟨s0_1, hq0_1, hq⟩ := bnd hq
  refine code_cut (K := fun a w => Fr 15 [(6, (.bool (s0_1)))] a ∧ Mem w0 (hp w0) w []) ?_ ?_
  ·
    refine wp_region_lit ?_
    refine st_y hf rfl rfl rfl (y_move rfl rfl) ?_
    clear hf a; intro a hf
    refine st_y hf rfl rfl rfl (y_move rfl rfl) ?_
    clear hf a; intro a hf
    refine st_y hf rfl rfl rfl (y_leq rfl rfl rfl) ?_
    clear hf a; intro a hf
    refine st_y hf rfl rfl rfl (y_move rfl rfl) ?_
    clear hf a; intro a hf
    rcases bcases (decide (low ≤ n_)) with h1_1 | h1_1
    ·
      replace hq0_1 := (ite_t h1_1).symm.trans hq0_1
      have h1_2 := of_decide_eq_true h1_1
      refine st_yg hf rfl rfl (lk_b rfl h1_1) rfl rfl (y_move rfl rfl) ?_
      clear hf a; intro a hf
      refine st_yg hf rfl rfl (lk_b rfl h1_1) rfl rfl (y_move rfl rfl) ?_
      clear hf a; intro a hf
      refine st_yg hf rfl rfl (lk_b rfl h1_1) rfl rfl (y_leq rfl rfl rfl) ?_
      clear hf a; intro a hf
      refine st_y hf rfl rfl rfl (y_pick_t rfl (ev_b rfl h1_1) rfl) ?_
      clear hf a; intro a hf
      refine st_y hf rfl rfl rfl (y_assign rfl rfl) ?_
      clear hf a; intro a hf
      refine st_end ?_
      refine x_then_n ?_
      obtain rfl := Option.some.inj hq0_1
      exact ⟨hf.sub ⟨rfl, trivial⟩, hm.pick [] (by decide) rfl⟩
    ·
      replace hq0_1 := (ite_f h1_1).symm.trans hq0_1
      have h1_3 := of_decide_eq_false h1_1
      refine st_no hf rfl rfl (lk_b rfl h1_1) rfl rfl rfl ?_
      clear hf a; intro a hf
      refine st_no hf rfl rfl (lk_b rfl h1_1) rfl rfl rfl ?_
      clear hf a; intro a hf
      refine st_no hf rfl rfl (lk_b rfl h1_1) rfl rfl rfl ?_
      clear hf a; intro a hf
      refine st_y hf rfl rfl rfl (y_pick_f rfl (ev_b rfl h1_1) rfl) ?_
      clear hf a; intro a hf
      refine st_y hf rfl rfl rfl (y_assign rfl rfl) ?_
      clear hf a; intro a hf
      refine st_end ?_
      refine x_then_n ?_
      obtain rfl := Option.some.inj hq0_1
      exact ⟨hf.sub ⟨rfl, trivial⟩, hm.pick [] (by decide) rfl⟩
  ·
    clear hf hm
    rintro a w ⟨hf, hm⟩
    refine x_then_n ?_
    refine wp_ret ?_
    obtain rfl := Option.some.inj hq
    refine ret_tmp hf Try.results27 rfl ?_
    exact ⟨rfl, hm.below⟩

theorem impl_peepable_1_ok (w0 : World) (x_ : Mins) (c0_ : Int) (bf0 : Nat) (hbf0 : w0.heap[bf0]? = some (.cells ([(.int .i64 (c0_))] : List Value).toArray 3 (0, 0))) (r : Bool) (hq : impl_peepable_1 x_ c0_ = some r) :
    Con Try.prog 44 [(.agg #[(.int .i64 (x_.op)), (.int .i64 (x_.a_)), (.int .i64 (x_.b)), (.int .i64 (x_.c)), (.int .i64 (x_.n_))]), (.pointer (some ⟨bf0, 0, none⟩))] w0 (fun v w' => v = (.bool (r)) ∧ Below w0.heap.size w0 w') := by
  unfold impl_peepable_1 at hq
  refine con_body (l := [(0, (.agg #[(.int .i64 (x_.op)), (.int .i64 (x_.a_)), (.int .i64 (x_.b)), (.int .i64 (x_.c)), (.int .i64 (x_.n_))])), (1, (.pointer (some ⟨bf0, 0, none⟩)))]) Try.func44 rfl Try.ntmps44 (Args.get ⟨rfl, rfl, trivial⟩) rfl ?_
  intro a hf
  have hm := Mem.start w0
  refine wp_seq ?_
  refine wp_region_lit ?_
  refine st_ef hf rfl rfl rfl (e_box hf hm rfl rfl rfl) ?_
  clear hf a; rintro _ w0_1 a ⟨b0_1, rfl, hm⟩ hf
  refine st_y hf rfl rfl rfl (y_assign rfl rfl) ?_
  clear hf a; intro a hf
  refine st_end ?_
  refine x_then_n ?_
  refine wp_seq ?_
  obtain ⟨s0_1, hq0_1, hq⟩ := bnd hq
  refine code_cut (K := fun a w => Fr 15 [(3, (.bool (s0_1)))] a ∧ Mem w0 (hp w0) w []) ?_ ?_
  ·
    refine wp_region_lit ?_
    refine st_y hf rfl rfl rfl (y_fieldAddr fo_50_0 rfl rfl) ?_
    clear hf a; intro a hf
    refine st_y hf rfl rfl rfl (y_load1 Try.isAgg3 rfl rfl (hm.blk_cell 0 rfl rfl)) ?_
    clear hf a; intro a hf
    obtain ⟨r1_1, hx1_1, hq0_1⟩ := bnd hq0_1
    refine st_ef hf rfl rfl rfl (e_call hf rfl Try.call34 rfl (impl_jumpOp_ok _ x_.op _ hx1_1)) ?_
    clear hf a; rintro _ w1_1 a ⟨rfl, hB⟩ hf
    replace hm := hm.below' hB; clear hB
    refine st_y hf rfl rfl rfl (y_move rfl rfl) ?_
    clear hf a; intro a hf
    rcases bcases (r1_1) with h1_1 | h1_1
    ·
      replace hq0_1 := (ite_t h1_1).symm.trans hq0_1
      refine st_yg hf rfl rfl (lk_b rfl h1_1) rfl rfl (y_fieldAddr fo_50_4 rfl rfl) ?_
      clear hf a; intro a hf
      refine st_yg hf rfl rfl (lk_b rfl h1_1) rfl rfl (y_load1 Try.isAgg3 rfl rfl (hm.blk_cell 0 rfl rfl)) ?_
      clear hf a; intro a hf
      refine st_yg hf rfl rfl (lk_b rfl h1_1) rfl rfl (y_load1 Try.isAgg3 rfl rfl (hm.old_cell hbf0 rfl)) ?_
      clear hf a; intro a hf
      refine st_yg hf rfl rfl (lk_b rfl h1_1) rfl rfl (y_subw rfl rfl rfl) ?_
      clear hf a; intro a hf
      obtain ⟨r1_2, hx1_2, hq0_1⟩ := bnd hq0_1
      refine st_efg hf rfl rfl (lk_b rfl h1_1) rfl rfl (e_call hf rfl Try.call27 rfl (impl_within_ok _ x_.n_ 0 (w64 (c0_ - 1)) _ hx1_2)) ?_
      clear hf a; rintro _ w1_2 a ⟨rfl, hB⟩ hf
      replace hm := hm.below' hB; clear hB
      refine st_yg hf rfl rfl (lk_b rfl h1_1) rfl rfl (y_not rfl rfl) ?_
      clear hf a; intro a hf
      refine st_y hf rfl rfl rfl (y_pick_t rfl (ev_b rfl h1_1) rfl) ?_
      clear hf a; intro a hf
      refine st_y hf rfl rfl rfl (y_assign rfl rfl) ?_
      clear hf a; intro a hf
      refine st_end ?_
      refine x_then_n ?_
      obtain rfl := Option.some.inj hq0_1
      exact ⟨hf.sub ⟨rfl, trivial⟩, hm.pick [] (by decide) rfl⟩
    ·
      replace hq0_1 := (ite_f h1_1).symm.trans hq0_1
      refine st_no hf rfl rfl (lk_b rfl h1_1) rfl rfl rfl ?_
      clear hf a; intro a hf
      refine st_no hf rfl rfl (lk_b rfl h1_1) rfl rfl rfl ?_
      clear hf a; intro a hf
      refine st_no hf rfl rfl (lk_b rfl h1_1) rfl rfl rfl ?_
      clear hf a; intro a hf
      refine st_no hf rfl rfl (lk_b rfl h1_1) rfl rfl rfl ?_
      clear hf a; intro a hf
      refine st_no hf rfl rfl (lk_b rfl h1_1) rfl rfl rfl ?_
      clear hf a; intro a hf
      refine st_no hf rfl rfl (lk_b rfl h1_1) rfl rfl rfl ?_
      clear hf a; intro a hf
      refine st_y hf rfl rfl rfl (y_pick_f rfl (ev_b rfl h1_1) rfl) ?_
      clear hf a; intro a hf
      refine st_y hf rfl rfl rfl (y_assign rfl rfl) ?_
      clear hf a; intro a hf
      refine st_end ?_
      refine x_then_n ?_
      obtain rfl := Option.some.inj hq0_1
      exact ⟨hf.sub ⟨rfl, trivial⟩, hm.pick [] (by decide) rfl⟩
  ·
    clear hf hm
    rintro a w ⟨hf, hm⟩
    refine x_then_n ?_
    refine wp_ret ?_
    obtain rfl := Option.some.inj hq
    refine ret_tmp hf Try.results44 rfl ?_
    exact ⟨rfl, hm.below⟩

theorem slices_IndexFunc_S_impl_Mins_impl_Mins_ok (w0 : World) (s_ : List Mins) (v1 : Value) (h1 : GT.rep (hp w0) [v1] s_) (f : Mins → Option Bool) (fv2 : Value) (hfn2 : ∀ (w : World) (y0 : Mins) (r : Bool), Below w0.heap.size w0 w → f y0 = some r → FnOk Try.prog fv2 [(.agg #[(.int .i64 (y0.op)), (.int .i64 (y0.a_)), (.int .i64 (y0.b)), (.int .i64 (y0.c)), (.int .i64 (y0.n_))])] w (fun v w' => v = (.bool (r)) ∧ Below w.heap.size w w')) (r : Int) (hq : slices_IndexFunc_S_impl_Mins_impl_Mins s_ f = some r) :
    Con Try.prog 50 [v1, fv2] w0 (fun v w' => v = (.int .i64 (r)) ∧ Below w0.heap.size w0 w') := by
  unfold slices_IndexFunc_S_impl_Mins_impl_Mins at hq
  refine con_body (l := [(0, v1), (1, fv2)]) Try.func50 rfl Try.ntmps50 (Args.get ⟨rfl, rfl, trivial⟩) rfl ?_
  intro a hf
  have hm := Mem.start w0
  refine wp_seq ?_
  refine wp_region_lit ?_
  refine st_y hf rfl rfl rfl (y_assign rfl rfl) ?_
  clear hf a; intro a hf
  refine st_end ?_
  refine x_then_n ?_
  refine wp_seq ?_
  refine wp_seq ?_
  refine wp_region_lit ?_
  refine st_y hf rfl rfl rfl (y_move rfl rfl) ?_
  clear hf a; intro a hf
  obtain ⟨p0_1, c0_1, he, hl0_1⟩ := ro_slice (hm.now h1)
  subst he
  refine st_y hf rfl rfl rfl (y_len_slice st_27.und rfl rfl) ?_
  clear hf a; intro a hf
  refine st_y hf rfl rfl rfl (y_move rfl rfl) ?_
  clear hf a; intro a hf
  refine st_end ?_
  refine x_then_n ?_
  refine wp_block ?_
  obtain ⟨r0_1, hl0_2, hq⟩ := bnd hq
  refine wp_forN _ (fun i1_1 xs1_1 a w => Fr 19 [(0, (.slice p0_1 s_.length c0_1)), (1, fv2), (7, (.int .i64 ((s_.length : Int)))), (8, (.int .i64 (i1_1)))] a ∧ Mem w0 (hp w0) w []) (0) ((s_.length : Int)) hl0_2 ?_ ?_ ?_
  ·
    exact ⟨hf.sub ⟨rfl, rfl, rfl, rfl, trivial⟩, hm.pick [] (by decide) rfl⟩
  ·
    clear hf hm
    rintro i1_1 xs1_1 a w ⟨hf, hm⟩ hi1_1 hi1_2 q0_1 hb0_1 ho0_1
    refine wp_seq ?_
    refine wp_region_lit ?_
    refine st_y hf rfl rfl rfl (y_lss rfl rfl rfl) ?_
    clear hf a; intro a hf
    refine st_end ?_
    refine x_then_n ?_
    refine wp_seq ?_
    refine cond_t hf rfl (decide_eq_true (by omega)) ?_
    refine wp_skip ?_
    refine x_then_n ?_
    refine wp_seq ?_
    refine wp_block ?_
    refine wp_seq ?_
    refine wp_region_lit ?_
    refine st_y hf rfl rfl rfl (y_move rfl rfl) ?_
    clear hf a; intro a hf
    refine st_y hf rfl rfl rfl (y_assign rfl rfl) ?_
    clear hf a; intro a hf
    refine st_end ?_
    refine x_then_n ?_
    refine wp_seq ?_
    refine wp_region_lit ?_
    refine st_y hf rfl rfl rfl (y_move rfl rfl) ?_
    clear hf a; intro a hf
    refine st_y hf rfl rfl rfl (y_move rfl rfl) ?_
    clear hf a; intro a hf
    refine st_y hf rfl rfl rfl (y_move rfl rfl) ?_
    clear hf a; intro a hf
    obtain ⟨x1_1, hx1_1, hb0_1⟩ := bnd hb0_1
    obtain ⟨h1_1, hx1_2⟩ := getI_some.1 hx1_1
    obtain ⟨b1_1, o1_1, c1_1, he⟩ := idx_form h1 hx1_2
    simp only [Value.slice.injEq, Option.some.injEq] at he; obtain ⟨rfl, _, rfl⟩ := he
    refine st_y hf rfl rfl rfl (y_indexAddr st_27 rfl rfl rfl h1_1 (idx_lt hx1_2)) ?_
    clear hf a; intro a hf
    refine st_y hf rfl rfl rfl (y_loadN (cs := [(.int .i64 (x1_1.op)), (.int .i64 (x1_1.a_)), (.int .i64 (x1_1.b)), (.int .i64 (x1_1.c)), (.int .i64 (x1_1.n_))]) Try.isAgg50 Try.sizeOf50 rfl rfl (flat_cells (cs := [(.int .i64 (x1_1.op)), (.int .i64 (x1_1.a_)), (.int .i64 (x1_1.b)), (.int .i64 (x1_1.c)), (.int .i64 (x1_1.n_))]) (hm.now h1) hx1_2 rfl)) ?_
    clear hf a; intro a hf
    obtain ⟨r1_1, hx1_3, hb0_1⟩ := bnd hb0_1
    refine st_ef hf rfl rfl rfl (e_callv hf rfl rfl rfl (hfn2 _ x1_1 _ hm.below hx1_3)) ?_
    clear hf a; rintro _ w1_1 a ⟨rfl, hB⟩ hf
    replace hm := hm.below' hB; clear hB
    refine st_end ?_
    refine x_then_n ?_
    rcases bcases (r1_1) with h1_2 | h1_2
    ·
      replace hb0_1 := (ite_t h1_2).symm.trans hb0_1
      refine cond_t hf rfl h1_2 ?_
      refine wp_seq ?_
      refine wp_region_lit ?_
      refine st_y hf rfl rfl rfl (y_move rfl rfl) ?_
      clear hf a; intro a hf
      refine st_y hf rfl rfl rfl (y_assign rfl rfl) ?_
      clear hf a; intro a hf
      refine st_end ?_
      refine x_then_n ?_
      refine wp_ret ?_
      refine x_blk_ret ?_
      refine x_then_ret ?_
      refine x_then_ret ?_
      refine x_blk_ret ?_
      refine x_then_ret ?_
      obtain rfl := Option.some.inj hb0_1
      obtain rfl := ho0_1 _ rfl
      replace hq := sum_r hq
      obtain rfl := Option.some.inj hq
      refine ret_tmp hf Try.results50 rfl ?_
      exact ⟨rfl, hm.below⟩
    ·
      replace hb0_1 := (ite_f h1_2).symm.trans hb0_1
      refine cond_f hf rfl h1_2 ?_
      refine wp_skip ?_
      refine x_blk_n ?_
      refine x_then_n ?_
      refine wp_region_lit ?_
      refine st_y hf rfl rfl rfl (y_add64 rfl rfl rfl (by omega) (by omega)) ?_
      clear hf a; intro a hf
      refine st_y hf rfl rfl rfl (y_move rfl rfl) ?_
      clear hf a; intro a hf
      refine st_end ?_
      refine x_then_n ?_
      obtain rfl := Option.some.inj hb0_1
      exact ⟨_, rfl, hf.sub ⟨rfl, rfl, rfl, rfl, trivial⟩, hm.pick [] (by decide) rfl⟩
  ·
    clear hf hm
    rintro i0_1 xs0_1 a w ⟨hf, hm⟩ hi0_1 hi0_2 rfl
    replace hq := sum_l hq
    refine wp_seq ?_
    refine wp_region_lit ?_
    refine st_y hf rfl rfl rfl (y_lss rfl rfl rfl) ?_
    clear hf a; intro a hf
    refine st_end ?_
    refine x_then_n ?_
    refine wp_seq ?_
    refine cond_f hf rfl (decide_eq_false (by omega)) ?_
    refine wp_exit ?_
    refine x_then_exit ?_
    refine x_then_exit ?_
    refine x_blk_hit ?_
    refine x_then_n ?_
    refine wp_seq ?_
    refine wp_region_lit ?_
    refine st_y hf rfl rfl rfl (y_assign rfl rfl) ?_
    clear hf a; intro a hf
    refine st_end ?_
    refine x_then_n ?_
    refine wp_ret ?_
    obtain rfl := Option.some.inj hq
    refine ret_tmp hf Try.results50 rfl ?_
    exact ⟨rfl, hm.below⟩

theorem slices_ContainsFunc_S_impl_Mins_impl_Mins_ok (w0 : World) (s_ : List Mins) (v1 : Value) (h1 : GT.rep (hp w0) [v1] s_) (f : Mins → Option Bool) (fv2 : Value) (hfn2 : ∀ (w : World) (y0 : Mins) (r : Bool), Below w0.heap.size w0 w → f y0 = some r → FnOk Try.prog fv2 [(.agg #[(.int .i64 (y0.op)), (.int .i64 (y0.a_)), (.int .i64 (y0.b)), (.int .i64 (y0.c)), (.int .i64 (y0.n_))])] w (fun v w' => v = (.bool (r)) ∧ Below w.heap.size w w')) (r : Bool) (hq : slices_ContainsFunc_S_impl_Mins_impl_Mins s_ f = some r) :
    Con Try.prog 43 [v1, fv2] w0 (fun v w' => v = (.bool (r)) ∧ Below w0.heap.size w0 w') := by
  unfold slices_ContainsFunc_S_impl_Mins_impl_Mins at hq
  refine con_body (l := [(0, v1), (1, fv2)]) Try.func43 rfl Try.ntmps43 (Args.get ⟨rfl, rfl, trivial⟩) rfl ?_
  intro a hf
  have hm := Mem.start w0
  refine wp_seq ?_
  refine wp_region_lit ?_
  refine st_y hf rfl rfl rfl (y_assign rfl rfl) ?_
  clear hf a; intro a hf
  refine st_end ?_
  refine x_then_n ?_
  refine wp_seq ?_
  refine wp_region_lit ?_
  refine st_y hf rfl rfl rfl (y_move rfl rfl) ?_
  clear hf a; intro a hf
  refine st_y hf rfl rfl rfl (y_move rfl rfl) ?_
  clear hf a; intro a hf
  obtain ⟨r0_1, hx0_1, hq⟩ := bnd hq
  refine st_ef hf rfl rfl rfl (e_call hf rfl Try.call50 rfl (slices_IndexFunc_S_impl_Mins_impl_Mins_ok _ s_ v1 (hm.now h1) f fv2 (fun w y0 r hB hq => hfn2 w y0 r (hm.below.trans (hB.mono hm.below.size)) hq) _ hx0_1)) ?_
  clear hf a; rintro _ w0_1 a ⟨rfl, hB⟩ hf
  replace hm := hm.below' hB; clear hB
  refine st_y hf rfl rfl rfl (y_geq rfl rfl rfl) ?_
  clear hf a; intro a hf
  refine st_y hf rfl rfl rfl (y_assign rfl rfl) ?_
  clear hf a; intro a hf
  refine st_end ?_
  refine x_then_n ?_
  refine wp_ret ?_
  obtain rfl := Option.some.inj hq
  refine ret_tmp hf Try.results43 rfl ?_
  exact ⟨rfl, hm.below⟩

theorem impl_peepable_ok (w0 : World) (f : Mfn) (v1 : Value) (h1 : GT.rep (hp w0) [v1] f.ins) (r : Bool) (hq : impl_peepable f = some r) :
    Con Try.prog 26 [(.agg #[(.int .i64 (f.params)), (.int .i64 (f.slots)), v1])] w0 (fun v w' => v = (.bool (r)) ∧ Below w0.heap.size w0 w') := by
  unfold impl_peepable at hq
  refine con_body (l := [(0, (.agg #[(.int .i64 (f.params)), (.int .i64 (f.slots)), v1]))]) Try.func26 rfl Try.ntmps26 (Args.get ⟨rfl, trivial⟩) rfl ?_
  intro a hf
  have hm := Mem.start w0
  refine wp_seq ?_
  refine wp_region_lit ?_
  refine st_ef hf rfl rfl rfl (e_box hf hm rfl rfl rfl) ?_
  clear hf a; rintro _ w0_1 a ⟨b0_1, rfl, hm⟩ hf
  refine st_y hf rfl rfl rfl (y_assign rfl rfl) ?_
  clear hf a; intro a hf
  refine st_end ?_
  refine x_then_n ?_
  refine wp_seq ?_
  refine wp_region_lit ?_
  refine st_y hf rfl rfl rfl (y_fieldAddr fo_29_2 rfl rfl) ?_
  clear hf a; intro a hf
  refine st_y hf rfl rfl rfl (y_load1 Try.isAgg27 rfl rfl (hm.blk_cell 0 rfl rfl)) ?_
  clear hf a; intro a hf
  obtain ⟨p0_1, c0_1, he, hl0_1⟩ := ro_slice (hm.now h1)
  subst he
  refine st_y hf rfl rfl rfl (y_len_slice st_27.und rfl rfl) ?_
  clear hf a; intro a hf
  refine st_ef hf rfl rfl rfl (e_alloc hm Try.zeroValue3 rfl rfl) ?_
  clear hf a; rintro _ w0_2 a ⟨b0_2, rfl, hm⟩ hf
  refine st_ef0 hf rfl rfl (e_store1 0 hf hm rfl Try.sizeOf3 rfl rfl rfl rfl rfl) ?_
  clear hf a; rintro _ w0_3 a hm hf
  refine st_end ?_
  refine x_then_n ?_
  refine wp_seq ?_
  obtain ⟨s0_1, hq0_1, hq⟩ := bnd hq
  refine code_cut (K := fun a w => Fr 36 [(2, (.bool (s0_1)))] a ∧ Mem w0 (hp w0) w []) ?_ ?_
  ·
    refine wp_region_lit ?_
    refine st_y hf rfl rfl rfl (y_load1 Try.isAgg3 rfl rfl (hm.blk_cell 0 rfl rfl)) ?_
    clear hf a; intro a hf
    refine st_y hf rfl rfl rfl (y_gtr rfl rfl rfl) ?_
    clear hf a; intro a hf
    refine st_y hf rfl rfl rfl (y_move rfl rfl) ?_
    clear hf a; intro a hf
    rcases bcases (decide (0 < ((f.ins.length : Int)))) with h1_1 | h1_1
    ·
      replace hq0_1 := (ite_t h1_1).symm.trans hq0_1
      have h1_2 := of_decide_eq_true h1_1
      refine st_yg hf rfl rfl (lk_b rfl h1_1) rfl rfl (y_fieldAddr fo_29_2 rfl rfl) ?_
      clear hf a; intro a hf
      refine st_yg hf rfl rfl (lk_b rfl h1_1) rfl rfl (y_load1 Try.isAgg27 rfl rfl (hm.blk_cell 1 rfl rfl)) ?_
      clear hf a; intro a hf
      refine st_yg hf rfl rfl (lk_b rfl h1_1) rfl rfl (y_load1 Try.isAgg3 rfl rfl (hm.blk_cell 0 rfl rfl)) ?_
      clear hf a; intro a hf
      refine st_yg hf rfl rfl (lk_b rfl h1_1) rfl rfl (y_sub64 rfl rfl rfl (by omega) (by omega)) ?_
      clear hf a; intro a hf
      obtain ⟨x1_1, hx1_1, hq0_1⟩ := bnd hq0_1
      obtain ⟨h1_3, hx1_2⟩ := getI_some.1 hx1_1
      obtain ⟨b1_1, o1_1, c1_1, he⟩ := idx_form h1 hx1_2
      simp only [Value.slice.injEq, Option.some.injEq] at he; obtain ⟨rfl, _, rfl⟩ := he
      refine st_yg hf rfl rfl (lk_b rfl h1_1) rfl rfl (y_indexAddr st_27 rfl rfl rfl h1_3 (idx_lt hx1_2)) ?_
      clear hf a; intro a hf
      refine st_yg hf rfl rfl (lk_b rfl h1_1) rfl rfl (y_fieldAddr fo_50_0 rfl rfl) ?_
      clear hf a; intro a hf
      refine st_yg hf rfl rfl (lk_b rfl h1_1) rfl rfl (y_load1 Try.isAgg3 rfl rfl ((flat_cells (cs := [(.int .i64 (x1_1.op)), (.int .i64 (x1_1.a_)), (.int .i64 (x1_1.b)), (.int .i64 (x1_1.c)), (.int .i64 (x1_1.n_))]) (hm.now h1) hx1_2 rfl).cell (j := 0) rfl)) ?_
      clear hf a; intro a hf
      refine st_yg hf rfl rfl (lk_b rfl h1_1) rfl rfl (y_eql rfl rfl rfl) ?_
      clear hf a; intro a hf
      refine st_yg hf rfl rfl (lk_b rfl h1_1) rfl rfl (y_move rfl rfl) ?_
      clear hf a; intro a hf
      rcases bcases (decide (x1_1.op = 20)) with h1_4 | h1_4
      ·
        replace hq0_1 := (ite_t h1_4).symm.trans hq0_1
        have h1_5 := of_decide_eq_true h1_4
        refine st_no hf rfl rfl (lk_b rfl h1_4) rfl rfl rfl ?_
        clear hf a; intro a hf
        refine st_no hf rfl rfl (lk_b rfl h1_4) rfl rfl rfl ?_
        clear hf a; intro a hf
        refine st_no hf rfl rfl (lk_b rfl h1_4) rfl rfl rfl ?_
        clear hf a; intro a hf
        refine st_no hf rfl rfl (lk_b rfl h1_4) rfl rfl rfl ?_
        clear hf a; intro a hf
        refine st_no hf rfl rfl (lk_b rfl h1_4) rfl rfl rfl ?_
        clear hf a; intro a hf
        refine st_no hf rfl rfl (lk_b rfl h1_4) rfl rfl rfl ?_
        clear hf a; intro a hf
        refine st_no hf rfl rfl (lk_b rfl h1_4) rfl rfl rfl ?_
        clear hf a; intro a hf
        refine st_no hf rfl rfl (lk_b rfl h1_4) rfl rfl rfl ?_
        clear hf a; intro a hf
        refine st_yg hf rfl rfl (lk_b rfl h1_1) rfl rfl (y_pick_t rfl (ev_b rfl h1_4) rfl) ?_
        clear hf a; intro a hf
        refine st_y hf rfl rfl rfl (y_pick_t rfl (ev_b rfl h1_1) rfl) ?_
        clear hf a; intro a hf
        refine st_y hf rfl rfl rfl (y_move rfl rfl) ?_
        clear hf a; intro a hf
        refine st_yg hf rfl rfl (lk_b rfl rfl) rfl rfl (y_fieldAddr fo_29_2 rfl rfl) ?_
        clear hf a; intro a hf
        refine st_yg hf rfl rfl (lk_b rfl rfl) rfl rfl (y_load1 Try.isAgg27 rfl rfl (hm.blk_cell 1 rfl rfl)) ?_
        clear hf a; intro a hf
        refine st_yg hf rfl rfl (lk_b rfl rfl) rfl rfl (y_makeFunc rfl rfl) ?_
        clear hf a; intro a hf
        obtain ⟨r1_1, hx1_3, hq0_1⟩ := bnd hq0_1
        refine st_efg hf rfl rfl (lk_b rfl rfl) rfl rfl (e_call hf rfl Try.call43 rfl (slices_ContainsFunc_S_impl_Mins_impl_Mins_ok _ f.ins (.slice (some ⟨b1_1, o1_1, none⟩) f.ins.length c0_1) (hm.now h1) (fun y0 => impl_peepable_1 y0 (f.ins.length : Int)) (.func (.func 44) #[] #[(.pointer (some ⟨b0_2, 0, none⟩))]) (fun w y0 r hB hq => ⟨44, [(.pointer (some ⟨b0_2, 0, none⟩))], rfl, Try.call44, impl_peepable_1_ok w y0 (f.ins.length : Int) b0_2 (hm.blk_later 0 rfl hB) r hq⟩) _ hx1_3)) ?_
        clear hf a; rintro _ w1_1 a ⟨rfl, hB⟩ hf
        replace hm := hm.below' hB; clear hB
        refine st_yg hf rfl rfl (lk_b rfl rfl) rfl rfl (y_not rfl rfl) ?_
        clear hf a; intro a hf
        refine st_y hf rfl rfl rfl (y_pick_t rfl (ev_b rfl rfl) rfl) ?_
        clear hf a; intro a hf
        refine st_y hf rfl rfl rfl (y_assign rfl rfl) ?_
        clear hf a; intro a hf
        refine st_end ?_
        refine x_then_n ?_
        obtain rfl := Option.some.inj hq0_1
        exact ⟨hf.sub ⟨rfl, trivial⟩, hm.pick [] (by decide) rfl⟩
      ·
        replace hq0_1 := (ite_f h1_4).symm.trans hq0_1
        have h1_6 := of_decide_eq_false h1_4
        refine st_yg hf rfl rfl (lk_b rfl h1_4) rfl rfl (y_fieldAddr fo_29_2 rfl rfl) ?_
        clear hf a; intro a hf
        refine st_yg hf rfl rfl (lk_b rfl h1_4) rfl rfl (y_load1 Try.isAgg27 rfl rfl (hm.blk_cell 1 rfl rfl)) ?_
        clear hf a; intro a hf
        refine st_yg hf rfl rfl (lk_b rfl h1_4) rfl rfl (y_load1 Try.isAgg3 rfl rfl (hm.blk_cell 0 rfl rfl)) ?_
        clear hf a; intro a hf
        refine st_yg hf rfl rfl (lk_b rfl h1_4) rfl rfl (y_sub64 rfl rfl rfl (by omega) (by omega)) ?_
        clear hf a; intro a hf
        refine st_yg hf rfl rfl (lk_b rfl h1_4) rfl rfl (y_indexAddr st_27 rfl rfl rfl h1_3 (idx_lt hx1_2)) ?_
        clear hf a; intro a hf
        refine st_yg hf rfl rfl (lk_b rfl h1_4) rfl rfl (y_fieldAddr fo_50_0 rfl rfl) ?_
        clear hf a; intro a hf
        refine st_yg hf rfl rfl (lk_b rfl h1_4) rfl rfl (y_load1 Try.isAgg3 rfl rfl ((flat_cells (cs := [(.int .i64 (x1_1.op)), (.int .i64 (x1_1.a_)), (.int .i64 (x1_1.b)), (.int .i64 (x1_1.c)), (.int .i64 (x1_1.n_))]) (hm.now h1) hx1_2 rfl).cell (j := 0) rfl)) ?_
        clear hf a; intro a hf
        refine st_yg hf rfl rfl (lk_b rfl h1_4) rfl rfl (y_eql rfl rfl rfl) ?_
        clear hf a; intro a hf
        refine st_yg hf rfl rfl (lk_b rfl h1_1) rfl rfl (y_pick_f rfl (ev_b rfl h1_4) rfl) ?_
        clear hf a; intro a hf
        refine st_y hf rfl rfl rfl (y_pick_t rfl (ev_b rfl h1_1) rfl) ?_
        clear hf a; intro a hf
        refine st_y hf rfl rfl rfl (y_move rfl rfl) ?_
        clear hf a; intro a hf
        rcases bcases (decide (x1_1.op = 22)) with h1_7 | h1_7
        ·
          replace hq0_1 := (ite_t h1_7).symm.trans hq0_1
          have h1_8 := of_decide_eq_true h1_7
          refine st_yg hf rfl rfl (lk_b rfl h1_7) rfl rfl (y_fieldAddr fo_29_2 rfl rfl) ?_
          clear hf a; intro a hf
          refine st_yg hf rfl rfl (lk_b rfl h1_7) rfl rfl (y_load1 Try.isAgg27 rfl rfl (hm.blk_cell 1 rfl rfl)) ?_
          clear hf a; intro a hf
          refine st_yg hf rfl rfl (lk_b rfl h1_7) rfl rfl (y_makeFunc rfl rfl) ?_
          clear hf a; intro a hf
          obtain ⟨r1_2, hx1_4, hq0_1⟩ := bnd hq0_1
          refine st_efg hf rfl rfl (lk_b rfl h1_7) rfl rfl (e_call hf rfl Try.call43 rfl (slices_ContainsFunc_S_impl_Mins_impl_Mins_ok _ f.ins (.slice (some ⟨b1_1, o1_1, none⟩) f.ins.length c0_1) (hm.now h1) (fun y0 => impl_peepable_1 y0 (f.ins.length : Int)) (.func (.func 44) #[] #[(.pointer (some ⟨b0_2, 0, none⟩))]) (fun w y0 r hB hq => ⟨44, [(.pointer (some ⟨b0_2, 0, none⟩))], rfl, Try.call44, impl_peepable_1_ok w y0 (f.ins.length : Int) b0_2 (hm.blk_later 0 rfl hB) r hq⟩) _ hx1_4)) ?_
          clear hf a; rintro _ w1_2 a ⟨rfl, hB⟩ hf
          replace hm := hm.below' hB; clear hB
          refine st_yg hf rfl rfl (lk_b rfl h1_7) rfl rfl (y_not rfl rfl) ?_
          clear hf a; intro a hf
          refine st_y hf rfl rfl rfl (y_pick_t rfl (ev_b rfl h1_7) rfl) ?_
          clear hf a; intro a hf
          refine st_y hf rfl rfl rfl (y_assign rfl rfl) ?_
          clear hf a; intro a hf
          refine st_end ?_
          refine x_then_n ?_
          obtain rfl := Option.some.inj hq0_1
          exact ⟨hf.sub ⟨rfl, trivial⟩, hm.pick [] (by decide) rfl⟩
        ·
          replace hq0_1 := (ite_f h1_7).symm.trans hq0_1
          have h1_9 := of_decide_eq_false h1_7
          refine st_no hf rfl rfl (lk_b rfl h1_7) rfl rfl rfl ?_
          clear hf a; intro a hf
          refine st_no hf rfl rfl (lk_b rfl h1_7) rfl rfl rfl ?_
          clear hf a; intro a hf
          refine st_no hf rfl rfl (lk_b rfl h1_7) rfl rfl rfl ?_
          clear hf a; intro a hf
          refine st_no hf rfl rfl (lk_b rfl h1_7) rfl rfl rfl ?_
          clear hf a; intro a hf
          refine st_no hf rfl rfl (lk_b rfl h1_7) rfl rfl rfl ?_
          clear hf a; intro a hf
          refine st_y hf rfl rfl rfl (y_pick_f rfl (ev_b rfl h1_7) rfl) ?_
          clear hf a; intro a hf
          refine st_y hf rfl rfl rfl (y_assign rfl rfl) ?_
          clear hf a; intro a hf
          refine st_end ?_
          refine x_then_n ?_
          obtain rfl := Option.some.inj hq0_1
          exact ⟨hf.sub ⟨rfl, trivial⟩, hm.pick [] (by decide) rfl⟩
    ·
      replace hq0_1 := (ite_f h1_1).symm.trans hq0_1
      have h1_10 := of_decide_eq_false h1_1
      refine st_no hf rfl rfl (lk_b rfl h1_1) rfl rfl rfl ?_
      clear hf a; intro a hf
      refine st_no hf rfl rfl (lk_b rfl h1_1) rfl rfl rfl ?_
      clear hf a; intro a hf
      refine st_no hf rfl rfl (lk_b rfl h1_1) rfl rfl rfl ?_
      clear hf a; intro a hf
      refine st_no hf rfl rfl (lk_b rfl h1_1) rfl rfl rfl ?_
      clear hf a; intro a hf
      refine st_no hf rfl rfl (lk_b rfl h1_1) rfl rfl rfl ?_
      clear hf a; intro a hf
      refine st_no hf rfl rfl (lk_b rfl h1_1) rfl rfl rfl ?_
      clear hf a; intro a hf
      refine st_no hf rfl rfl (lk_b rfl h1_1) rfl rfl rfl ?_
      clear hf a; intro a hf
      refine st_no hf rfl rfl (lk_b rfl h1_1) rfl rfl rfl ?_
      clear hf a; intro a hf
      refine st_no hf rfl rfl (lk_b rfl h1_1) rfl rfl rfl ?_
      clear hf a; intro a hf
      refine st_nou hf rfl rfl rfl rfl rfl ?_
      clear hf a; intro a hf
      refine st_nou hf rfl rfl rfl rfl rfl ?_
      clear hf a; intro a hf
      refine st_nou hf rfl rfl rfl rfl rfl ?_
      clear hf a; intro a hf
      refine st_nou hf rfl rfl rfl rfl rfl ?_
      clear hf a; intro a hf
      refine st_nou hf rfl rfl rfl rfl rfl ?_
      clear hf a; intro a hf
      refine st_nou hf rfl rfl rfl rfl rfl ?_
      clear hf a; intro a hf
      refine st_nou hf rfl rfl rfl rfl rfl ?_
      clear hf a; intro a hf
      refine st_nou hf rfl rfl rfl rfl rfl ?_
      clear hf a; intro a hf
      refine st_no hf rfl rfl (lk_b rfl h1_1) rfl rfl rfl ?_
      clear hf a; intro a hf
      refine st_y hf rfl rfl rfl (y_pick_f rfl (ev_b rfl h1_1) rfl) ?_
      clear hf a; intro a hf
      refine st_y hf rfl rfl rfl (y_move rfl rfl) ?_
      clear hf a; intro a hf
      refine st_no hf rfl rfl (lk_b rfl rfl) rfl rfl rfl ?_
      clear hf a; intro a hf
      refine st_no hf rfl rfl (lk_b rfl rfl) rfl rfl rfl ?_
      clear hf a; intro a hf
      refine st_no hf rfl rfl (lk_b rfl rfl) rfl rfl rfl ?_
      clear hf a; intro a hf
      refine st_no hf rfl rfl (lk_b rfl rfl) rfl rfl rfl ?_
      clear hf a; intro a hf
      refine st_no hf rfl rfl (lk_b rfl rfl) rfl rfl rfl ?_
      clear hf a; intro a hf
      refine st_y hf rfl rfl rfl (y_pick_f rfl (ev_b rfl rfl) rfl) ?_
      clear hf a; intro a hf
      refine st_y hf rfl rfl rfl (y_assign rfl rfl) ?_
      clear hf a; intro a hf
      refine st_end ?_
      refine x_then_n ?_
      obtain rfl := Option.some.inj hq0_1
      exact ⟨hf.sub ⟨rfl, trivial⟩, hm.pick [] (by decide) rfl⟩
  ·
    clear hf hm
    rintro a w ⟨hf, hm⟩
    refine x_then_n ?_
    refine wp_ret ?_
    obtain rfl := Option.some.inj hq
    refine ret_tmp hf Try.results26 rfl ?_
    exact ⟨rfl, hm.below⟩

theorem slices_Clone_S_impl_Mins_impl_Mins_ok (w0 : World) (s_ : List Mins) (v1 : Value) (h1 : GT.rep (hp w0) [v1] s_) (r : (List Mins)) (hq : slices_Clone_S_impl_Mins_impl_Mins s_ = some r) :
    Con Try.prog 46 [v1] w0 (fun v w' => ∃ (x1 : Value), v = x1 ∧ Mem w0 (hp w0) w' [ow [x1] r]) := by
  unfold slices_Clone_S_impl_Mins_impl_Mins at hq
  refine con_body (l := [(0, v1)]) Try.func46 rfl Try.ntmps46 (Args.get ⟨rfl, trivial⟩) rfl ?_
  intro a hf
  have hm := Mem.start w0
  refine wp_seq ?_
  refine wp_region_lit ?_
  refine st_y hf rfl rfl rfl (y_assign rfl rfl) ?_
  clear hf a; intro a hf
  refine st_end ?_
  refine x_then_n ?_
  refine wp_seq ?_
  refine wp_seq ?_
  refine wp_region_lit ?_
  refine st_y hf rfl rfl rfl (y_move rfl rfl) ?_
  clear hf a; intro a hf
  rcases nil_or h1 with ⟨he, h0_1⟩ | ⟨p0_1, c0_1, he⟩
  ·
    subst he; subst h0_1
    replace hq : some ([] : List Mins) = some r := by simpa [appM] using hq
    refine st_y hf rfl rfl rfl (y_eqnil_t st_27.und rfl rfl rfl) ?_
    clear hf a; intro a hf
    refine st_end ?_
    refine x_then_n ?_
    refine cond_t hf rfl rfl ?_
    refine wp_seq ?_
    refine wp_region_lit ?_
    refine st_y hf rfl rfl rfl (y_assign rfl rfl) ?_
    clear hf a; intro a hf
    refine st_end ?_
    refine x_then_n ?_
    refine wp_ret ?_
    refine x_then_ret ?_
    obtain rfl := Option.some.inj hq
    have hm := hm.nilow (α := Mins)
    refine ret_tmp hf Try.results46 rfl ?_
    exact ⟨(.slice none 0 0), rfl, hm.pick [0] (by decide) rfl⟩
  ·
    subst he
    refine st_y hf rfl rfl rfl (y_eqnil_f st_27.und rfl rfl rfl) ?_
    clear hf a; intro a hf
    refine st_end ?_
    refine x_then_n ?_
    refine cond_f hf rfl rfl ?_
    refine wp_skip ?_
    refine x_then_n ?_
    refine wp_seq ?_
    refine wp_region_lit ?_
    refine st_ef hf rfl rfl rfl (e_build0 (α := Mins) et_27 hm rfl) ?_
    clear hf a; rintro v0_1 w0_1 a hm hf
    refine st_y hf rfl rfl rfl (y_move rfl rfl) ?_
    clear hf a; intro a hf
    obtain ⟨ys0_1, hx0_1, hq⟩ := bnd hq
    obtain ⟨h0_2, h0_2e⟩ := appM_some.1 hx0_1
    refine st_ef hf rfl rfl rfl (e_append 0 et_27 hf hm rfl (hm.now h1) rfl rfl rfl h0_2) ?_
    clear hf a; rintro v0_2 w0_2 a hm hf
    rw [h0_2e] at hm
    refine st_y hf rfl rfl rfl (y_assign rfl rfl) ?_
    clear hf a; intro a hf
    refine st_end ?_
    refine x_then_n ?_
    refine wp_ret ?_
    obtain rfl := Option.some.inj hq
    refine ret_tmp hf Try.results46 rfl ?_
    exact ⟨v0_2, rfl, hm.pick [0] (by decide) rfl⟩

theorem impl_cloneMfn_ok (w0 : World) (f : Mfn) (v1 : Value) (h1 : GT.rep (hp w0) [v1] f.ins) (r : Mfn) (hq : impl_cloneMfn f = some r) :
    Con Try.prog 32 [(.agg #[(.int .i64 (f.params)), (.int .i64 (f.slots)), v1])] w0 (fun v w' => ∃ (x1 : Value), v = (.agg #[(.int .i64 (r.params)), (.int .i64 (r.slots)), x1]) ∧ Mem w0 (hp w0) w' [ow [x1] r.ins]) := by
  unfold impl_cloneMfn at hq
  refine con_body (l := [(0, (.agg #[(.int .i64 (f.params)), (.int .i64 (f.slots)), v1]))]) Try.func32 rfl Try.ntmps32 (Args.get ⟨rfl, trivial⟩) rfl ?_
  intro a hf
  have hm := Mem.start w0
  refine wp_seq ?_
  refine wp_region_lit ?_
  refine st_ef hf rfl rfl rfl (e_box hf hm rfl rfl rfl) ?_
  clear hf a; rintro _ w0_1 a ⟨b0_1, rfl, hm⟩ hf
  refine st_ef hf rfl rfl rfl (e_alloc hm Try.zeroValue29 rfl rfl) ?_
  clear hf a; rintro _ w0_2 a ⟨b0_2, rfl, hm⟩ hf
  refine st_end ?_
  refine x_then_n ?_
  refine wp_seq ?_
  refine wp_region_lit ?_
  refine st_y hf rfl rfl rfl (y_fieldAddr fo_29_2 rfl rfl) ?_
  clear hf a; intro a hf
  refine st_y hf rfl rfl rfl (y_load1 Try.isAgg27 rfl rfl (hm.blk_cell 1 rfl rfl)) ?_
  clear hf a; intro a hf
  obtain ⟨r0_1, hx0_1, hq⟩ := bnd hq
  refine st_ef hf rfl rfl rfl (e_call hf rfl Try.call46 rfl (slices_Clone_S_impl_Mins_impl_Mins_ok _ f.ins v1 (hm.now h1) _ hx0_1)) ?_
  clear hf a; rintro v0_1 w0_3 a ⟨_, rfl, hB⟩ hf
  replace hm := hm.give hB; clear hB
  refine st_y hf rfl rfl rfl (y_fieldAddr fo_29_2 rfl rfl) ?_
  clear hf a; intro a hf
  refine st_ef0 hf rfl rfl (e_store1 2 hf hm rfl Try.sizeOf27 rfl rfl rfl (rep_one (hm.ow_rep 0 rfl)) rfl) ?_
  clear hf a; rintro _ w0_4 a hm hf
  refine st_end ?_
  refine x_then_n ?_
  refine wp_seq ?_
  refine wp_region_lit ?_
  refine st_y hf rfl rfl rfl (y_loadN (cs := [(.int .i64 (f.params)), (.int .i64 (f.slots)), v0_1]) Try.isAgg29 Try.sizeOf29 rfl rfl (hm.blk_at 2 rfl)) ?_
  clear hf a; intro a hf
  refine st_ef0 hf rfl rfl (e_storeN 1 hf hm rfl Try.sizeOf29 rfl rfl rfl (one_cons rfl (one_cons rfl (one_cons (rep_one (hm.ow_rep 0 rfl)) one_nil))) rfl rfl) ?_
  clear hf a; rintro _ w0_5 a hm hf
  refine st_end ?_
  refine x_then_n ?_
  refine wp_ret ?_
  obtain rfl := Option.some.inj hq
  refine ret_cell 1 hf Try.results32 hm rfl rfl Try.isAgg29 Try.sizeOf29 ?_
  exact ⟨v0_1, rfl, hm.pick [0] (by decide) rfl⟩

theorem slices_Index_S_int_int_ok (w0 : World) (s_ : List Int) (v1 : Value) (h1 : GT.rep (hp w0) [v1] s_) (v_ : Int) (r : Int) (hq : slices_Index_S_int_int s_ v_ = some r) :
    Con Try.prog 47 [v1, (.int .i64 (v_))] w0 (fun v w' => v = (.int .i64 (r)) ∧ Below w0.heap.size w0 w') := by
  unfold slices_Index_S_int_int at hq
  refine con_body (l := [(0, v1), (1, (.int .i64 (v_)))]) Try.func47 rfl Try.ntmps47 (Args.get ⟨rfl, rfl, trivial⟩) rfl ?_
  intro a hf
  have hm := Mem.start w0
  refine wp_seq ?_
  refine wp_region_lit ?_
  refine st_y hf rfl rfl rfl (y_assign rfl rfl) ?_
  clear hf a; intro a hf
  refine st_end ?_
  refine x_then_n ?_
  refine wp_seq ?_
  refine wp_seq ?_
  refine wp_region_lit ?_
  refine st_y hf rfl rfl rfl (y_move rfl rfl) ?_
  clear hf a; intro a hf
  obtain ⟨p0_1, c0_1, he, hl0_1⟩ := ro_slice (hm.now h1)
  subst he
  refine st_y hf rfl rfl rfl (y_len_slice st_33.und rfl rfl) ?_
  clear hf a; intro a hf
  refine st_y hf rfl rfl rfl (y_move rfl rfl) ?_
  clear hf a; intro a hf
  refine st_end ?_
  refine x_then_n ?_
  refine wp_block ?_
  obtain ⟨r0_1, hl0_2, hq⟩ := bnd hq
  refine wp_forN _ (fun i1_1 xs1_1 a w => Fr 19 [(0, (.slice p0_1 s_.length c0_1)), (1, (.int .i64 (v_))), (7, (.int .i64 ((s_.length : Int)))), (8, (.int .i64 (i1_1)))] a ∧ Mem w0 (hp w0) w []) (0) ((s_.length : Int)) hl0_2 ?_ ?_ ?_
  ·
    exact ⟨hf.sub ⟨rfl, rfl, rfl, rfl, trivial⟩, hm.pick [] (by decide) rfl⟩
  ·
    clear hf hm
    rintro i1_1 xs1_1 a w ⟨hf, hm⟩ hi1_1 hi1_2 q0_1 hb0_1 ho0_1
    refine wp_seq ?_
    refine wp_region_lit ?_
    refine st_y hf rfl rfl rfl (y_lss rfl rfl rfl) ?_
    clear hf a; intro a hf
    refine st_end ?_
    refine x_then_n ?_
    refine wp_seq ?_
    refine cond_t hf rfl (decide_eq_true (by omega)) ?_
    refine wp_skip ?_
    refine x_then_n ?_
    refine wp_seq ?_
    refine wp_block ?_
    refine wp_seq ?_
    refine wp_region_lit ?_
    refine st_y hf rfl rfl rfl (y_move rfl rfl) ?_
    clear hf a; intro a hf
    refine st_y hf rfl rfl rfl (y_assign rfl rfl) ?_
    clear hf a; intro a hf
    refine st_end ?_
    refine x_then_n ?_
    refine wp_seq ?_
    refine wp_region_lit ?_
    refine st_y hf rfl rfl rfl (y_move rfl rfl) ?_
    clear hf a; intro a hf
    refine st_y hf rfl rfl rfl (y_move rfl rfl) ?_
    clear hf a; intro a hf
    refine st_y hf rfl rfl rfl (y_move rfl rfl) ?_
    clear hf a; intro a hf
    obtain ⟨x1_1, hx1_1, hb0_1⟩ := bnd hb0_1
    obtain ⟨h1_1, hx1_2⟩ := getI_some.1 hx1_1
    obtain ⟨b1_1, o1_1, c1_1, he⟩ := idx_form h1 hx1_2
    simp only [Value.slice.injEq, Option.some.injEq] at he; obtain ⟨rfl, _, rfl⟩ := he
    refine st_y hf rfl rfl rfl (y_indexAddr st_33 rfl rfl rfl h1_1 (idx_lt hx1_2)) ?_
    clear hf a; intro a hf
    refine st_y hf rfl rfl rfl (y_load1 Try.isAgg3 rfl rfl ((flat_cells (cs := [(.int .i64 (x1_1))]) (hm.now h1) hx1_2 rfl).cell (j := 0) rfl)) ?_
    clear hf a; intro a hf
    refine st_y hf rfl rfl rfl (y_eql rfl rfl rfl) ?_
    clear hf a; intro a hf
    refine st_end ?_
    refine x_then_n ?_
    rcases bcases (decide (v_ = x1_1)) with h1_2 | h1_2
    ·
      replace hb0_1 := (ite_t h1_2).symm.trans hb0_1
      have h1_3 := of_decide_eq_true h1_2
      refine cond_t hf rfl h1_2 ?_
      refine wp_seq ?_
      refine wp_region_lit ?_
      refine st_y hf rfl rfl rfl (y_move rfl rfl) ?_
      clear hf a; intro a hf
      refine st_y hf rfl rfl rfl (y_assign rfl rfl) ?_
      clear hf a; intro a hf
      refine st_end ?_
      refine x_then_n ?_
      refine wp_ret ?_
      refine x_blk_ret ?_
      refine x_then_ret ?_
      refine x_then_ret ?_
      refine x_blk_ret ?_
      refine x_then_ret ?_
      obtain rfl := Option.some.inj hb0_1
      obtain rfl := ho0_1 _ rfl
      replace hq := sum_r hq
      obtain rfl := Option.some.inj hq
      refine ret_tmp hf Try.results47 rfl ?_
      exact ⟨rfl, hm.below⟩
    ·
      replace hb0_1 := (ite_f h1_2).symm.trans hb0_1
      have h1_4 := of_decide_eq_false h1_2
      refine cond_f hf rfl h1_2 ?_
      refine wp_skip ?_
      refine x_blk_n ?_
      refine x_then_n ?_
      refine wp_region_lit ?_
      refine st_y hf rfl rfl rfl (y_add64 rfl rfl rfl (by omega) (by omega)) ?_
      clear hf a; intro a hf
      refine st_y hf rfl rfl rfl (y_move rfl rfl) ?_
      clear hf a; intro a hf
      refine st_end ?_
      refine x_then_n ?_
      obtain rfl := Option.some.inj hb0_1
      exact ⟨_, rfl, hf.sub ⟨rfl, rfl, rfl, rfl, trivial⟩, hm.pick [] (by decide) rfl⟩
  ·
    clear hf hm
    rintro i0_1 xs0_1 a w ⟨hf, hm⟩ hi0_1 hi0_2 rfl
    replace hq := sum_l hq
    refine wp_seq ?_
    refine wp_region_lit ?_
    refine st_y hf rfl rfl rfl (y_lss rfl rfl rfl) ?_
    clear hf a; intro a hf
    refine st_end ?_
    refine x_then_n ?_
    refine wp_seq ?_
    refine cond_f hf rfl (decide_eq_false (by omega)) ?_
    refine wp_exit ?_
    refine x_then_exit ?_
    refine x_then_exit ?_
    refine x_blk_hit ?_
    refine x_then_n ?_
    refine wp_seq ?_
    refine wp_region_lit ?_
    refine st_y hf rfl rfl rfl (y_assign rfl rfl) ?_
    clear hf a; intro a hf
    refine st_end ?_
    refine x_then_n ?_
    refine wp_ret ?_
    obtain rfl := Option.some.inj hq
    refine ret_tmp hf Try.results47 rfl ?_
    exact ⟨rfl, hm.below⟩

theorem slices_Contains_S_int_int_ok (w0 : World) (s_ : List Int) (v1 : Value) (h1 : GT.rep (hp w0) [v1] s_) (v_ : Int) (r : Bool) (hq : slices_Contains_S_int_int s_ v_ = some r) :
    Con Try.prog 33 [v1, (.int .i64 (v_))] w0 (fun v w' => v = (.bool (r)) ∧ Below w0.heap.size w0 w') := by
  unfold slices_Contains_S_int_int at hq
  refine con_body (l := [(0, v1), (1, (.int .i64 (v_)))]) Try.func33 rfl Try.ntmps33 (Args.get ⟨rfl, rfl, trivial⟩) rfl ?_
  intro a hf
  have hm := Mem.start w0
  refine wp_seq ?_
  refine wp_region_lit ?_
  refine st_y hf rfl rfl rfl (y_assign rfl rfl) ?_
  clear hf a; intro a hf
  refine st_end ?_
  refine x_then_n ?_
  refine wp_seq ?_
  refine wp_region_lit ?_
  refine st_y hf rfl rfl rfl (y_move rfl rfl) ?_
  clear hf a; intro a hf
  refine st_y hf rfl rfl rfl (y_move rfl rfl) ?_
  clear hf a; intro a hf
  obtain ⟨r0_1, hx0_1, hq⟩ := bnd hq
  refine st_ef hf rfl rfl rfl (e_call hf rfl Try.call47 rfl (slices_Index_S_int_int_ok _ s_ v1 (hm.now h1) v_ _ hx0_1)) ?_
  clear hf a; rintro _ w0_1 a ⟨rfl, hB⟩ hf
  replace hm := hm.below' hB; clear hB
  refine st_y hf rfl rfl rfl (y_geq rfl rfl rfl) ?_
  clear hf a; intro a hf
  refine st_y hf rfl rfl rfl (y_assign rfl rfl) ?_
  clear hf a; intro a hf
  refine st_end ?_
  refine x_then_n ?_
  refine wp_ret ?_
  obtain rfl := Option.some.inj hq
  refine ret_tmp hf Try.results33 rfl ?_
  exact ⟨rfl, hm.below⟩

theorem impl_DropMins_ok (w0 : World) (f : Mfn) (v1 : Value) (h1 : GT.rep (hp w0) [v1] f.ins) (list : List Int) (v2 : Value) (h2 : GT.rep (hp w0) [v2] list) (r : Mfn) (hq : impl_DropMins f list = some r) :
    Con Try.prog 13 [(.agg #[(.int .i64 (f.params)), (.int .i64 (f.slots)), v1]), v2] w0 (fun v w' => ∃ (x1 : Value), v = (.agg #[(.int .i64 (r.params)), (.int .i64 (r.slots)), x1]) ∧ Mem w0 (hp w0) w' [ow [x1] r.ins]) := by
  unfold impl_DropMins at hq
  refine con_body (l := [(0, (.agg #[(.int .i64 (f.params)), (.int .i64 (f.slots)), v1])), (1, v2)]) Try.func13 rfl Try.ntmps13 (Args.get ⟨rfl, rfl, trivial⟩) rfl ?_
  intro a hf
  have hm := Mem.start w0
  refine wp_seq ?_
  refine wp_region_lit ?_
  refine st_ef hf rfl rfl rfl (e_box hf hm rfl rfl rfl) ?_
  clear hf a; rintro _ w0_1 a ⟨b0_1, rfl, hm⟩ hf
  refine st_ef hf rfl rfl rfl (e_alloc hm Try.zeroValue29 rfl rfl) ?_
  clear hf a; rintro _ w0_2 a ⟨b0_2, rfl, hm⟩ hf
  refine st_end ?_
  refine x_then_n ?_
  refine wp_seq ?_
  refine wp_seq ?_
  refine wp_region_lit ?_
  refine st_y hf rfl rfl rfl (y_loadN (cs := [(.int .i64 (f.params)), (.int .i64 (f.slots)), v1]) Try.isAgg29 Try.sizeOf29 rfl rfl (hm.blk_at 1 rfl)) ?_
  clear hf a; intro a hf
  obtain ⟨r0_1, hx0_1, hq⟩ := bnd hq
  refine st_ef hf rfl rfl rfl (e_call hf rfl Try.call26 rfl (impl_peepable_ok _ f v1 (hm.now h1) _ hx0_1)) ?_
  clear hf a; rintro _ w0_3 a ⟨rfl, hB⟩ hf
  replace hm := hm.below' hB; clear hB
  refine st_y hf rfl rfl rfl (y_not rfl rfl) ?_
  clear hf a; intro a hf
  refine st_end ?_
  refine x_then_n ?_
  rcases bcases (!(r0_1)) with h0_1 | h0_1
  ·
    replace hq := (ite_t h0_1).symm.trans hq
    have h0_2 := bnot_t' h0_1
    refine cond_t hf rfl h0_1 ?_
    refine wp_seq ?_
    refine wp_region_lit ?_
    refine st_y hf rfl rfl rfl (y_loadN (cs := [(.int .i64 (f.params)), (.int .i64 (f.slots)), v1]) Try.isAgg29 Try.sizeOf29 rfl rfl (hm.blk_at 1 rfl)) ?_
    clear hf a; intro a hf
    obtain ⟨r0_2, hx0_2, hq⟩ := bnd hq
    refine st_ef hf rfl rfl rfl (e_call hf rfl Try.call32 rfl (impl_cloneMfn_ok _ f v1 (hm.now h1) _ hx0_2)) ?_
    clear hf a; rintro _ w0_4 a ⟨v0_1, rfl, hB⟩ hf
    replace hm := hm.give hB; clear hB
    refine st_ef0 hf rfl rfl (e_storeN 1 hf hm rfl Try.sizeOf29 rfl rfl rfl (one_cons rfl (one_cons rfl (one_cons (rep_one (hm.ow_rep 0 rfl)) one_nil))) rfl rfl) ?_
    clear hf a; rintro _ w0_5 a hm hf
    refine st_end ?_
    refine x_then_n ?_
    refine wp_ret ?_
    refine x_then_ret ?_
    obtain rfl := Option.some.inj hq
    refine ret_cell 1 hf Try.results13 hm rfl rfl Try.isAgg29 Try.sizeOf29 ?_
    exact ⟨v0_1, rfl, hm.pick [0] (by decide) rfl⟩
  ·
    replace hq := (ite_f h0_1).symm.trans hq
    have h0_3 := bnot_f' h0_1
    refine cond_f hf rfl h0_1 ?_
    refine wp_skip ?_
    refine x_then_n ?_
    refine wp_seq ?_
    refine wp_region_lit ?_
    refine st_y hf rfl rfl rfl (y_fieldAddr fo_29_0 rfl rfl) ?_
    clear hf a; intro a hf
    refine st_y hf rfl rfl rfl (y_load1 Try.isAgg3 rfl rfl (hm.blk_cell 1 rfl rfl)) ?_
    clear hf a; intro a hf
    refine st_y hf rfl rfl rfl (y_fieldAddr fo_29_1 rfl rfl) ?_
    clear hf a; intro a hf
    refine st_y hf rfl rfl rfl (y_load1 Try.isAgg3 rfl rfl (hm.blk_cell 1 rfl rfl)) ?_
    clear hf a; intro a hf
    refine st_y hf rfl rfl rfl (y_build (vs := [(0, (.int .i64 (f.params))), (1, (.int .i64 (f.slots)))]) (cs := #[(.int .i64 (f.params)), (.int .i64 (f.slots)), (.slice none 0 0)]) rfl rfl (by kernel_rfl)) ?_
    clear hf a; intro a hf
    refine st_ef hf rfl rfl rfl (e_alloc hm Try.zeroValue29 rfl rfl) ?_
    clear hf a; rintro _ w0_6 a ⟨b0_3, rfl, hm⟩ hf
    refine st_ef0 hf rfl rfl (e_storeN 0 hf hm rfl Try.sizeOf29 rfl rfl rfl (one_cons rfl (one_cons rfl (one_cons rfl one_nil))) rfl rfl) ?_
    clear hf a; rintro _ w0_7 a hm hf
    refine st_end ?_
    refine x_then_n ?_
    refine wp_seq ?_
    refine wp_region_lit ?_
    refine st_y hf rfl rfl rfl (y_fieldAddr fo_29_2 rfl rfl) ?_
    clear hf a; intro a hf
    refine st_y hf rfl rfl rfl (y_load1 Try.isAgg27 rfl rfl (hm.blk_cell 2 rfl rfl)) ?_
    clear hf a; intro a hf
    obtain ⟨p0_1, c0_1, he, hl0_1⟩ := ro_slice (hm.now h1)
    subst he
    refine st_y hf rfl rfl rfl (y_len_slice st_27.und rfl rfl) ?_
    clear hf a; intro a hf
    obtain ⟨ys0_1, hx0_3, hq⟩ := bnd hq
    obtain ⟨⟨h0_41, h0_42⟩, h0_4e⟩ := makeM_some.1 hx0_3
    refine st_ef hf rfl rfl rfl (e_make (x0 := (0 : Int)) et_33 (fun _ => Flat.own_iff.2 rfl) hf hm rfl rfl rfl h0_41 (Int.le_refl _) h0_42) ?_
    clear hf a; rintro v0_2 w0_8 a hm hf
    rw [h0_4e] at hm
    have h0_4l : (ys0_1.length : Int) = (f.ins.length : Int) := by rw [← h0_4e]; simp only [List.length_replicate]; omega
    refine st_y hf rfl rfl rfl (y_assign rfl rfl) ?_
    clear hf a; intro a hf
    refine st_end ?_
    refine x_then_n ?_
    refine wp_seq ?_
    refine wp_seq ?_
    refine wp_region_lit ?_
    refine st_y hf rfl rfl rfl (y_fieldAddr fo_29_2 rfl rfl) ?_
    clear hf a; intro a hf
    refine st_y hf rfl rfl rfl (y_load1 Try.isAgg27 rfl rfl (hm.blk_cell 3 rfl rfl)) ?_
    clear hf a; intro a hf
    refine st_y hf rfl rfl rfl (y_len_slice st_27.und rfl rfl) ?_
    clear hf a; intro a hf
    refine st_y hf rfl rfl rfl (y_move rfl rfl) ?_
    clear hf a; intro a hf
    refine st_end ?_
    refine x_then_n ?_
    obtain ⟨p0_2, c0_2, he, hl0_2⟩ := ro_slice (hm.ow_rep 0 rfl)
    subst he
    refine wp_block ?_
    obtain ⟨r0_3, hl0_3, hq⟩ := bnd hq
    refine wp_forN _ (fun i1_1 xs1_1 a w => ∃ (v1_1 : Value), Fr 81 [(1, v2), (2, (.pointer (some ⟨b0_1, 0, none⟩))), (4, (.pointer (some ⟨b0_2, 0, none⟩))), (5, (.pointer (some ⟨b0_3, 0, none⟩))), (6, (.slice p0_2 ys0_1.length c0_2)), (26, (.slice p0_1 f.ins.length c0_1)), (27, (.int .i64 ((f.ins.length : Int)))), (28, (.int .i64 (i1_1)))] a ∧ Mem w0 (hp w0) w [blk b0_1 [(.int .i64 (f.params)), (.int .i64 (f.slots)), (.slice p0_1 f.ins.length c0_1)] 29, blk b0_2 [(.int .i64 (0)), (.int .i64 (0)), (.slice none 0 0)] 29, blk b0_3 [(.int .i64 (f.params)), (.int .i64 (f.slots)), v1_1] 29, ow [v1_1] xs1_1.1, ow [(.slice p0_2 ys0_1.length c0_2)] xs1_1.2]) (0) ((f.ins.length : Int)) hl0_3 ?_ ?_ ?_
    ·
      have hm := hm.nilow (α := Mins)
      exact ⟨(.slice none 0 0), hf.sub ⟨rfl, rfl, rfl, rfl, rfl, rfl, rfl, rfl, trivial⟩, hm.pick [4, 3, 2, 0, 1] (by decide) rfl⟩
    ·
      clear hf hm
      rintro i1_1 xs1_1 a w ⟨v1_1, hf, hm⟩ hi1_1 hi1_2 q0_1 hb0_1 ho0_1
      refine wp_seq ?_
      refine wp_region_lit ?_
      refine st_y hf rfl rfl rfl (y_lss rfl rfl rfl) ?_
      clear hf a; intro a hf
      refine st_end ?_
      refine x_then_n ?_
      refine wp_seq ?_
      refine cond_t hf rfl (decide_eq_true (by omega)) ?_
      refine wp_skip ?_
      refine x_then_n ?_
      refine wp_seq ?_
      obtain ⟨s1_1, hq1_1, hb0_1⟩ := bnd hb0_1
      refine code_cut (K := fun a w => ∃ (v1_2 : Value), Fr 81 [(1, v2), (2, (.pointer (some ⟨b0_1, 0, none⟩))), (4, (.pointer (some ⟨b0_2, 0, none⟩))), (5, (.pointer (some ⟨b0_3, 0, none⟩))), (6, (.slice p0_2 ys0_1.length c0_2)), (26, (.slice p0_1 f.ins.length c0_1)), (27, (.int .i64 ((f.ins.length : Int)))), (28, (.int .i64 (i1_1)))] a ∧ Mem w0 (hp w0) w [blk b0_1 [(.int .i64 (f.params)), (.int .i64 (f.slots)), (.slice p0_1 f.ins.length c0_1)] 29, blk b0_2 [(.int .i64 (0)), (.int .i64 (0)), (.slice none 0 0)] 29, blk b0_3 [(.int .i64 (f.params)), (.int .i64 (f.slots)), v1_2] 29, ow [v1_2] s1_1, ow [(.slice p0_2 ys0_1.length c0_2)] (xs1_1.2.set (i1_1).toNat (xs1_1.1.length : Int))]) ?_ ?_
      ·
        refine wp_block ?_
        refine wp_seq ?_
        refine wp_region_lit ?_
        refine st_y hf rfl rfl rfl (y_move rfl rfl) ?_
        clear hf a; intro a hf
        obtain ⟨x2_1, hx2_1, hq1_1⟩ := bnd hq1_1
        obtain ⟨h2_1, hx2_2⟩ := getI_some.1 hx2_1
        obtain ⟨b2_1, o2_1, c2_1, he⟩ := idx_form h1 hx2_2
        simp only [Value.slice.injEq, Option.some.injEq] at he; obtain ⟨rfl, _, rfl⟩ := he
        refine st_y hf rfl rfl rfl (y_indexAddr st_27 rfl rfl rfl h2_1 (idx_lt hx2_2)) ?_
        clear hf a; intro a hf
        refine st_y hf rfl rfl rfl (y_loadN (cs := [(.int .i64 (x2_1.op)), (.int .i64 (x2_1.a_)), (.int .i64 (x2_1.b)), (.int .i64 (x2_1.c)), (.int .i64 (x2_1.n_))]) Try.isAgg50 Try.sizeOf50 rfl rfl (flat_cells (cs := [(.int .i64 (x2_1.op)), (.int .i64 (x2_1.a_)), (.int .i64 (x2_1.b)), (.int .i64 (x2_1.c)), (.int .i64 (x2_1.n_))]) (hm.now h1) hx2_2 rfl)) ?_
        clear hf a; intro a hf
        refine st_ef hf rfl rfl rfl (e_alloc hm Try.zeroValue50 rfl rfl) ?_
        clear hf a; rintro _ w2_1 a ⟨b2_2, rfl, hm⟩ hf
        refine st_y hf rfl rfl rfl (y_assign rfl rfl) ?_
        clear hf a; intro a hf
        refine st_ef0 hf rfl rfl (e_storeN 0 hf hm rfl Try.sizeOf50 rfl rfl rfl (one_cons rfl (one_cons rfl (one_cons rfl (one_cons rfl (one_cons rfl one_nil))))) rfl rfl) ?_
        clear hf a; rintro _ w2_2 a hm hf
        refine st_end ?_
        refine x_then_n ?_
        refine wp_seq ?_
        refine wp_region_lit ?_
        refine st_y hf rfl rfl rfl (y_move rfl rfl) ?_
        clear hf a; intro a hf
        refine st_y hf rfl rfl rfl (y_move rfl rfl) ?_
        clear hf a; intro a hf
        refine st_y hf rfl rfl rfl (y_fieldAddr fo_29_2 rfl rfl) ?_
        clear hf a; intro a hf
        refine st_y hf rfl rfl rfl (y_load1 Try.isAgg27 rfl rfl (hm.blk_cell 3 rfl rfl)) ?_
        clear hf a; intro a hf
        obtain ⟨p2_1, c2_2, he, hl2_1⟩ := ro_slice (hm.ow_rep 4 rfl)
        subst he
        refine st_y hf rfl rfl rfl (y_len_slice st_27.und rfl rfl) ?_
        clear hf a; intro a hf
        obtain ⟨x2_2, hx2_3, hq1_1⟩ := bnd hq1_1
        obtain ⟨h2_2, hx2_4⟩ := getI_some.1 hx2_3
        obtain ⟨b2_3, o2_2, c2_3, he⟩ := idx_form (hm.ow_rep 5 rfl) hx2_4
        simp only [Value.slice.injEq, Option.some.injEq] at he; obtain ⟨rfl, _, rfl⟩ := he
        refine st_y hf rfl rfl rfl (y_indexAddr st_33 rfl rfl rfl h2_2 (idx_lt2 hx2_4 (rep_slice_len (hm.ow_rep 5 rfl)))) ?_
        clear hf a; intro a hf
        refine st_ef0 hf rfl rfl (e_setElem (x1 := (xs1_1.1.length : Int)) (j := 0) (vs := [(.int .i64 ((xs1_1.1.length : Int)))]) 5 hf hm rfl hx2_4 rfl Try.sizeOf3 rfl rfl rfl (one_cons rfl one_nil) rfl rfl) ?_
        clear hf a; rintro _ w2_3 a hm hf
        have hx2_5 := List.getElem?_set_self (a := (xs1_1.1.length : Int)) (idx_lt hx2_4)
        refine st_end ?_
        refine x_then_n ?_
        refine wp_seq ?_
        obtain ⟨s2_1, hq2_1, hq1_1⟩ := bnd hq1_1
        refine code_cut (K := fun a w => Fr 81 [(1, v2), (2, (.pointer (some ⟨b0_1, 0, none⟩))), (4, (.pointer (some ⟨b0_2, 0, none⟩))), (5, (.pointer (some ⟨b0_3, 0, none⟩))), (6, (.slice (some ⟨b2_3, o2_2, none⟩) ys0_1.length c0_2)), (8, (.pointer (some ⟨b2_2, 0, none⟩))), (26, (.slice (some ⟨b2_1, o2_1, none⟩) f.ins.length c0_1)), (27, (.int .i64 ((f.ins.length : Int)))), (28, (.int .i64 (i1_1))), (50, (.bool (s2_1)))] a ∧ Mem w0 (hp w0) w [blk b0_1 [(.int .i64 (f.params)), (.int .i64 (f.slots)), (.slice (some ⟨b2_1, o2_1, none⟩) f.ins.length c0_1)] 29, blk b0_2 [(.int .i64 (0)), (.int .i64 (0)), (.slice none 0 0)] 29, blk b0_3 [(.int .i64 (f.params)), (.int .i64 (f.slots)), (.slice p2_1 xs1_1.1.length c2_2)] 29, ow [(.slice p2_1 xs1_1.1.length c2_2)] xs1_1.1, ow [(.slice (some ⟨b2_3, o2_2, none⟩) ys0_1.length c0_2)] (xs1_1.2.set (i1_1).toNat (xs1_1.1.length : Int)), blk b2_2 [(.int .i64 (x2_1.op)), (.int .i64 (x2_1.a_)), (.int .i64 (x2_1.b)), (.int .i64 (x2_1.c)), (.int .i64 (x2_1.n_))] 50]) ?_ ?_
        ·
          refine wp_region_lit ?_
          refine st_y hf rfl rfl rfl (y_move rfl rfl) ?_
          clear hf a; intro a hf
          refine st_y hf rfl rfl rfl (y_fieldAddr fo_29_2 rfl rfl) ?_
          clear hf a; intro a hf
          refine st_y hf rfl rfl rfl (y_load1 Try.isAgg27 rfl rfl (hm.blk_cell 1 rfl rfl)) ?_
          clear hf a; intro a hf
          refine st_y hf rfl rfl rfl (y_len_slice st_27.und rfl rfl) ?_
          clear hf a; intro a hf
          refine st_y hf rfl rfl rfl (y_sub64 rfl rfl rfl (by omega) (by omega)) ?_
          clear hf a; intro a hf
          refine st_y hf rfl rfl rfl (y_eql rfl rfl rfl) ?_
          clear hf a; intro a hf
          refine st_y hf rfl rfl rfl (y_move rfl rfl) ?_
          clear hf a; intro a hf
          rcases bcases (decide (i1_1 = (((f.ins.length : Int)) - 1))) with h3_1 | h3_1
          ·
            replace hq2_1 := (ite_t h3_1).symm.trans hq2_1
            have h3_2 := of_decide_eq_true h3_1
            refine st_no hf rfl rfl (lk_b rfl h3_1) rfl rfl rfl ?_
            clear hf a; intro a hf
            refine st_no hf rfl rfl (lk_b rfl h3_1) rfl rfl rfl ?_
            clear hf a; intro a hf
            refine st_no hf rfl rfl (lk_b rfl h3_1) rfl rfl rfl ?_
            clear hf a; intro a hf
            refine st_no hf rfl rfl (lk_b rfl h3_1) rfl rfl rfl ?_
            clear hf a; intro a hf
            refine st_y hf rfl rfl rfl (y_pick_t rfl (ev_b rfl h3_1) rfl) ?_
            clear hf a; intro a hf
            refine st_end ?_
            refine x_then_n ?_
            obtain rfl := Option.some.inj hq2_1
            exact ⟨hf.sub ⟨rfl, rfl, rfl, rfl, rfl, rfl, rfl, rfl, rfl, rfl, trivial⟩, hm.pick [1, 2, 3, 4, 5, 0] (by decide) rfl⟩
          ·
            replace hq2_1 := (ite_f h3_1).symm.trans hq2_1
            have h3_3 := of_decide_eq_false h3_1
            refine st_yg hf rfl rfl (lk_b rfl h3_1) rfl rfl (y_move rfl rfl) ?_
            clear hf a; intro a hf
            refine st_yg hf rfl rfl (lk_b rfl h3_1) rfl rfl (y_move rfl rfl) ?_
            clear hf a; intro a hf
            obtain ⟨r3_1, hx3_1, hq2_1⟩ := bnd hq2_1
            refine st_efg hf rfl rfl (lk_b rfl h3_1) rfl rfl (e_call hf rfl Try.call33 rfl (slices_Contains_S_int_int_ok _ list v2 (hm.now h2) i1_1 _ hx3_1)) ?_
            clear hf a; rintro _ w3_1 a ⟨rfl, hB⟩ hf
            replace hm := hm.below' hB; clear hB
            refine st_yg hf rfl rfl (lk_b rfl h3_1) rfl rfl (y_not rfl rfl) ?_
            clear hf a; intro a hf
            refine st_y hf rfl rfl rfl (y_pick_f rfl (ev_b rfl h3_1) rfl) ?_
            clear hf a; intro a hf
            refine st_end ?_
            refine x_then_n ?_
            obtain rfl := Option.some.inj hq2_1
            exact ⟨hf.sub ⟨rfl, rfl, rfl, rfl, rfl, rfl, rfl, rfl, rfl, rfl, trivial⟩, hm.pick [1, 2, 3, 4, 5, 0] (by decide) rfl⟩
        ·
          clear hf hm
          rintro a w ⟨hf, hm⟩
          refine x_then_n ?_
          obtain ⟨s2_2, hq2_2, hq1_1⟩ := bnd hq1_1
          refine code_cut (K := fun a w => ∃ (v2_1 : Value), Fr 81 [(1, v2), (2, (.pointer (some ⟨b0_1, 0, none⟩))), (4, (.pointer (some ⟨b0_2, 0, none⟩))), (5, (.pointer (some ⟨b0_3, 0, none⟩))), (6, (.slice (some ⟨b2_3, o2_2, none⟩) ys0_1.length c0_2)), (26, (.slice (some ⟨b2_1, o2_1, none⟩) f.ins.length c0_1)), (27, (.int .i64 ((f.ins.length : Int)))), (28, (.int .i64 (i1_1)))] a ∧ Mem w0 (hp w0) w [blk b0_1 [(.int .i64 (f.params)), (.int .i64 (f.slots)), (.slice (some ⟨b2_1, o2_1, none⟩) f.ins.length c0_1)] 29, blk b0_2 [(.int .i64 (0)), (.int .i64 (0)), (.slice none 0 0)] 29, blk b0_3 [(.int .i64 (f.params)), (.int .i64 (f.slots)), v2_1] 29, ow [v2_1] s2_2, ow [(.slice (some ⟨b2_3, o2_2, none⟩) ys0_1.length c0_2)] (xs1_1.2.set (i1_1).toNat (xs1_1.1.length : Int))]) ?_ ?_
          ·
            rcases bcases (s2_1) with h3_4 | h3_4
            ·
              replace hq2_2 := (ite_t h3_4).symm.trans hq2_2
              refine cond_t hf rfl h3_4 ?_
              refine wp_region_lit ?_
              refine st_y hf rfl rfl rfl (y_fieldAddr fo_29_2 rfl rfl) ?_
              clear hf a; intro a hf
              refine st_y hf rfl rfl rfl (y_load1 Try.isAgg27 rfl rfl (hm.blk_cell 2 rfl rfl)) ?_
              clear hf a; intro a hf
              refine st_y hf rfl rfl rfl (y_loadN (cs := [(.int .i64 (x2_1.op)), (.int .i64 (x2_1.a_)), (.int .i64 (x2_1.b)), (.int .i64 (x2_1.c)), (.int .i64 (x2_1.n_))]) Try.isAgg50 Try.sizeOf50 rfl rfl (hm.blk_at 5 rfl)) ?_
              clear hf a; intro a hf
              refine st_ef hf rfl rfl rfl (e_build (vs := #[(0, (.agg #[(.int .i64 (x2_1.op)), (.int .i64 (x2_1.a_)), (.int .i64 (x2_1.b)), (.int .i64 (x2_1.c)), (.int .i64 (x2_1.n_))]))]) (cs := [(.int .i64 (x2_1.op)), (.int .i64 (x2_1.a_)), (.int .i64 (x2_1.b)), (.int .i64 (x2_1.c)), (.int .i64 (x2_1.n_))]) et_27 hf hm rfl rfl (by kernel_rfl) rfl rfl) ?_
              clear hf a; rintro _ w3_2 a ⟨b3_1, rfl, hm⟩ hf
              obtain ⟨ys3_1, hx3_2, hq2_2⟩ := bnd hq2_2
              obtain ⟨h3_5, h3_5e⟩ := appM_some.1 hx3_2
              refine st_ef hf rfl rfl rfl (e_append 4 et_27 hf hm rfl (hm.lit_rep (xs := ([x2_1] : List Mins)) 0 rfl rfl rfl rfl) rfl rfl rfl h3_5) ?_
              clear hf a; rintro v3_1 w3_3 a hm hf
              rw [h3_5e] at hm
              refine st_y hf rfl rfl rfl (y_fieldAddr fo_29_2 rfl rfl) ?_
              clear hf a; intro a hf
              refine st_ef0 hf rfl rfl (e_store1 3 hf hm rfl Try.sizeOf27 rfl rfl rfl (rep_one (hm.ow_rep 4 rfl)) rfl) ?_
              clear hf a; rintro _ w3_4 a hm hf
              refine st_end ?_
              refine x_then_n ?_
              obtain rfl := Option.some.inj hq2_2
              exact ⟨v3_1, hf.sub ⟨rfl, rfl, rfl, rfl, rfl, rfl, rfl, rfl, trivial⟩, hm.pick [1, 2, 3, 4, 5] (by decide) rfl⟩
            ·
              replace hq2_2 := (ite_f h3_4).symm.trans hq2_2
              refine cond_f hf rfl h3_4 ?_
              refine wp_skip ?_
              refine x_then_n ?_
              obtain rfl := Option.some.inj hq2_2
              exact ⟨(.slice p2_1 xs1_1.1.length c2_2), hf.sub ⟨rfl, rfl, rfl, rfl, rfl, rfl, rfl, rfl, trivial⟩, hm.pick [0, 1, 2, 3, 4] (by decide) rfl⟩
          ·
            clear hf hm
            rintro a w ⟨v2_1, hf, hm⟩
            refine x_blk_n ?_
            refine x_then_n ?_
            obtain rfl := Option.some.inj hq1_1
            exact ⟨v2_1, hf.sub ⟨rfl, rfl, rfl, rfl, rfl, rfl, rfl, rfl, trivial⟩, hm.pick [0, 1, 2, 3, 4] (by decide) rfl⟩
      ·
        clear hf hm
        rintro a w ⟨v1_2, hf, hm⟩
        refine x_then_n ?_
        refine wp_region_lit ?_
        refine st_y hf rfl rfl rfl (y_add64 rfl rfl rfl (by omega) (by omega)) ?_
        clear hf a; intro a hf
        refine st_y hf rfl rfl rfl (y_move rfl rfl) ?_
        clear hf a; intro a hf
        refine st_end ?_
        refine x_then_n ?_
        obtain rfl := Option.some.inj hb0_1
        exact ⟨_, rfl, v1_2, hf.sub ⟨rfl, rfl, rfl, rfl, rfl, rfl, rfl, rfl, trivial⟩, hm.pick [0, 1, 2, 3, 4] (by decide) rfl⟩
    ·
      clear hf hm
      rintro i0_1 xs0_1 a w ⟨v0_3, hf, hm⟩ hi0_1 hi0_2 rfl
      replace hq := sum_l hq
      refine wp_seq ?_
      refine wp_region_lit ?_
      refine st_y hf rfl rfl rfl (y_lss rfl rfl rfl) ?_
      clear hf a; intro a hf
      refine st_end ?_
      refine x_then_n ?_
      refine wp_seq ?_
      refine cond_f hf rfl (decide_eq_false (by omega)) ?_
      refine wp_exit ?_
      refine x_then_exit ?_
      refine x_then_exit ?_
      refine x_blk_hit ?_
      refine x_then_n ?_
      refine wp_seq ?_
      refine wp_seq ?_
      refine wp_region_lit ?_
      refine st_y hf rfl rfl rfl (y_fieldAddr fo_29_2 rfl rfl) ?_
      clear hf a; intro a hf
      refine st_y hf rfl rfl rfl (y_load1 Try.isAgg27 rfl rfl (hm.blk_cell 2 rfl rfl)) ?_
      clear hf a; intro a hf
      obtain ⟨p0_3, c0_3, he, hl0_4⟩ := ro_slice (hm.ow_rep 3 rfl)
      subst he
      refine st_y hf rfl rfl rfl (y_len_slice st_27.und rfl rfl) ?_
      clear hf a; intro a hf
      refine st_y hf rfl rfl rfl (y_move rfl rfl) ?_
      clear hf a; intro a hf
      refine st_end ?_
      refine x_then_n ?_
      refine wp_block ?_
      obtain ⟨r0_4, hl0_5, hq⟩ := bnd hq
      refine wp_forN _ (fun i1_2 xs1_2 a w => Fr 81 [(4, (.pointer (some ⟨b0_2, 0, none⟩))), (5, (.pointer (some ⟨b0_3, 0, none⟩))), (6, (.slice p0_2 ys0_1.length c0_2)), (59, (.slice p0_3 xs0_1.1.length c0_3)), (60, (.int .i64 ((xs0_1.1.length : Int)))), (61, (.int .i64 (i1_2)))] a ∧ Mem w0 (hp w0) w [blk b0_2 [(.int .i64 (0)), (.int .i64 (0)), (.slice none 0 0)] 29, blk b0_3 [(.int .i64 (f.params)), (.int .i64 (f.slots)), (.slice p0_3 xs0_1.1.length c0_3)] 29, ow [(.slice p0_3 xs0_1.1.length c0_3)] xs1_2, ow [(.slice p0_2 ys0_1.length c0_2)] xs0_1.2]) (0) ((xs0_1.1.length : Int)) hl0_5 ?_ ?_ ?_
      ·
        exact ⟨hf.sub ⟨rfl, rfl, rfl, rfl, rfl, rfl, trivial⟩, hm.pick [1, 2, 3, 4] (by decide) rfl⟩
      ·
        clear hf hm
        rintro i1_2 xs1_2 a w ⟨hf, hm⟩ hi1_3 hi1_4 q0_2 hb0_2 ho0_2
        refine wp_seq ?_
        refine wp_region_lit ?_
        refine st_y hf rfl rfl rfl (y_lss rfl rfl rfl) ?_
        clear hf a; intro a hf
        refine st_end ?_
        refine x_then_n ?_
        refine wp_seq ?_
        refine cond_t hf rfl (decide_eq_true (by omega)) ?_
        refine wp_skip ?_
        refine x_then_n ?_
        refine wp_seq ?_
        obtain ⟨s1_2, hq1_2, hb0_2⟩ := bnd hb0_2
        refine code_cut (K := fun a w => Fr 81 [(4, (.pointer (some ⟨b0_2, 0, none⟩))), (5, (.pointer (some ⟨b0_3, 0, none⟩))), (6, (.slice p0_2 ys0_1.length c0_2)), (59, (.slice p0_3 xs0_1.1.length c0_3)), (60, (.int .i64 ((xs0_1.1.length : Int)))), (61, (.int .i64 (i1_2)))] a ∧ Mem w0 (hp w0) w [blk b0_2 [(.int .i64 (0)), (.int .i64 (0)), (.slice none 0 0)] 29, blk b0_3 [(.int .i64 (f.params)), (.int .i64 (f.slots)), (.slice p0_3 xs0_1.1.length c0_3)] 29, ow [(.slice p0_3 xs0_1.1.length c0_3)] s1_2, ow [(.slice p0_2 ys0_1.length c0_2)] xs0_1.2]) ?_ ?_
        ·
          refine wp_block ?_
          refine wp_seq ?_
          refine wp_region_lit ?_
          refine st_y hf rfl rfl rfl (y_move rfl rfl) ?_
          clear hf a; intro a hf
          obtain ⟨x2_3, hx2_6, hq1_2⟩ := bnd hq1_2
          obtain ⟨h2_3, hx2_7⟩ := getI_some.1 hx2_6
          obtain ⟨b2_4, o2_3, c2_4, he⟩ := idx_form (hm.ow_rep 2 rfl) hx2_7
          simp only [Value.slice.injEq, Option.some.injEq] at he; obtain ⟨rfl, _, rfl⟩ := he
          refine st_y hf rfl rfl rfl (y_indexAddr st_27 rfl rfl rfl h2_3 (idx_lt2 hx2_7 (rep_slice_len (hm.ow_rep 2 rfl)))) ?_
          clear hf a; intro a hf
          refine st_y hf rfl rfl rfl (y_loadN (cs := [(.int .i64 (x2_3.op)), (.int .i64 (x2_3.a_)), (.int .i64 (x2_3.b)), (.int .i64 (x2_3.c)), (.int .i64 (x2_3.n_))]) Try.isAgg50 Try.sizeOf50 rfl rfl (flat_cells (cs := [(.int .i64 (x2_3.op)), (.int .i64 (x2_3.a_)), (.int .i64 (x2_3.b)), (.int .i64 (x2_3.c)), (.int .i64 (x2_3.n_))]) (hm.ow_rep 2 rfl) hx2_7 rfl)) ?_
          clear hf a; intro a hf
          refine st_ef hf rfl rfl rfl (e_alloc hm Try.zeroValue50 rfl rfl) ?_
          clear hf a; rintro _ w2_4 a ⟨b2_5, rfl, hm⟩ hf
          refine st_y hf rfl rfl rfl (y_assign rfl rfl) ?_
          clear hf a; intro a hf
          refine st_ef0 hf rfl rfl (e_storeN 0 hf hm rfl Try.sizeOf50 rfl rfl rfl (one_cons rfl (one_cons rfl (one_cons rfl (one_cons rfl (one_cons rfl one_nil))))) rfl rfl) ?_
          clear hf a; rintro _ w2_5 a hm hf
          refine st_end ?_
          refine x_then_n ?_
          refine wp_seq ?_
          refine wp_region_lit ?_
          refine st_y hf rfl rfl rfl (y_fieldAddr fo_50_0 rfl rfl) ?_
          clear hf a; intro a hf
          refine st_y hf rfl rfl rfl (y_load1 Try.isAgg3 rfl rfl (hm.blk_cell 0 rfl rfl)) ?_
          clear hf a; intro a hf
          obtain ⟨r2_1, hx2_8, hq1_2⟩ := bnd hq1_2
          refine st_ef hf rfl rfl rfl (e_call hf rfl Try.call34 rfl (impl_jumpOp_ok _ x2_3.op _ hx2_8)) ?_
          clear hf a; rintro _ w2_6 a ⟨rfl, hB⟩ hf
          replace hm := hm.below' hB; clear hB
          refine st_end ?_
          refine x_then_n ?_
          obtain ⟨s2_3, hq2_3, hq1_2⟩ := bnd hq1_2
          refine code_cut (K := fun a w => Fr 81 [(4, (.pointer (some ⟨b0_2, 0, none⟩))), (5, (.pointer (some ⟨b0_3, 0, none⟩))), (6, (.slice p0_2 ys0_1.length c0_2)), (59, (.slice (some ⟨b2_4, o2_3, none⟩) xs0_1.1.length c0_3)), (60, (.int .i64 ((xs0_1.1.length : Int)))), (61, (.int .i64 (i1_2)))] a ∧ Mem w0 (hp w0) w [blk b0_2 [(.int .i64 (0)), (.int .i64 (0)), (.slice none 0 0)] 29, blk b0_3 [(.int .i64 (f.params)), (.int .i64 (f.slots)), (.slice (some ⟨b2_4, o2_3, none⟩) xs0_1.1.length c0_3)] 29, ow [(.slice (some ⟨b2_4, o2_3, none⟩) xs0_1.1.length c0_3)] s2_3, ow [(.slice p0_2 ys0_1.length c0_2)] xs0_1.2]) ?_ ?_
          ·
            rcases bcases (r2_1) with h3_6 | h3_6
            ·
              replace hq2_3 := (ite_t h3_6).symm.trans hq2_3
              refine cond_t hf rfl h3_6 ?_
              refine wp_draw [(true, 0), (true, 1), (true, 2), (true, 3), (false, 4), (false, 5), (false, 6), (false, 7), (false, 8), (false, 9), (false, 10)] [0, 1, 2, 3, 4, 5, 6, 7] (fun w => Mem w0 (hp w0) w [blk b2_5 [(.int .i64 (x2_3.op)), (.int .i64 (x2_3.a_)), (.int .i64 (x2_3.b)), (.int .i64 (x2_3.c)), (.int .i64 (x2_3.n_))] 50, blk b0_2 [(.int .i64 (0)), (.int .i64 (0)), (.slice none 0 0)] 29, blk b0_3 [(.int .i64 (f.params)), (.int .i64 (f.slots)), (.slice (some ⟨b2_4, o2_3, none⟩) xs0_1.1.length c0_3)] 29, ow [(.slice (some ⟨b2_4, o2_3, none⟩) xs0_1.1.length c0_3)] xs1_2, ow [(.slice p0_2 ys0_1.length c0_2)] xs0_1.2]) (by kernel_rfl) (by kernel_rfl) (fun _ _ _ h => h.2) ?_
              replace hm := hm.drew
              have hS : Mem w0 (hp w0) _ [blk b2_5 [(.int .i64 (x2_3.op)), (.int .i64 (x2_3.a_)), (.int .i64 (x2_3.b)), (.int .i64 (x2_3.c)), (.int .i64 (x2_3.n_))] 50, blk b0_2 [(.int .i64 (0)), (.int .i64 (0)), (.slice none 0 0)] 29, blk b0_3 [(.int .i64 (f.params)), (.int .i64 (f.slots)), (.slice (some ⟨b2_4, o2_3, none⟩) xs0_1.1.length c0_3)] 29, ow [(.slice (some ⟨b2_4, o2_3, none⟩) xs0_1.1.length c0_3)] xs1_2, ow [(.slice p0_2 ys0_1.length c0_2)] xs0_1.2] := hm.pick [0, 1, 2, 3, 4] (by decide) rfl
              refine sd_y hf rfl rfl rfl rfl hS (fun w hm => y_fieldAddr fo_29_2 rfl rfl) ?_
              clear hf a; intro a hf
              refine sd_y hf rfl rfl rfl rfl hS (fun w hm => y_load1 Try.isAgg27 rfl rfl (hm.blk_cell 2 rfl rfl)) ?_
              clear hf a; intro a hf
              refine sd_y hf rfl rfl rfl rfl hS (fun w hm => y_move rfl rfl) ?_
              clear hf a; intro a hf
              refine sd_y hf rfl rfl rfl rfl hS (fun w hm => y_move rfl rfl) ?_
              clear hf a; intro a hf
              refine sd_ef hf rfl rfl rfl rfl (ef_y hf (y_fieldAddr fo_50_4 rfl rfl)) ?_
              clear hf a; rintro _ _ a ⟨rfl, rfl⟩ hf
              refine ⟨fun _ => hS, ?_⟩
              refine sd_ef hf rfl rfl rfl rfl (ef_y hf (y_load1 Try.isAgg3 rfl rfl (hm.blk_cell 0 rfl rfl))) ?_
              clear hf a; rintro _ _ a ⟨rfl, rfl⟩ hf
              refine ⟨fun _ => hS, ?_⟩
              obtain ⟨x3_1, hx3_3, hq2_3⟩ := bnd hq2_3
              obtain ⟨h3_7, hx3_4⟩ := getI_some.1 hx3_3
              obtain ⟨b3_2, o3_1, c3_1, he⟩ := idx_form (hm.ow_rep 4 rfl) hx3_4
              simp only [Value.slice.injEq, Option.some.injEq] at he; obtain ⟨rfl, _, rfl⟩ := he
              refine sd_ef hf rfl rfl rfl rfl (ef_y hf (y_indexAddr st_33 rfl rfl rfl h3_7 (idx_lt2 hx3_4 (rep_slice_len (hm.ow_rep 4 rfl))))) ?_
              clear hf a; rintro _ _ a ⟨rfl, rfl⟩ hf
              refine ⟨fun _ => hS, ?_⟩
              refine sd_ef hf rfl rfl rfl rfl (ef_y hf (y_load1 Try.isAgg3 rfl rfl ((flat_cells (cs := [(.int .i64 (x3_1))]) (hm.ow_rep 4 rfl) hx3_4 rfl).cell (j := 0) rfl))) ?_
              clear hf a; rintro _ _ a ⟨rfl, rfl⟩ hf
              refine ⟨fun _ => hS, ?_⟩
              refine sd_ef hf rfl rfl rfl rfl (ef_y hf (y_indexAddr st_27 rfl rfl rfl h2_3 (idx_lt2 hx2_7 (rep_slice_len (hm.ow_rep 3 rfl))))) ?_
              clear hf a; rintro _ _ a ⟨rfl, rfl⟩ hf
              refine ⟨fun h => absurd h (by decide), ?_⟩
              refine sd_ef hf rfl rfl rfl rfl (ef_y hf (y_fieldAddr fo_50_4 rfl rfl)) ?_
              clear hf a; rintro _ _ a ⟨rfl, rfl⟩ hf
              refine ⟨fun h => absurd h (by decide), ?_⟩
              refine sd_ef0 hf rfl rfl rfl (e_setElem (x1 := (⟨x2_3.op, x2_3.a_, x2_3.b, x2_3.c, x3_1⟩ : Mins)) (j := 4) (vs := [(.int .i64 (x3_1))]) 3 hf hm rfl hx2_7 rfl Try.sizeOf3 rfl rfl rfl (one_cons rfl one_nil) rfl rfl) ?_
              clear hf a; rintro _ w3_5 a hm hf
              have hx3_5 := List.getElem?_set_self (a := (⟨x2_3.op, x2_3.a_, x2_3.b, x2_3.c, x3_1⟩ : Mins)) (idx_lt hx2_7)
              refine ⟨fun h => absurd h (by decide), ?_⟩
              clear hS; refine sd_end ?_
              refine x_then_n ?_
              obtain rfl := Option.some.inj hq2_3
              exact ⟨hf.sub ⟨rfl, rfl, rfl, rfl, rfl, rfl, trivial⟩, hm.pick [1, 2, 3, 4] (by decide) rfl⟩
            ·
              replace hq2_3 := (ite_f h3_6).symm.trans hq2_3
              refine cond_f hf rfl h3_6 ?_
              refine wp_skip ?_
              refine x_then_n ?_
              obtain rfl := Option.some.inj hq2_3
              exact ⟨hf.sub ⟨rfl, rfl, rfl, rfl, rfl, rfl, trivial⟩, hm.pick [1, 2, 3, 4] (by decide) rfl⟩
          ·
            clear hf hm
            rintro a w ⟨hf, hm⟩
            refine x_blk_n ?_
            refine x_then_n ?_
            obtain rfl := Option.some.inj hq1_2
            exact ⟨hf.sub ⟨rfl, rfl, rfl, rfl, rfl, rfl, trivial⟩, hm.pick [0, 1, 2, 3] (by decide) rfl⟩
        ·
          clear hf hm
          rintro a w ⟨hf, hm⟩
          refine x_then_n ?_
          refine wp_region_lit ?_
          refine st_y hf rfl rfl rfl (y_add64 rfl rfl rfl (by omega) (by omega)) ?_
          clear hf a; intro a hf
          refine st_y hf rfl rfl rfl (y_move rfl rfl) ?_
          clear hf a; intro a hf
          refine st_end ?_
          refine x_then_n ?_
          obtain rfl := Option.some.inj hb0_2
          exact ⟨_, rfl, hf.sub ⟨rfl, rfl, rfl, rfl, rfl, rfl, trivial⟩, hm.pick [0, 1, 2, 3] (by decide) rfl⟩
      ·
        clear hf hm
        rintro i0_2 xs0_2 a w ⟨hf, hm⟩ hi0_3 hi0_4 rfl
        replace hq := sum_l hq
        refine wp_seq ?_
        refine wp_region_lit ?_
        refine st_y hf rfl rfl rfl (y_lss rfl rfl rfl) ?_
        clear hf a; intro a hf
        refine st_end ?_
        refine x_then_n ?_
        refine wp_seq ?_
        refine cond_f hf rfl (decide_eq_false (by omega)) ?_
        refine wp_exit ?_
        refine x_then_exit ?_
        refine x_then_exit ?_
        refine x_blk_hit ?_
        refine x_then_n ?_
        refine wp_seq ?_
        refine wp_region_lit ?_
        refine st_y hf rfl rfl rfl (y_loadN (cs := [(.int .i64 (f.params)), (.int .i64 (f.slots)), (.slice p0_3 xs0_1.1.length c0_3)]) Try.isAgg29 Try.sizeOf29 rfl rfl (hm.blk_at 1 rfl)) ?_
        clear hf a; intro a hf
        refine st_ef0 hf rfl rfl (e_storeN 0 hf hm rfl Try.sizeOf29 rfl rfl rfl (one_cons rfl (one_cons rfl (one_cons rfl one_nil))) rfl rfl) ?_
        clear hf a; rintro _ w0_9 a hm hf
        refine st_end ?_
        refine x_then_n ?_
        refine wp_ret ?_
        obtain rfl := Option.some.inj hq
        refine ret_cell 0 hf Try.results13 hm rfl rfl Try.isAgg29 Try.sizeOf29 ?_
        exact ⟨(.slice p0_3 xs0_1.1.length c0_3), rfl, hm.pick [2] (by decide) rfl⟩

theorem laws_eqMins_ok (w0 : World) (a_ : Mins) (b_ : Mins) (r : Bool) (hq : laws_eqMins a_ b_ = some r) :
    Con Try.prog 45 [(.agg #[(.int .i64 (a_.op)), (.int .i64 (a_.a_)), (.int .i64 (a_.b)), (.int .i64 (a_.c)), (.int .i64 (a_.n_))]), (.agg #[(.int .i64 (b_.op)), (.int .i64 (b_.a_)), (.int .i64 (b_.b)), (.int .i64 (b_.c)), (.int .i64 (b_.n_))])] w0 (fun v w' => v = (.bool (r)) ∧ Below w0.heap.size w0 w') := by
  unfold laws_eqMins at hq
  refine con_body (l := [(0, (.agg #[(.int .i64 (a_.op)), (.int .i64 (a_.a_)), (.int .i64 (a_.b)), (.int .i64 (a_.c)), (.int .i64 (a_.n_))])), (1, (.agg #[(.int .i64 (b_.op)), (.int .i64 (b_.a_)), (.int .i64 (b_.b)), (.int .i64 (b_.c)), (.int .i64 (b_.n_))]))]) Try.func45 rfl Try.ntmps45 (Args.get ⟨rfl, rfl, trivial⟩) rfl ?_
  intro a hf
  have hm := Mem.start w0
  refine wp_seq ?_
  refine wp_region_lit ?_
  refine st_ef hf rfl rfl rfl (e_box hf hm rfl rfl rfl) ?_
  clear hf a; rintro _ w0_1 a ⟨b0_1, rfl, hm⟩ hf
  refine st_ef hf rfl rfl rfl (e_box hf hm rfl rfl rfl) ?_
  clear hf a; rintro _ w0_2 a ⟨b0_2, rfl, hm⟩ hf
  refine st_y hf rfl rfl rfl (y_assign rfl rfl) ?_
  clear hf a; intro a hf
  refine st_end ?_
  refine x_then_n ?_
  refine wp_seq ?_
  refine wp_seq ?_
  refine wp_region_lit ?_
  refine st_y hf rfl rfl rfl (y_fieldAddr fo_50_0 rfl rfl) ?_
  clear hf a; intro a hf
  refine st_y hf rfl rfl rfl (y_load1 Try.isAgg3 rfl rfl (hm.blk_cell 1 rfl rfl)) ?_
  clear hf a; intro a hf
  refine st_y hf rfl rfl rfl (y_fieldAddr fo_50_0 rfl rfl) ?_
  clear hf a; intro a hf
  refine st_y hf rfl rfl rfl (y_load1 Try.isAgg3 rfl rfl (hm.blk_cell 0 rfl rfl)) ?_
  clear hf a; intro a hf
  refine st_y hf rfl rfl rfl (y_neq rfl rfl rfl) ?_
  clear hf a; intro a hf
  refine st_end ?_
  refine x_then_n ?_
  rcases bcases (decide (a_.op ≠ b_.op)) with h0_1 | h0_1
  ·
    replace hq := (ite_t h0_1).symm.trans hq
    have h0_2 := of_decide_eq_true h0_1
    refine cond_t hf rfl h0_1 ?_
    refine wp_seq ?_
    refine wp_region_lit ?_
    refine st_y hf rfl rfl rfl (y_assign rfl rfl) ?_
    clear hf a; intro a hf
    refine st_end ?_
    refine x_then_n ?_
    refine wp_ret ?_
    refine x_then_ret ?_
    obtain rfl := Option.some.inj hq
    refine ret_tmp hf Try.results45 rfl ?_
    exact ⟨rfl, hm.below⟩
  ·
    replace hq := (ite_f h0_1).symm.trans hq
    have h0_3 := of_decide_eq_false h0_1
    refine cond_f hf rfl h0_1 ?_
    refine wp_skip ?_
    refine x_then_n ?_
    refine wp_seq ?_
    refine wp_seq ?_
    refine wp_region_lit ?_
    refine st_y hf rfl rfl rfl (y_fieldAddr fo_50_1 rfl rfl) ?_
    clear hf a; intro a hf
    refine st_y hf rfl rfl rfl (y_load1 Try.isAgg3 rfl rfl (hm.blk_cell 1 rfl rfl)) ?_
    clear hf a; intro a hf
    refine st_y hf rfl rfl rfl (y_fieldAddr fo_50_1 rfl rfl) ?_
    clear hf a; intro a hf
    refine st_y hf rfl rfl rfl (y_load1 Try.isAgg3 rfl rfl (hm.blk_cell 0 rfl rfl)) ?_
    clear hf a; intro a hf
    refine st_y hf rfl rfl rfl (y_neq rfl rfl rfl) ?_
    clear hf a; intro a hf
    refine st_end ?_
    refine x_then_n ?_
    rcases bcases (decide (a_.a_ ≠ b_.a_)) with h0_4 | h0_4
    ·
      replace hq := (ite_t h0_4).symm.trans hq
      have h0_5 := of_decide_eq_true h0_4
      refine cond_t hf rfl h0_4 ?_
      refine wp_seq ?_
      refine wp_region_lit ?_
      refine st_y hf rfl rfl rfl (y_assign rfl rfl) ?_
      clear hf a; intro a hf
      refine st_end ?_
      refine x_then_n ?_
      refine wp_ret ?_
      refine x_then_ret ?_
      obtain rfl := Option.some.inj hq
      refine ret_tmp hf Try.results45 rfl ?_
      exact ⟨rfl, hm.below⟩
    ·
      replace hq := (ite_f h0_4).symm.trans hq
      have h0_6 := of_decide_eq_false h0_4
      refine cond_f hf rfl h0_4 ?_
      refine wp_skip ?_
      refine x_then_n ?_
      refine wp_seq ?_
      refine wp_seq ?_
      refine wp_region_lit ?_
      refine st_y hf rfl rfl rfl (y_fieldAddr fo_50_2 rfl rfl) ?_
      clear hf a; intro a hf
      refine st_y hf rfl rfl rfl (y_load1 Try.isAgg3 rfl rfl (hm.blk_cell 1 rfl rfl)) ?_
      clear hf a; intro a hf
      refine st_y hf rfl rfl rfl (y_fieldAddr fo_50_2 rfl rfl) ?_
      clear hf a; intro a hf
      refine st_y hf rfl rfl rfl (y_load1 Try.isAgg3 rfl rfl (hm.blk_cell 0 rfl rfl)) ?_
      clear hf a; intro a hf
      refine st_y hf rfl rfl rfl (y_neq rfl rfl rfl) ?_
      clear hf a; intro a hf
      refine st_end ?_
      refine x_then_n ?_
      rcases bcases (decide (a_.b ≠ b_.b)) with h0_7 | h0_7
      ·
        replace hq := (ite_t h0_7).symm.trans hq
        have h0_8 := of_decide_eq_true h0_7
        refine cond_t hf rfl h0_7 ?_
        refine wp_seq ?_
        refine wp_region_lit ?_
        refine st_y hf rfl rfl rfl (y_assign rfl rfl) ?_
        clear hf a; intro a hf
        refine st_end ?_
        refine x_then_n ?_
        refine wp_ret ?_
        refine x_then_ret ?_
        obtain rfl := Option.some.inj hq
        refine ret_tmp hf Try.results45 rfl ?_
        exact ⟨rfl, hm.below⟩
      ·
        replace hq := (ite_f h0_7).symm.trans hq
        have h0_9 := of_decide_eq_false h0_7
        refine cond_f hf rfl h0_7 ?_
        refine wp_skip ?_
        refine x_then_n ?_
        refine wp_seq ?_
        refine wp_seq ?_
        refine wp_region_lit ?_
        refine st_y hf rfl rfl rfl (y_fieldAddr fo_50_3 rfl rfl) ?_
        clear hf a; intro a hf
        refine st_y hf rfl rfl rfl (y_load1 Try.isAgg3 rfl rfl (hm.blk_cell 1 rfl rfl)) ?_
        clear hf a; intro a hf
        refine st_y hf rfl rfl rfl (y_fieldAddr fo_50_3 rfl rfl) ?_
        clear hf a; intro a hf
        refine st_y hf rfl rfl rfl (y_load1 Try.isAgg3 rfl rfl (hm.blk_cell 0 rfl rfl)) ?_
        clear hf a; intro a hf
        refine st_y hf rfl rfl rfl (y_neq rfl rfl rfl) ?_
        clear hf a; intro a hf
        refine st_end ?_
        refine x_then_n ?_
        rcases bcases (decide (a_.c ≠ b_.c)) with h0_10 | h0_10
        ·
          replace hq := (ite_t h0_10).symm.trans hq
          have h0_11 := of_decide_eq_true h0_10
          refine cond_t hf rfl h0_10 ?_
          refine wp_seq ?_
          refine wp_region_lit ?_
          refine st_y hf rfl rfl rfl (y_assign rfl rfl) ?_
          clear hf a; intro a hf
          refine st_end ?_
          refine x_then_n ?_
          refine wp_ret ?_
          refine x_then_ret ?_
          obtain rfl := Option.some.inj hq
          refine ret_tmp hf Try.results45 rfl ?_
          exact ⟨rfl, hm.below⟩
        ·
          replace hq := (ite_f h0_10).symm.trans hq
          have h0_12 := of_decide_eq_false h0_10
          refine cond_f hf rfl h0_10 ?_
          refine wp_skip ?_
          refine x_then_n ?_
          refine wp_seq ?_
          refine wp_seq ?_
          refine wp_region_lit ?_
          refine st_y hf rfl rfl rfl (y_fieldAddr fo_50_4 rfl rfl) ?_
          clear hf a; intro a hf
          refine st_y hf rfl rfl rfl (y_load1 Try.isAgg3 rfl rfl (hm.blk_cell 1 rfl rfl)) ?_
          clear hf a; intro a hf
          refine st_y hf rfl rfl rfl (y_fieldAddr fo_50_4 rfl rfl) ?_
          clear hf a; intro a hf
          refine st_y hf rfl rfl rfl (y_load1 Try.isAgg3 rfl rfl (hm.blk_cell 0 rfl rfl)) ?_
          clear hf a; intro a hf
          refine st_y hf rfl rfl rfl (y_neq rfl rfl rfl) ?_
          clear hf a; intro a hf
          refine st_end ?_
          refine x_then_n ?_
          rcases bcases (decide (a_.n_ ≠ b_.n_)) with h0_13 | h0_13
          ·
            replace hq := (ite_t h0_13).symm.trans hq
            have h0_14 := of_decide_eq_true h0_13
            refine cond_t hf rfl h0_13 ?_
            refine wp_seq ?_
            refine wp_region_lit ?_
            refine st_y hf rfl rfl rfl (y_assign rfl rfl) ?_
            clear hf a; intro a hf
            refine st_end ?_
            refine x_then_n ?_
            refine wp_ret ?_
            refine x_then_ret ?_
            obtain rfl := Option.some.inj hq
            refine ret_tmp hf Try.results45 rfl ?_
            exact ⟨rfl, hm.below⟩
          ·
            replace hq := (ite_f h0_13).symm.trans hq
            have h0_15 := of_decide_eq_false h0_13
            refine cond_f hf rfl h0_13 ?_
            refine wp_skip ?_
            refine x_then_n ?_
            refine wp_seq ?_
            refine wp_region_lit ?_
            refine st_y hf rfl rfl rfl (y_assign rfl rfl) ?_
            clear hf a; intro a hf
            refine st_end ?_
            refine x_then_n ?_
            refine wp_ret ?_
            obtain rfl := Option.some.inj hq
            refine ret_tmp hf Try.results45 rfl ?_
            exact ⟨rfl, hm.below⟩

theorem laws_eqMinsS_ok (w0 : World) (a_ : List Mins) (v1 : Value) (h1 : GT.rep (hp w0) [v1] a_) (b_ : List Mins) (v2 : Value) (h2 : GT.rep (hp w0) [v2] b_) (r : Bool) (hq : laws_eqMinsS a_ b_ = some r) :
    Con Try.prog 29 [v1, v2] w0 (fun v w' => v = (.bool (r)) ∧ Below w0.heap.size w0 w') := by
  unfold laws_eqMinsS at hq
  refine con_body (l := [(0, v1), (1, v2)]) Try.func29 rfl Try.ntmps29 (Args.get ⟨rfl, rfl, trivial⟩) rfl ?_
  intro a hf
  have hm := Mem.start w0
  refine wp_seq ?_
  refine wp_region_lit ?_
  refine st_y hf rfl rfl rfl (y_assign rfl rfl) ?_
  clear hf a; intro a hf
  refine st_end ?_
  refine x_then_n ?_
  refine wp_seq ?_
  refine wp_seq ?_
  refine wp_region_lit ?_
  refine st_y hf rfl rfl rfl (y_move rfl rfl) ?_
  clear hf a; intro a hf
  obtain ⟨p0_1, c0_1, he, hl0_1⟩ := ro_slice (hm.now h1)
  subst he
  refine st_y hf rfl rfl rfl (y_len_slice st_27.und rfl rfl) ?_
  clear hf a; intro a hf
  refine st_y hf rfl rfl rfl (y_move rfl rfl) ?_
  clear hf a; intro a hf
  obtain ⟨p0_2, c0_2, he, hl0_2⟩ := ro_slice (hm.now h2)
  subst he
  refine st_y hf rfl rfl rfl (y_len_slice st_27.und rfl rfl) ?_
  clear hf a; intro a hf
  refine st_y hf rfl rfl rfl (y_neq rfl rfl rfl) ?_
  clear hf a; intro a hf
  refine st_end ?_
  refine x_then_n ?_
  rcases bcases (decide (((a_.length : Int)) ≠ ((b_.length : Int)))) with h0_1 | h0_1
  ·
    replace hq := (ite_t h0_1).symm.trans hq
    have h0_2 := of_decide_eq_true h0_1
    refine cond_t hf rfl h0_1 ?_
    refine wp_seq ?_
    refine wp_region_lit ?_
    refine st_y hf rfl rfl rfl (y_assign rfl rfl) ?_
    clear hf a; intro a hf
    refine st_end ?_
    refine x_then_n ?_
    refine wp_ret ?_
    refine x_then_ret ?_
    obtain rfl := Option.some.inj hq
    refine ret_tmp hf Try.results29 rfl ?_
    exact ⟨rfl, hm.below⟩
  ·
    replace hq := (ite_f h0_1).symm.trans hq
    have h0_3 := of_decide_eq_false h0_1
    refine cond_f hf rfl h0_1 ?_
    refine wp_skip ?_
    refine x_then_n ?_
    refine wp_seq ?_
    refine wp_seq ?_
    refine wp_region_lit ?_
    refine st_y hf rfl rfl rfl (y_assign rfl rfl) ?_
    clear hf a; intro a hf
    refine st_end ?_
    refine x_then_n ?_
    refine wp_block ?_
    obtain ⟨r0_1, hl0_3, hq⟩ := bnd hq
    refine wp_forN _ (fun i1_1 xs1_1 a w => Fr 27 [(0, (.slice p0_1 a_.length c0_1)), (1, (.slice p0_2 b_.length c0_2)), (5, (.int .i64 (i1_1)))] a ∧ Mem w0 (hp w0) w []) (0) ((a_.length : Int)) hl0_3 ?_ ?_ ?_
    ·
      exact ⟨hf.sub ⟨rfl, rfl, rfl, trivial⟩, hm.pick [] (by decide) rfl⟩
    ·
      clear hf hm
      rintro i1_1 xs1_1 a w ⟨hf, hm⟩ hi1_1 hi1_2 q0_1 hb0_1 ho0_1
      refine wp_seq ?_
      refine wp_seq ?_
      refine wp_region_lit ?_
      refine st_y hf rfl rfl rfl (y_move rfl rfl) ?_
      clear hf a; intro a hf
      refine st_y hf rfl rfl rfl (y_move rfl rfl) ?_
      clear hf a; intro a hf
      refine st_y hf rfl rfl rfl (y_len_slice st_27.und rfl rfl) ?_
      clear hf a; intro a hf
      refine st_y hf rfl rfl rfl (y_lss rfl rfl rfl) ?_
      clear hf a; intro a hf
      refine st_end ?_
      refine x_then_n ?_
      refine cond_t hf rfl (decide_eq_true (by omega)) ?_
      refine wp_skip ?_
      refine x_then_n ?_
      refine wp_seq ?_
      refine wp_block ?_
      refine wp_seq ?_
      refine wp_draw [(true, 0), (true, 1), (true, 2), (true, 3), (true, 4), (false, 5), (false, 6), (false, 7), (false, 8), (false, 9)] [0, 1, 2, 3, 4, 5, 6, 7] (fun w => Mem w0 (hp w0) w []) (by kernel_rfl) (by kernel_rfl) (fun _ _ _ h => h.2) ?_
      replace hm := hm.drew
      have hS : Mem w0 (hp w0) _ [] := hm.pick [] (by decide) rfl
      refine sd_y hf rfl rfl rfl rfl hS (fun w hm => y_move rfl rfl) ?_
      clear hf a; intro a hf
      refine sd_y hf rfl rfl rfl rfl hS (fun w hm => y_move rfl rfl) ?_
      clear hf a; intro a hf
      obtain ⟨x1_1, hx1_1, hb0_1⟩ := bnd hb0_1
      obtain ⟨h1_1, hx1_2⟩ := getI_some.1 hx1_1
      obtain ⟨b1_1, o1_1, c1_1, he⟩ := idx_form h1 hx1_2
      simp only [Value.slice.injEq, Option.some.injEq] at he; obtain ⟨rfl, _, rfl⟩ := he
      refine sd_y hf rfl rfl rfl rfl hS (fun w hm => y_indexAddr st_27 rfl rfl rfl h1_1 (idx_lt hx1_2)) ?_
      clear hf a; intro a hf
      refine sd_y hf rfl rfl rfl rfl hS (fun w hm => y_loadN (cs := [(.int .i64 (x1_1.op)), (.int .i64 (x1_1.a_)), (.int .i64 (x1_1.b)), (.int .i64 (x1_1.c)), (.int .i64 (x1_1.n_))]) Try.isAgg50 Try.sizeOf50 rfl rfl (flat_cells (cs := [(.int .i64 (x1_1.op)), (.int .i64 (x1_1.a_)), (.int .i64 (x1_1.b)), (.int .i64 (x1_1.c)), (.int .i64 (x1_1.n_))]) (hm.now h1) hx1_2 rfl)) ?_
      clear hf a; intro a hf
      refine sd_y hf rfl rfl rfl rfl hS (fun w hm => y_move rfl rfl) ?_
      clear hf a; intro a hf
      refine sd_ef hf rfl rfl rfl rfl (ef_y hf (y_move rfl rfl)) ?_
      clear hf a; rintro _ _ a ⟨rfl, rfl⟩ hf
      refine ⟨fun _ => hS, ?_⟩
      obtain ⟨x1_2, hx1_3, hb0_1⟩ := bnd hb0_1
      obtain ⟨h1_2, hx1_4⟩ := getI_some.1 hx1_3
      obtain ⟨b1_2, o1_2, c1_2, he⟩ := idx_form h2 hx1_4
      simp only [Value.slice.injEq, Option.some.injEq] at he; obtain ⟨rfl, _, rfl⟩ := he
      refine sd_ef hf rfl rfl rfl rfl (ef_y hf (y_indexAddr st_27 rfl rfl rfl h1_2 (idx_lt hx1_4))) ?_
      clear hf a; rintro _ _ a ⟨rfl, rfl⟩ hf
      refine ⟨fun _ => hS, ?_⟩
      refine sd_ef hf rfl rfl rfl rfl (ef_y hf (y_loadN (cs := [(.int .i64 (x1_2.op)), (.int .i64 (x1_2.a_)), (.int .i64 (x1_2.b)), (.int .i64 (x1_2.c)), (.int .i64 (x1_2.n_))]) Try.isAgg50 Try.sizeOf50 rfl rfl (flat_cells (cs := [(.int .i64 (x1_2.op)), (.int .i64 (x1_2.a_)), (.int .i64 (x1_2.b)), (.int .i64 (x1_2.c)), (.int .i64 (x1_2.n_))]) (hm.now h2) hx1_4 rfl))) ?_
      clear hf a; rintro _ _ a ⟨rfl, rfl⟩ hf
      refine ⟨fun _ => hS, ?_⟩
      obtain ⟨r1_1, hx1_5, hb0_1⟩ := bnd hb0_1
      refine sd_ef hf rfl rfl rfl rfl (e_call hf rfl Try.call45 rfl (laws_eqMins_ok _ x1_1 x1_2 _ hx1_5)) ?_
      clear hf a; rintro _ w1_1 a ⟨rfl, hB⟩ hf
      replace hm := hm.below' hB; clear hB
      refine ⟨fun h => absurd h (by decide), ?_⟩
      refine sd_ef hf rfl rfl rfl rfl (ef_y hf (y_not rfl rfl)) ?_
      clear hf a; rintro _ _ a ⟨rfl, rfl⟩ hf
      refine ⟨fun h => absurd h (by decide), ?_⟩
      clear hS; refine sd_end ?_
      refine x_then_n ?_
      rcases bcases (!(r1_1)) with h1_3 | h1_3
      ·
        replace hb0_1 := (ite_t h1_3).symm.trans hb0_1
        have h1_4 := bnot_t' h1_3
        refine cond_t hf rfl h1_3 ?_
        refine wp_seq ?_
        refine wp_region_lit ?_
        refine st_y hf rfl rfl rfl (y_assign rfl rfl) ?_
        clear hf a; intro a hf
        refine st_end ?_
        refine x_then_n ?_
        refine wp_ret ?_
        refine x_blk_ret ?_
        refine x_then_ret ?_
        refine x_then_ret ?_
        refine x_blk_ret ?_
        refine x_then_ret ?_
        obtain rfl := Option.some.inj hb0_1
        obtain rfl := ho0_1 _ rfl
        replace hq := sum_r hq
        obtain rfl := Option.some.inj hq
        refine ret_tmp hf Try.results29 rfl ?_
        exact ⟨rfl, hm.below⟩
      ·
        replace hb0_1 := (ite_f h1_3).symm.trans hb0_1
        have h1_5 := bnot_f' h1_3
        refine cond_f hf rfl h1_3 ?_
        refine wp_skip ?_
        refine x_blk_n ?_
        refine x_then_n ?_
        refine wp_region_lit ?_
        refine st_y hf rfl rfl rfl (y_move rfl rfl) ?_
        clear hf a; intro a hf
        refine st_y hf rfl rfl rfl (y_add64 rfl rfl rfl (by omega) (by omega)) ?_
        clear hf a; intro a hf
        refine st_y hf rfl rfl rfl (y_assign rfl rfl) ?_
        clear hf a; intro a hf
        refine st_end ?_
        refine x_then_n ?_
        obtain rfl := Option.some.inj hb0_1
        exact ⟨_, rfl, hf.sub ⟨rfl, rfl, rfl, trivial⟩, hm.pick [] (by decide) rfl⟩
    ·
      clear hf hm
      rintro i0_1 xs0_1 a w ⟨hf, hm⟩ hi0_1 hi0_2 rfl
      replace hq := sum_l hq
      refine wp_seq ?_
      refine wp_seq ?_
      refine wp_region_lit ?_
      refine st_y hf rfl rfl rfl (y_move rfl rfl) ?_
      clear hf a; intro a hf
      refine st_y hf rfl rfl rfl (y_move rfl rfl) ?_
      clear hf a; intro a hf
      refine st_y hf rfl rfl rfl (y_len_slice st_27.und rfl rfl) ?_
      clear hf a; intro a hf
      refine st_y hf rfl rfl rfl (y_lss rfl rfl rfl) ?_
      clear hf a; intro a hf
      refine st_end ?_
      refine x_then_n ?_
      refine cond_f hf rfl (decide_eq_false (by omega)) ?_
      refine wp_exit ?_
      refine x_then_exit ?_
      refine x_then_exit ?_
      refine x_blk_hit ?_
      refine x_then_n ?_
      refine wp_seq ?_
      refine wp_region_lit ?_
      refine st_y hf rfl rfl rfl (y_assign rfl rfl) ?_
      clear hf a; intro a hf
      refine st_end ?_
      refine x_then_n ?_
      refine wp_ret ?_
      obtain rfl := Option.some.inj hq
      refine ret_tmp hf Try.results29 rfl ?_
      exact ⟨rfl, hm.below⟩

theorem laws_eqMfn_ok (w0 : World) (a_ : Mfn) (v1 : Value) (h1 : GT.rep (hp w0) [v1] a_.ins) (b_ : Mfn) (v2 : Value) (h2 : GT.rep (hp w0) [v2] b_.ins) (r : Bool) (hq : laws_eqMfn a_ b_ = some r) :
    Con Try.prog 10 [(.agg #[(.int .i64 (a_.params)), (.int .i64 (a_.slots)), v1]), (.agg #[(.int .i64 (b_.params)), (.int .i64 (b_.slots)), v2])] w0 (fun v w' => v = (.bool (r)) ∧ Below w0.heap.size w0 w') := by
  unfold laws_eqMfn at hq
  refine con_body (l := [(0, (.agg #[(.int .i64 (a_.params)), (.int .i64 (a_.slots)), v1])), (1, (.agg #[(.int .i64 (b_.params)), (.int .i64 (b_.slots)), v2]))]) Try.func10 rfl Try.ntmps10 (Args.get ⟨rfl, rfl, trivial⟩) rfl ?_
  intro a hf
  have hm := Mem.start w0
  refine wp_seq ?_
  refine wp_region_lit ?_
  refine st_ef hf rfl rfl rfl (e_box hf hm rfl rfl rfl) ?_
  clear hf a; rintro _ w0_1 a ⟨b0_1, rfl, hm⟩ hf
  refine st_ef hf rfl rfl rfl (e_box hf hm rfl rfl rfl) ?_
  clear hf a; rintro _ w0_2 a ⟨b0_2, rfl, hm⟩ hf
  refine st_y hf rfl rfl rfl (y_assign rfl rfl) ?_
  clear hf a; intro a hf
  refine st_end ?_
  refine x_then_n ?_
  refine wp_seq ?_
  refine wp_seq ?_
  refine wp_region_lit ?_
  refine st_y hf rfl rfl rfl (y_fieldAddr fo_29_0 rfl rfl) ?_
  clear hf a; intro a hf
  refine st_y hf rfl rfl rfl (y_load1 Try.isAgg3 rfl rfl (hm.blk_cell 1 rfl rfl)) ?_
  clear hf a; intro a hf
  refine st_y hf rfl rfl rfl (y_fieldAddr fo_29_0 rfl rfl) ?_
  clear hf a; intro a hf
  refine st_y hf rfl rfl rfl (y_load1 Try.isAgg3 rfl rfl (hm.blk_cell 0 rfl rfl)) ?_
  clear hf a; intro a hf
  refine st_y hf rfl rfl rfl (y_neq rfl rfl rfl) ?_
  clear hf a; intro a hf
  refine st_end ?_
  refine x_then_n ?_
  rcases bcases (decide (a_.params ≠ b_.params)) with h0_1 | h0_1
  ·
    replace hq := (ite_t h0_1).symm.trans hq
    have h0_2 := of_decide_eq_true h0_1
    refine cond_t hf rfl h0_1 ?_
    refine wp_seq ?_
    refine wp_region_lit ?_
    refine st_y hf rfl rfl rfl (y_assign rfl rfl) ?_
    clear hf a; intro a hf
    refine st_end ?_
    refine x_then_n ?_
    refine wp_ret ?_
    refine x_then_ret ?_
    obtain rfl := Option.some.inj hq
    refine ret_tmp hf Try.results10 rfl ?_
    exact ⟨rfl, hm.below⟩
  ·
    replace hq := (ite_f h0_1).symm.trans hq
    have h0_3 := of_decide_eq_false h0_1
    refine cond_f hf rfl h0_1 ?_
    refine wp_skip ?_
    refine x_then_n ?_
    refine wp_seq ?_
    refine wp_seq ?_
    refine wp_region_lit ?_
    refine st_y hf rfl rfl rfl (y_fieldAddr fo_29_1 rfl rfl) ?_
    clear hf a; intro a hf
    refine st_y hf rfl rfl rfl (y_load1 Try.isAgg3 rfl rfl (hm.blk_cell 1 rfl rfl)) ?_
    clear hf a; intro a hf
    refine st_y hf rfl rfl rfl (y_fieldAddr fo_29_1 rfl rfl) ?_
    clear hf a; intro a hf
    refine st_y hf rfl rfl rfl (y_load1 Try.isAgg3 rfl rfl (hm.blk_cell 0 rfl rfl)) ?_
    clear hf a; intro a hf
    refine st_y hf rfl rfl rfl (y_neq rfl rfl rfl) ?_
    clear hf a; intro a hf
    refine st_end ?_
    refine x_then_n ?_
    rcases bcases (decide (a_.slots ≠ b_.slots)) with h0_4 | h0_4
    ·
      replace hq := (ite_t h0_4).symm.trans hq
      have h0_5 := of_decide_eq_true h0_4
      refine cond_t hf rfl h0_4 ?_
      refine wp_seq ?_
      refine wp_region_lit ?_
      refine st_y hf rfl rfl rfl (y_assign rfl rfl) ?_
      clear hf a; intro a hf
      refine st_end ?_
      refine x_then_n ?_
      refine wp_ret ?_
      refine x_then_ret ?_
      obtain rfl := Option.some.inj hq
      refine ret_tmp hf Try.results10 rfl ?_
      exact ⟨rfl, hm.below⟩
    ·
      replace hq := (ite_f h0_4).symm.trans hq
      have h0_6 := of_decide_eq_false h0_4
      refine cond_f hf rfl h0_4 ?_
      refine wp_skip ?_
      refine x_then_n ?_
      refine wp_seq ?_
      refine wp_seq ?_
      refine wp_region_lit ?_
      refine st_y hf rfl rfl rfl (y_fieldAddr fo_29_2 rfl rfl) ?_
      clear hf a; intro a hf
      refine st_y hf rfl rfl rfl (y_load1 Try.isAgg27 rfl rfl (hm.blk_cell 1 rfl rfl)) ?_
      clear hf a; intro a hf
      refine st_y hf rfl rfl rfl (y_fieldAddr fo_29_2 rfl rfl) ?_
      clear hf a; intro a hf
      refine st_y hf rfl rfl rfl (y_load1 Try.isAgg27 rfl rfl (hm.blk_cell 0 rfl rfl)) ?_
      clear hf a; intro a hf
      obtain ⟨r0_1, hx0_1, hq⟩ := bnd hq
      refine st_ef hf rfl rfl rfl (e_call hf rfl Try.call29 rfl (laws_eqMinsS_ok _ a_.ins v1 (hm.now h1) b_.ins v2 (hm.now h2) _ hx0_1)) ?_
      clear hf a; rintro _ w0_3 a ⟨rfl, hB⟩ hf
      replace hm := hm.below' hB; clear hB
      refine st_y hf rfl rfl rfl (y_not rfl rfl) ?_
      clear hf a; intro a hf
      refine st_end ?_
      refine x_then_n ?_
      rcases bcases (!(r0_1)) with h0_7 | h0_7
      ·
        replace hq := (ite_t h0_7).symm.trans hq
        have h0_8 := bnot_t' h0_7
        refine cond_t hf rfl h0_7 ?_
        refine wp_seq ?_
        refine wp_region_lit ?_
        refine st_y hf rfl rfl rfl (y_assign rfl rfl) ?_
        clear hf a; intro a hf
        refine st_end ?_
        refine x_then_n ?_
        refine wp_ret ?_
        refine x_then_ret ?_
        obtain rfl := Option.some.inj hq
        refine ret_tmp hf Try.results10 rfl ?_
        exact ⟨rfl, hm.below⟩
      ·
        replace hq := (ite_f h0_7).symm.trans hq
        have h0_9 := bnot_f' h0_7
        refine cond_f hf rfl h0_7 ?_
        refine wp_skip ?_
        refine x_then_n ?_
        refine wp_seq ?_
        refine wp_region_lit ?_
        refine st_y hf rfl rfl rfl (y_assign rfl rfl) ?_
        clear hf a; intro a hf
        refine st_end ?_
        refine x_then_n ?_
        refine wp_ret ?_
        obtain rfl := Option.some.inj hq
        refine ret_tmp hf Try.results10 rfl ?_
        exact ⟨rfl, hm.below⟩

theorem laws_eqIntS_ok (w0 : World) (a_ : List Int) (v1 : Value) (h1 : GT.rep (hp w0) [v1] a_) (b_ : List Int) (v2 : Value) (h2 : GT.rep (hp w0) [v2] b_) (r : Bool) (hq : laws_eqIntS a_ b_ = some r) :
    Con Try.prog 14 [v1, v2] w0 (fun v w' => v = (.bool (r)) ∧ Below w0.heap.size w0 w') := by
  unfold laws_eqIntS at hq
  refine con_body (l := [(0, v1), (1, v2)]) Try.func14 rfl Try.ntmps14 (Args.get ⟨rfl, rfl, trivial⟩) rfl ?_
  intro a hf
  have hm := Mem.start w0
  refine wp_seq ?_
  refine wp_region_lit ?_
  refine st_y hf rfl rfl rfl (y_assign rfl rfl) ?_
  clear hf a; intro a hf
  refine st_end ?_
  refine x_then_n ?_
  refine wp_seq ?_
  refine wp_seq ?_
  refine wp_region_lit ?_
  refine st_y hf rfl rfl rfl (y_move rfl rfl) ?_
  clear hf a; intro a hf
  obtain ⟨p0_1, c0_1, he, hl0_1⟩ := ro_slice (hm.now h1)
  subst he
  refine st_y hf rfl rfl rfl (y_len_slice st_33.und rfl rfl) ?_
  clear hf a; intro a hf
  refine st_y hf rfl rfl rfl (y_move rfl rfl) ?_
  clear hf a; intro a hf
  obtain ⟨p0_2, c0_2, he, hl0_2⟩ := ro_slice (hm.now h2)
  subst he
  refine st_y hf rfl rfl rfl (y_len_slice st_33.und rfl rfl) ?_
  clear hf a; intro a hf
  refine st_y hf rfl rfl rfl (y_neq rfl rfl rfl) ?_
  clear hf a; intro a hf
  refine st_end ?_
  refine x_then_n ?_
  rcases bcases (decide (((a_.length : Int)) ≠ ((b_.length : Int)))) with h0_1 | h0_1
  ·
    replace hq := (ite_t h0_1).symm.trans hq
    have h0_2 := of_decide_eq_true h0_1
    refine cond_t hf rfl h0_1 ?_
    refine wp_seq ?_
    refine wp_region_lit ?_
    refine st_y hf rfl rfl rfl (y_assign rfl rfl) ?_
    clear hf a; intro a hf
    refine st_end ?_
    refine x_then_n ?_
    refine wp_ret ?_
    refine x_then_ret ?_
    obtain rfl := Option.some.inj hq
    refine ret_tmp hf Try.results14 rfl ?_
    exact ⟨rfl, hm.below⟩
  ·
    replace hq := (ite_f h0_1).symm.trans hq
    have h0_3 := of_decide_eq_false h0_1
    refine cond_f hf rfl h0_1 ?_
    refine wp_skip ?_
    refine x_then_n ?_
    refine wp_seq ?_
    refine wp_seq ?_
    refine wp_region_lit ?_
    refine st_y hf rfl rfl rfl (y_assign rfl rfl) ?_
    clear hf a; intro a hf
    refine st_end ?_
    refine x_then_n ?_
    refine wp_block ?_
    obtain ⟨r0_1, hl0_3, hq⟩ := bnd hq
    refine wp_forN _ (fun i1_1 xs1_1 a w => Fr 26 [(0, (.slice p0_1 a_.length c0_1)), (1, (.slice p0_2 b_.length c0_2)), (5, (.int .i64 (i1_1)))] a ∧ Mem w0 (hp w0) w []) (0) ((a_.length : Int)) hl0_3 ?_ ?_ ?_
    ·
      exact ⟨hf.sub ⟨rfl, rfl, rfl, trivial⟩, hm.pick [] (by decide) rfl⟩
    ·
      clear hf hm
      rintro i1_1 xs1_1 a w ⟨hf, hm⟩ hi1_1 hi1_2 q0_1 hb0_1 ho0_1
      refine wp_seq ?_
      refine wp_seq ?_
      refine wp_region_lit ?_
      refine st_y hf rfl rfl rfl (y_move rfl rfl) ?_
      clear hf a; intro a hf
      refine st_y hf rfl rfl rfl (y_move rfl rfl) ?_
      clear hf a; intro a hf
      refine st_y hf rfl rfl rfl (y_len_slice st_33.und rfl rfl) ?_
      clear hf a; intro a hf
      refine st_y hf rfl rfl rfl (y_lss rfl rfl rfl) ?_
      clear hf a; intro a hf
      refine st_end ?_
      refine x_then_n ?_
      refine cond_t hf rfl (decide_eq_true (by omega)) ?_
      refine wp_skip ?_
      refine x_then_n ?_
      refine wp_seq ?_
      refine wp_block ?_
      refine wp_seq ?_
      refine wp_draw [(true, 0), (true, 1), (true, 2), (true, 3), (true, 4), (false, 5), (false, 6), (false, 7), (false, 8)] [0, 1, 2, 3, 4, 5, 6, 7] (fun w => Mem w0 (hp w0) w []) (by kernel_rfl) (by kernel_rfl) (fun _ _ _ h => h.2) ?_
      replace hm := hm.drew
      have hS : Mem w0 (hp w0) _ [] := hm.pick [] (by decide) rfl
      refine sd_y hf rfl rfl rfl rfl hS (fun w hm => y_move rfl rfl) ?_
      clear hf a; intro a hf
      refine sd_y hf rfl rfl rfl rfl hS (fun w hm => y_move rfl rfl) ?_
      clear hf a; intro a hf
      obtain ⟨x1_1, hx1_1, hb0_1⟩ := bnd hb0_1
      obtain ⟨h1_1, hx1_2⟩ := getI_some.1 hx1_1
      obtain ⟨b1_1, o1_1, c1_1, he⟩ := idx_form h1 hx1_2
      simp only [Value.slice.injEq, Option.some.injEq] at he; obtain ⟨rfl, _, rfl⟩ := he
      refine sd_y hf rfl rfl rfl rfl hS (fun w hm => y_indexAddr st_33 rfl rfl rfl h1_1 (idx_lt hx1_2)) ?_
      clear hf a; intro a hf
      refine sd_y hf rfl rfl rfl rfl hS (fun w hm => y_load1 Try.isAgg3 rfl rfl ((flat_cells (cs := [(.int .i64 (x1_1))]) (hm.now h1) hx1_2 rfl).cell (j := 0) rfl)) ?_
      clear hf a; intro a hf
      refine sd_y hf rfl rfl rfl rfl hS (fun w hm => y_move rfl rfl) ?_
      clear hf a; intro a hf
      refine sd_ef hf rfl rfl rfl rfl (ef_y hf (y_move rfl rfl)) ?_
      clear hf a; rintro _ _ a ⟨rfl, rfl⟩ hf
      refine ⟨fun _ => hS, ?_⟩
      obtain ⟨x1_2, hx1_3, hb0_1⟩ := bnd hb0_1
      obtain ⟨h1_2, hx1_4⟩ := getI_some.1 hx1_3
      obtain ⟨b1_2, o1_2, c1_2, he⟩ := idx_form h2 hx1_4
      simp only [Value.slice.injEq, Option.some.injEq] at he; obtain ⟨rfl, _, rfl⟩ := he
      refine sd_ef hf rfl rfl rfl rfl (ef_y hf (y_indexAddr st_33 rfl rfl rfl h1_2 (idx_lt hx1_4))) ?_
      clear hf a; rintro _ _ a ⟨rfl, rfl⟩ hf
      refine ⟨fun _ => hS, ?_⟩
      refine sd_ef hf rfl rfl rfl rfl (ef_y hf (y_load1 Try.isAgg3 rfl rfl ((flat_cells (cs := [(.int .i64 (x1_2))]) (hm.now h2) hx1_4 rfl).cell (j := 0) rfl))) ?_
      clear hf a; rintro _ _ a ⟨rfl, rfl⟩ hf
      refine ⟨fun _ => hS, ?_⟩
      refine sd_ef hf rfl rfl rfl rfl (ef_y hf (y_neq rfl rfl rfl)) ?_
      clear hf a; rintro _ _ a ⟨rfl, rfl⟩ hf
      refine ⟨fun h => absurd h (by decide), ?_⟩
      clear hS; refine sd_end ?_
      refine x_then_n ?_
      rcases bcases (decide (x1_1 ≠ x1_2)) with h1_3 | h1_3
      ·
        replace hb0_1 := (ite_t h1_3).symm.trans hb0_1
        have h1_4 := of_decide_eq_true h1_3
        refine cond_t hf rfl h1_3 ?_
        refine wp_seq ?_
        refine wp_region_lit ?_
        refine st_y hf rfl rfl rfl (y_assign rfl rfl) ?_
        clear hf a; intro a hf
        refine st_end ?_
        refine x_then_n ?_
        refine wp_ret ?_
        refine x_blk_ret ?_
        refine x_then_ret ?_
        refine x_then_ret ?_
        refine x_blk_ret ?_
        refine x_then_ret ?_
        obtain rfl := Option.some.inj hb0_1
        obtain rfl := ho0_1 _ rfl
        replace hq := sum_r hq
        obtain rfl := Option.some.inj hq
        refine ret_tmp hf Try.results14 rfl ?_
        exact ⟨rfl, hm.below⟩
      ·
        replace hb0_1 := (ite_f h1_3).symm.trans hb0_1
        have h1_5 := of_decide_eq_false h1_3
        refine cond_f hf rfl h1_3 ?_
        refine wp_skip ?_
        refine x_blk_n ?_
        refine x_then_n ?_
        refine wp_region_lit ?_
        refine st_y hf rfl rfl rfl (y_move rfl rfl) ?_
        clear hf a; intro a hf
        refine st_y hf rfl rfl rfl (y_add64 rfl rfl rfl (by omega) (by omega)) ?_
        clear hf a; intro a hf
        refine st_y hf rfl rfl rfl (y_assign rfl rfl) ?_
        clear hf a; intro a hf
        refine st_end ?_
        refine x_then_n ?_
        obtain rfl := Option.some.inj hb0_1
        exact ⟨_, rfl, hf.sub ⟨rfl, rfl, rfl, trivial⟩, hm.pick [] (by decide) rfl⟩
    ·
      clear hf hm
      rintro i0_1 xs0_1 a w ⟨hf, hm⟩ hi0_1 hi0_2 rfl
      replace hq := sum_l hq
      refine wp_seq ?_
      refine wp_seq ?_
      refine wp_region_lit ?_
      refine st_y hf rfl rfl rfl (y_move rfl rfl) ?_
      clear hf a; intro a hf
      refine st_y hf rfl rfl rfl (y_move rfl rfl) ?_
      clear hf a; intro a hf
      refine st_y hf rfl rfl rfl (y_len_slice st_33.und rfl rfl) ?_
      clear hf a; intro a hf
      refine st_y hf rfl rfl rfl (y_lss rfl rfl rfl) ?_
      clear hf a; intro a hf
      refine st_end ?_
      refine x_then_n ?_
      refine cond_f hf rfl (decide_eq_false (by omega)) ?_
      refine wp_exit ?_
      refine x_then_exit ?_
      refine x_then_exit ?_
      refine x_blk_hit ?_
      refine x_then_n ?_
      refine wp_seq ?_
      refine wp_region_lit ?_
      refine st_y hf rfl rfl rfl (y_assign rfl rfl) ?_
      clear hf a; intro a hf
      refine st_end ?_
      refine x_then_n ?_
      refine wp_ret ?_
      obtain rfl := Option.some.inj hq
      refine ret_tmp hf Try.results14 rfl ?_
      exact ⟨rfl, hm.below⟩

theorem laws_markMinsS_ok (w0 : World) (hz : Heap) (a_ : List Mins) (v1 : Value) (k_ : Int) (hm0 : Mem w0 hz w0 [ow [v1] a_]) (r : Int × (List Mins)) (hq : laws_markMinsS a_ k_ = some r) :
    Con Try.prog 35 [v1, (.int .i64 (k_))] w0 (fun v w' => v = (.int .i64 (r.1)) ∧ Mem w0 hz w' [ow [v1] r.2]) := by
  unfold laws_markMinsS at hq
  refine con_body (l := [(0, v1), (1, (.int .i64 (k_)))]) Try.func35 rfl Try.ntmps35 (Args.get ⟨rfl, rfl, trivial⟩) rfl ?_
  intro a hf
  have hm := hm0
  refine wp_seq ?_
  refine wp_region_lit ?_
  refine st_y hf rfl rfl rfl (y_assign rfl rfl) ?_
  clear hf a; intro a hf
  refine st_end ?_
  refine x_then_n ?_
  refine wp_seq ?_
  refine wp_seq ?_
  refine wp_region_lit ?_
  refine st_y hf rfl rfl rfl (y_assign rfl rfl) ?_
  clear hf a; intro a hf
  refine st_end ?_
  refine x_then_n ?_
  obtain ⟨p0_1, c0_1, he, hl0_1⟩ := ro_slice (hm.ow_rep 0 rfl)
  subst he
  refine wp_block ?_
  obtain ⟨r0_1, hl0_2, hq⟩ := bnd hq
  refine wp_forN _ (fun i1_1 xs1_1 a w => Fr 48 [(0, (.slice p0_1 a_.length c0_1)), (1, (.int .i64 (xs1_1.2))), (5, (.int .i64 (i1_1)))] a ∧ Mem w0 hz w [ow [(.slice p0_1 a_.length c0_1)] xs1_1.1]) (0) ((a_.length : Int)) hl0_2 ?_ ?_ ?_
  ·
    exact ⟨hf.sub ⟨rfl, rfl, rfl, trivial⟩, hm.pick [0] (by decide) rfl⟩
  ·
    clear hf hm
    rintro i1_1 xs1_1 a w ⟨hf, hm⟩ hi1_1 hi1_2 q0_1 hb0_1 ho0_1
    refine wp_seq ?_
    refine wp_seq ?_
    refine wp_region_lit ?_
    refine st_y hf rfl rfl rfl (y_move rfl rfl) ?_
    clear hf a; intro a hf
    refine st_y hf rfl rfl rfl (y_move rfl rfl) ?_
    clear hf a; intro a hf
    have hl1_1 := rep_len (hm.ow_rep 0 rfl)
    refine st_y hf rfl rfl rfl (y_len_slice st_27.und rfl rfl) ?_
    clear hf a; intro a hf
    refine st_y hf rfl rfl rfl (y_lss rfl rfl rfl) ?_
    clear hf a; intro a hf
    refine st_end ?_
    refine x_then_n ?_
    refine cond_t hf rfl (decide_eq_true (by omega)) ?_
    refine wp_skip ?_
    refine x_then_n ?_
    refine wp_seq ?_
    refine wp_block ?_
    refine wp_seq ?_
    refine wp_region_lit ?_
    refine st_y hf rfl rfl rfl (y_move rfl rfl) ?_
    clear hf a; intro a hf
    refine st_y hf rfl rfl rfl (y_move rfl rfl) ?_
    clear hf a; intro a hf
    refine st_y hf rfl rfl rfl (y_move rfl rfl) ?_
    clear hf a; intro a hf
    obtain ⟨x1_1, hx1_1, hb0_1⟩ := bnd hb0_1
    obtain ⟨h1_1, hx1_2⟩ := getI_some.1 hx1_1
    obtain ⟨b1_1, o1_1, c1_1, he⟩ := idx_form (hm.ow_rep 0 rfl) hx1_2
    simp only [Value.slice.injEq, Option.some.injEq] at he; obtain ⟨rfl, _, rfl⟩ := he
    refine st_y hf rfl rfl rfl (y_indexAddr st_27 rfl rfl rfl h1_1 (idx_lt2 hx1_2 (rep_slice_len (hm.ow_rep 0 rfl)))) ?_
    clear hf a; intro a hf
    refine st_y hf rfl rfl rfl (y_fieldAddr fo_50_0 rfl rfl) ?_
    clear hf a; intro a hf
    refine st_ef0 hf rfl rfl (e_setElem (x1 := (⟨xs1_1.2, x1_1.a_, x1_1.b, x1_1.c, x1_1.n_⟩ : Mins)) (j := 0) (vs := [(.int .i64 (xs1_1.2))]) 0 hf hm rfl hx1_2 rfl Try.sizeOf3 rfl rfl rfl (one_cons rfl one_nil) rfl rfl) ?_
    clear hf a; rintro _ w1_1 a hm hf
    have hx1_3 := List.getElem?_set_self (a := (⟨xs1_1.2, x1_1.a_, x1_1.b, x1_1.c, x1_1.n_⟩ : Mins)) (idx_lt hx1_2)
    refine st_end ?_
    refine x_then_n ?_
    refine wp_seq ?_
    refine wp_region_lit ?_
    refine st_y hf rfl rfl rfl (y_move rfl rfl) ?_
    clear hf a; intro a hf
    refine st_y hf rfl rfl rfl (y_addw rfl rfl rfl) ?_
    clear hf a; intro a hf
    refine st_y hf rfl rfl rfl (y_assign rfl rfl) ?_
    clear hf a; intro a hf
    refine st_end ?_
    refine x_then_n ?_
    refine wp_seq ?_
    refine wp_region_lit ?_
    refine st_y hf rfl rfl rfl (y_move rfl rfl) ?_
    clear hf a; intro a hf
    refine st_y hf rfl rfl rfl (y_move rfl rfl) ?_
    clear hf a; intro a hf
    refine st_y hf rfl rfl rfl (y_move rfl rfl) ?_
    clear hf a; intro a hf
    refine st_y hf rfl rfl rfl (y_indexAddr st_27 rfl rfl rfl h1_1 (idx_lt2 hx1_3 (rep_slice_len (hm.ow_rep 0 rfl)))) ?_
    clear hf a; intro a hf
    refine st_y hf rfl rfl rfl (y_fieldAddr fo_50_1 rfl rfl) ?_
    clear hf a; intro a hf
    refine st_ef0 hf rfl rfl (e_setElem (x1 := (⟨xs1_1.2, w64 (xs1_1.2 + 1), x1_1.b, x1_1.c, x1_1.n_⟩ : Mins)) (j := 1) (vs := [(.int .i64 (w64 (xs1_1.2 + 1)))]) 0 hf hm rfl hx1_3 rfl Try.sizeOf3 rfl rfl rfl (one_cons rfl one_nil) rfl rfl) ?_
    clear hf a; rintro _ w1_2 a hm hf
    have hx1_4 := List.getElem?_set_self (a := (⟨xs1_1.2, w64 (xs1_1.2 + 1), x1_1.b, x1_1.c, x1_1.n_⟩ : Mins)) (idx_lt hx1_2)
    simp only [List.set_set] at hm
    refine st_end ?_
    refine x_then_n ?_
    refine wp_seq ?_
    refine wp_region_lit ?_
    refine st_y hf rfl rfl rfl (y_move rfl rfl) ?_
    clear hf a; intro a hf
    refine st_y hf rfl rfl rfl (y_addw rfl rfl rfl) ?_
    clear hf a; intro a hf
    refine st_y hf rfl rfl rfl (y_assign rfl rfl) ?_
    clear hf a; intro a hf
    refine st_end ?_
    refine x_then_n ?_
    refine wp_seq ?_
    refine wp_region_lit ?_
    refine st_y hf rfl rfl rfl (y_move rfl rfl) ?_
    clear hf a; intro a hf
    refine st_y hf rfl rfl rfl (y_move rfl rfl) ?_
    clear hf a; intro a hf
    refine st_y hf rfl rfl rfl (y_move rfl rfl) ?_
    clear hf a; intro a hf
    refine st_y hf rfl rfl rfl (y_indexAddr st_27 rfl rfl rfl h1_1 (idx_lt2 hx1_4 (rep_slice_len (hm.ow_rep 0 rfl)))) ?_
    clear hf a; intro a hf
    refine st_y hf rfl rfl rfl (y_fieldAddr fo_50_2 rfl rfl) ?_
    clear hf a; intro a hf
    refine st_ef0 hf rfl rfl (e_setElem (x1 := (⟨xs1_1.2, w64 (xs1_1.2 + 1), w64 ((w64 (xs1_1.2 + 1)) + 1), x1_1.c, x1_1.n_⟩ : Mins)) (j := 2) (vs := [(.int .i64 (w64 ((w64 (xs1_1.2 + 1)) + 1)))]) 0 hf hm rfl hx1_4 rfl Try.sizeOf3 rfl rfl rfl (one_cons rfl one_nil) rfl rfl) ?_
    clear hf a; rintro _ w1_3 a hm hf
    have hx1_5 := List.getElem?_set_self (a := (⟨xs1_1.2, w64 (xs1_1.2 + 1), w64 ((w64 (xs1_1.2 + 1)) + 1), x1_1.c, x1_1.n_⟩ : Mins)) (idx_lt hx1_2)
    simp only [List.set_set] at hm
    refine st_end ?_
    refine x_then_n ?_
    refine wp_seq ?_
    refine wp_region_lit ?_
    refine st_y hf rfl rfl rfl (y_move rfl rfl) ?_
    clear hf a; intro a hf
    refine st_y hf rfl rfl rfl (y_addw rfl rfl rfl) ?_
    clear hf a; intro a hf
    refine st_y hf rfl rfl rfl (y_assign rfl rfl) ?_
    clear hf a; intro a hf
    refine st_end ?_
    refine x_then_n ?_
    refine wp_seq ?_
    refine wp_region_lit ?_
    refine st_y hf rfl rfl rfl (y_move rfl rfl) ?_
    clear hf a; intro a hf
    refine st_y hf rfl rfl rfl (y_move rfl rfl) ?_
    clear hf a; intro a hf
    refine st_y hf rfl rfl rfl (y_move rfl rfl) ?_
    clear hf a; intro a hf
    refine st_y hf rfl rfl rfl (y_indexAddr st_27 rfl rfl rfl h1_1 (idx_lt2 hx1_5 (rep_slice_len (hm.ow_rep 0 rfl)))) ?_
    clear hf a; intro a hf
    refine st_y hf rfl rfl rfl (y_fieldAddr fo_50_3 rfl rfl) ?_
    clear hf a; intro a hf
    refine st_ef0 hf rfl rfl (e_setElem (x1 := (⟨xs1_1.2, w64 (xs1_1.2 + 1), w64 ((w64 (xs1_1.2 + 1)) + 1), w64 ((w64 ((w64 (xs1_1.2 + 1)) + 1)) + 1), x1_1.n_⟩ : Mins)) (j := 3) (vs := [(.int .i64 (w64 ((w64 ((w64 (xs1_1.2 + 1)) + 1)) + 1)))]) 0 hf hm rfl hx1_5 rfl Try.sizeOf3 rfl rfl rfl (one_cons rfl one_nil) rfl rfl) ?_
    clear hf a; rintro _ w1_4 a hm hf
    have hx1_6 := List.getElem?_set_self (a := (⟨xs1_1.2, w64 (xs1_1.2 + 1), w64 ((w64 (xs1_1.2 + 1)) + 1), w64 ((w64 ((w64 (xs1_1.2 + 1)) + 1)) + 1), x1_1.n_⟩ : Mins)) (idx_lt hx1_2)
    simp only [List.set_set] at hm
    refine st_end ?_
    refine x_then_n ?_
    refine wp_seq ?_
    refine wp_region_lit ?_
    refine st_y hf rfl rfl rfl (y_move rfl rfl) ?_
    clear hf a; intro a hf
    refine st_y hf rfl rfl rfl (y_addw rfl rfl rfl) ?_
    clear hf a; intro a hf
    refine st_y hf rfl rfl rfl (y_assign rfl rfl) ?_
    clear hf a; intro a hf
    refine st_end ?_
    refine x_then_n ?_
    refine wp_seq ?_
    refine wp_region_lit ?_
    refine st_y hf rfl rfl rfl (y_move rfl rfl) ?_
    clear hf a; intro a hf
    refine st_y hf rfl rfl rfl (y_move rfl rfl) ?_
    clear hf a; intro a hf
    refine st_y hf rfl rfl rfl (y_move rfl rfl) ?_
    clear hf a; intro a hf
    refine st_y hf rfl rfl rfl (y_indexAddr st_27 rfl rfl rfl h1_1 (idx_lt2 hx1_6 (rep_slice_len (hm.ow_rep 0 rfl)))) ?_
    clear hf a; intro a hf
    refine st_y hf rfl rfl rfl (y_fieldAddr fo_50_4 rfl rfl) ?_
    clear hf a; intro a hf
    refine st_ef0 hf rfl rfl (e_setElem (x1 := (⟨xs1_1.2, w64 (xs1_1.2 + 1), w64 ((w64 (xs1_1.2 + 1)) + 1), w64 ((w64 ((w64 (xs1_1.2 + 1)) + 1)) + 1), w64 ((w64 ((w64 ((w64 (xs1_1.2 + 1)) + 1)) + 1)) + 1)⟩ : Mins)) (j := 4) (vs := [(.int .i64 (w64 ((w64 ((w64 ((w64 (xs1_1.2 + 1)) + 1)) + 1)) + 1)))]) 0 hf hm rfl hx1_6 rfl Try.sizeOf3 rfl rfl rfl (one_cons rfl one_nil) rfl rfl) ?_
    clear hf a; rintro _ w1_5 a hm hf
    have hx1_7 := List.getElem?_set_self (a := (⟨xs1_1.2, w64 (xs1_1.2 + 1), w64 ((w64 (xs1_1.2 + 1)) + 1), w64 ((w64 ((w64 (xs1_1.2 + 1)) + 1)) + 1), w64 ((w64 ((w64 ((w64 (xs1_1.2 + 1)) + 1)) + 1)) + 1)⟩ : Mins)) (idx_lt hx1_2)
    simp only [List.set_set] at hm
    refine st_end ?_
    refine x_then_n ?_
    refine wp_region_lit ?_
    refine st_y hf rfl rfl rfl (y_move rfl rfl) ?_
    clear hf a; intro a hf
    refine st_y hf rfl rfl rfl (y_addw rfl rfl rfl) ?_
    clear hf a; intro a hf
    refine st_y hf rfl rfl rfl (y_assign rfl rfl) ?_
    clear hf a; intro a hf
    refine st_end ?_
    refine x_blk_n ?_
    refine x_then_n ?_
    refine wp_region_lit ?_
    refine st_y hf rfl rfl rfl (y_move rfl rfl) ?_
    clear hf a; intro a hf
    refine st_y hf rfl rfl rfl (y_add64 rfl rfl rfl (by omega) (by omega)) ?_
    clear hf a; intro a hf
    refine st_y hf rfl rfl rfl (y_assign rfl rfl) ?_
    clear hf a; intro a hf
    refine st_end ?_
    refine x_then_n ?_
    obtain rfl := Option.some.inj hb0_1
    exact ⟨_, rfl, hf.sub ⟨rfl, rfl, rfl, trivial⟩, hm.pick [0] (by decide) rfl⟩
  ·
    clear hf hm
    rintro i0_1 xs0_1 a w ⟨hf, hm⟩ hi0_1 hi0_2 rfl
    replace hq := sum_l hq
    refine wp_seq ?_
    refine wp_seq ?_
    refine wp_region_lit ?_
    refine st_y hf rfl rfl rfl (y_move rfl rfl) ?_
    clear hf a; intro a hf
    refine st_y hf rfl rfl rfl (y_move rfl rfl) ?_
    clear hf a; intro a hf
    have hl0_3 := rep_len (hm.ow_rep 0 rfl)
    refine st_y hf rfl rfl rfl (y_len_slice st_27.und rfl rfl) ?_
    clear hf a; intro a hf
    refine st_y hf rfl rfl rfl (y_lss rfl rfl rfl) ?_
    clear hf a; intro a hf
    refine st_end ?_
    refine x_then_n ?_
    refine cond_f hf rfl (decide_eq_false (by omega)) ?_
    refine wp_exit ?_
    refine x_then_exit ?_
    refine x_then_exit ?_
    refine x_blk_hit ?_
    refine x_then_n ?_
    refine wp_seq ?_
    refine wp_region_lit ?_
    refine st_y hf rfl rfl rfl (y_move rfl rfl) ?_
    clear hf a; intro a hf
    refine st_y hf rfl rfl rfl (y_assign rfl rfl) ?_
    clear hf a; intro a hf
    refine st_end ?_
    refine x_then_n ?_
    refine wp_ret ?_
    obtain rfl := Option.some.inj hq
    refine ret_tmp hf Try.results35 rfl ?_
    exact ⟨rfl, hm.pick [0] (by decide) rfl⟩

theorem laws_markMfn_ok (w0 : World) (hz : Heap) (a_ : Mfn) (v1 : Value) (k_ : Int) (hm0 : Mem w0 hz w0 [ow [v1] a_.ins]) (r : Int × (List Mins)) (hq : laws_markMfn a_ k_ = some r) :
    Con Try.prog 15 [(.agg #[(.int .i64 (a_.params)), (.int .i64 (a_.slots)), v1]), (.int .i64 (k_))] w0 (fun v w' => v = (.int .i64 (r.1)) ∧ Mem w0 hz w' [ow [v1] r.2]) := by
  unfold laws_markMfn at hq
  refine con_body (l := [(0, (.agg #[(.int .i64 (a_.params)), (.int .i64 (a_.slots)), v1])), (1, (.int .i64 (k_)))]) Try.func15 rfl Try.ntmps15 (Args.get ⟨rfl, rfl, trivial⟩) rfl ?_
  intro a hf
  have hm := hm0
  refine wp_seq ?_
  refine wp_region_lit ?_
  refine st_ef hf rfl rfl rfl (e_box hf hm rfl rfl rfl) ?_
  clear hf a; rintro _ w0_1 a ⟨b0_1, rfl, hm⟩ hf
  refine st_y hf rfl rfl rfl (y_assign rfl rfl) ?_
  clear hf a; intro a hf
  refine st_end ?_
  refine x_then_n ?_
  refine wp_seq ?_
  refine wp_region_lit ?_
  refine st_y hf rfl rfl rfl (y_fieldAddr fo_29_2 rfl rfl) ?_
  clear hf a; intro a hf
  refine st_y hf rfl rfl rfl (y_load1 Try.isAgg27 rfl rfl (hm.blk_cell 0 rfl rfl)) ?_
  clear hf a; intro a hf
  refine st_y hf rfl rfl rfl (y_move rfl rfl) ?_
  clear hf a; intro a hf
  obtain ⟨r0_1, hx0_1, hq⟩ := bnd hq
  obtain ⟨hz0_1, hle, hm1, hsub, hk0_1⟩ := hm.take (L1 := [ow [v1] a_.ins]) (L2 := [blk b0_1 [(.int .i64 (a_.params)), (.int .i64 (a_.slots)), v1] 29]) [1] [0] (by decide) rfl rfl
  refine st_ef hf rfl rfl rfl (e_call hf rfl Try.call35 rfl (laws_markMinsS_ok _ hz0_1 a_.ins v1 k_ hm1 _ hx0_1)) ?_
  clear hf a; rintro _ w0_2 a ⟨rfl, hB⟩ hf
  replace hm := hk0_1 _ _ hB; clear hB
  refine st_y hf rfl rfl rfl (y_assign rfl rfl) ?_
  clear hf a; intro a hf
  refine st_end ?_
  refine x_then_n ?_
  refine wp_seq ?_
  refine wp_region_lit ?_
  refine st_y hf rfl rfl rfl (y_move rfl rfl) ?_
  clear hf a; intro a hf
  refine st_y hf rfl rfl rfl (y_assign rfl rfl) ?_
  clear hf a; intro a hf
  refine st_end ?_
  refine x_then_n ?_
  refine wp_ret ?_
  obtain rfl := Option.some.inj hq
  refine ret_tmp hf Try.results15 rfl ?_
  exact ⟨rfl, hm.pick [0] (by decide) rfl⟩

theorem laws_markIntS_ok (w0 : World) (hz : Heap) (a_ : List Int) (v1 : Value) (k_ : Int) (hm0 : Mem w0 hz w0 [ow [v1] a_]) (r : Int × (List Int)) (hq : laws_markIntS a_ k_ = some r) :
    Con Try.prog 16 [v1, (.int .i64 (k_))] w0 (fun v w' => v = (.int .i64 (r.1)) ∧ Mem w0 hz w' [ow [v1] r.2]) := by
  unfold laws_markIntS at hq
  refine con_body (l := [(0, v1), (1, (.int .i64 (k_)))]) Try.func16 rfl Try.ntmps16 (Args.get ⟨rfl, rfl, trivial⟩) rfl ?_
  intro a hf
  have hm := hm0
  refine wp_seq ?_
  refine wp_region_lit ?_
  refine st_y hf rfl rfl rfl (y_assign rfl rfl) ?_
  clear hf a; intro a hf
  refine st_end ?_
  refine x_then_n ?_
  refine wp_seq ?_
  refine wp_seq ?_
  refine wp_region_lit ?_
  refine st_y hf rfl rfl rfl (y_assign rfl rfl) ?_
  clear hf a; intro a hf
  refine st_end ?_
  refine x_then_n ?_
  obtain ⟨p0_1, c0_1, he, hl0_1⟩ := ro_slice (hm.ow_rep 0 rfl)
  subst he
  refine wp_block ?_
  obtain ⟨r0_1, hl0_2, hq⟩ := bnd hq
  refine wp_forN _ (fun i1_1 xs1_1 a w => Fr 19 [(0, (.slice p0_1 a_.length c0_1)), (1, (.int .i64 (xs1_1.2))), (5, (.int .i64 (i1_1)))] a ∧ Mem w0 hz w [ow [(.slice p0_1 a_.length c0_1)] xs1_1.1]) (0) ((a_.length : Int)) hl0_2 ?_ ?_ ?_
  ·
    exact ⟨hf.sub ⟨rfl, rfl, rfl, trivial⟩, hm.pick [0] (by decide) rfl⟩
  ·
    clear hf hm
    rintro i1_1 xs1_1 a w ⟨hf, hm⟩ hi1_1 hi1_2 q0_1 hb0_1 ho0_1
    refine wp_seq ?_
    refine wp_seq ?_
    refine wp_region_lit ?_
    refine st_y hf rfl rfl rfl (y_move rfl rfl) ?_
    clear hf a; intro a hf
    refine st_y hf rfl rfl rfl (y_move rfl rfl) ?_
    clear hf a; intro a hf
    have hl1_1 := rep_len (hm.ow_rep 0 rfl)
    refine st_y hf rfl rfl rfl (y_len_slice st_33.und rfl rfl) ?_
    clear hf a; intro a hf
    refine st_y hf rfl rfl rfl (y_lss rfl rfl rfl) ?_
    clear hf a; intro a hf
    refine st_end ?_
    refine x_then_n ?_
    refine cond_t hf rfl (decide_eq_true (by omega)) ?_
    refine wp_skip ?_
    refine x_then_n ?_
    refine wp_seq ?_
    refine wp_block ?_
    refine wp_seq ?_
    refine wp_region_lit ?_
    refine st_y hf rfl rfl rfl (y_move rfl rfl) ?_
    clear hf a; intro a hf
    refine st_y hf rfl rfl rfl (y_move rfl rfl) ?_
    clear hf a; intro a hf
    refine st_y hf rfl rfl rfl (y_move rfl rfl) ?_
    clear hf a; intro a hf
    obtain ⟨x1_1, hx1_1, hb0_1⟩ := bnd hb0_1
    obtain ⟨h1_1, hx1_2⟩ := getI_some.1 hx1_1
    obtain ⟨b1_1, o1_1, c1_1, he⟩ := idx_form (hm.ow_rep 0 rfl) hx1_2
    simp only [Value.slice.injEq, Option.some.injEq] at he; obtain ⟨rfl, _, rfl⟩ := he
    refine st_y hf rfl rfl rfl (y_indexAddr st_33 rfl rfl rfl h1_1 (idx_lt2 hx1_2 (rep_slice_len (hm.ow_rep 0 rfl)))) ?_
    clear hf a; intro a hf
    refine st_ef0 hf rfl rfl (e_setElem (x1 := xs1_1.2) (j := 0) (vs := [(.int .i64 (xs1_1.2))]) 0 hf hm rfl hx1_2 rfl Try.sizeOf3 rfl rfl rfl (one_cons rfl one_nil) rfl rfl) ?_
    clear hf a; rintro _ w1_1 a hm hf
    have hx1_3 := List.getElem?_set_self (a := xs1_1.2) (idx_lt hx1_2)
    refine st_end ?_
    refine x_then_n ?_
    refine wp_region_lit ?_
    refine st_y hf rfl rfl rfl (y_move rfl rfl) ?_
    clear hf a; intro a hf
    refine st_y hf rfl rfl rfl (y_addw rfl rfl rfl) ?_
    clear hf a; intro a hf
    refine st_y hf rfl rfl rfl (y_assign rfl rfl) ?_
    clear hf a; intro a hf
    refine st_end ?_
    refine x_blk_n ?_
    refine x_then_n ?_
    refine wp_region_lit ?_
    refine st_y hf rfl rfl rfl (y_move rfl rfl) ?_
    clear hf a; intro a hf
    refine st_y hf rfl rfl rfl (y_add64 rfl rfl rfl (by omega) (by omega)) ?_
    clear hf a; intro a hf
    refine st_y hf rfl rfl rfl (y_assign rfl rfl) ?_
    clear hf a; intro a hf
    refine st_end ?_
    refine x_then_n ?_
    obtain rfl := Option.some.inj hb0_1
    exact ⟨_, rfl, hf.sub ⟨rfl, rfl, rfl, trivial⟩, hm.pick [0] (by decide) rfl⟩
  ·
    clear hf hm
    rintro i0_1 xs0_1 a w ⟨hf, hm⟩ hi0_1 hi0_2 rfl
    replace hq := sum_l hq
    refine wp_seq ?_
    refine wp_seq ?_
    refine wp_region_lit ?_
    refine st_y hf rfl rfl rfl (y_move rfl rfl) ?_
    clear hf a; intro a hf
    refine st_y hf rfl rfl rfl (y_move rfl rfl) ?_
    clear hf a; intro a hf
    have hl0_3 := rep_len (hm.ow_rep 0 rfl)
    refine st_y hf rfl rfl rfl (y_len_slice st_33.und rfl rfl) ?_
    clear hf a; intro a hf
    refine st_y hf rfl rfl rfl (y_lss rfl rfl rfl) ?_
    clear hf a; intro a hf
    refine st_end ?_
    refine x_then_n ?_
    refine cond_f hf rfl (decide_eq_false (by omega)) ?_
    refine wp_exit ?_
    refine x_then_exit ?_
    refine x_then_exit ?_
    refine x_blk_hit ?_
    refine x_then_n ?_
    refine wp_seq ?_
    refine wp_region_lit ?_
    refine st_y hf rfl rfl rfl (y_move rfl rfl) ?_
    clear hf a; intro a hf
    refine st_y hf rfl rfl rfl (y_assign rfl rfl) ?_
    clear hf a; intro a hf
    refine st_end ?_
    refine x_then_n ?_
    refine wp_ret ?_
    obtain rfl := Option.some.inj hq
    refine ret_tmp hf Try.results16 rfl ?_
    exact ⟨rfl, hm.pick [0] (by decide) rfl⟩

theorem laws_heldMinsS_ok (w0 : World) (a_ : List Mins) (v1 : Value) (h1 : GT.rep (hp w0) [v1] a_) (k_ : Int) (r : Int) (hq : laws_heldMinsS a_ k_ = some r) :
    Con Try.prog 36 [v1, (.int .i64 (k_))] w0 (fun v w' => v = (.int .i64 (r)) ∧ Below w0.heap.size w0 w') := by
  unfold laws_heldMinsS at hq
  refine con_body (l := [(0, v1), (1, (.int .i64 (k_)))]) Try.func36 rfl Try.ntmps36 (Args.get ⟨rfl, rfl, trivial⟩) rfl ?_
  intro a hf
  have hm := Mem.start w0
  refine wp_seq ?_
  refine wp_region_lit ?_
  refine st_y hf rfl rfl rfl (y_assign rfl rfl) ?_
  clear hf a; intro a hf
  refine st_end ?_
  refine x_then_n ?_
  refine wp_seq ?_
  refine wp_seq ?_
  refine wp_region_lit ?_
  refine st_y hf rfl rfl rfl (y_assign rfl rfl) ?_
  clear hf a; intro a hf
  refine st_end ?_
  refine x_then_n ?_
  refine wp_block ?_
  obtain ⟨r0_1, hl0_1, hq⟩ := bnd hq
  refine wp_forN _ (fun i1_1 xs1_1 a w => Fr 58 [(0, v1), (1, (.int .i64 (xs1_1))), (5, (.int .i64 (i1_1)))] a ∧ Mem w0 (hp w0) w []) (0) ((a_.length : Int)) hl0_1 ?_ ?_ ?_
  ·
    exact ⟨hf.sub ⟨rfl, rfl, rfl, trivial⟩, hm.pick [] (by decide) rfl⟩
  ·
    clear hf hm
    rintro i1_1 xs1_1 a w ⟨hf, hm⟩ hi1_1 hi1_2 q0_1 hb0_1 ho0_1
    refine wp_seq ?_
    refine wp_seq ?_
    refine wp_region_lit ?_
    refine st_y hf rfl rfl rfl (y_move rfl rfl) ?_
    clear hf a; intro a hf
    refine st_y hf rfl rfl rfl (y_move rfl rfl) ?_
    clear hf a; intro a hf
    obtain ⟨p1_1, c1_1, he, hl1_1⟩ := ro_slice (hm.now h1)
    subst he
    refine st_y hf rfl rfl rfl (y_len_slice st_27.und rfl rfl) ?_
    clear hf a; intro a hf
    refine st_y hf rfl rfl rfl (y_lss rfl rfl rfl) ?_
    clear hf a; intro a hf
    refine st_end ?_
    refine x_then_n ?_
    refine cond_t hf rfl (decide_eq_true (by omega)) ?_
    refine wp_skip ?_
    refine x_then_n ?_
    refine wp_seq ?_
    refine wp_block ?_
    refine wp_seq ?_
    refine wp_seq ?_
    refine wp_region_lit ?_
    refine st_y hf rfl rfl rfl (y_move rfl rfl) ?_
    clear hf a; intro a hf
    refine st_y hf rfl rfl rfl (y_move rfl rfl) ?_
    clear hf a; intro a hf
    obtain ⟨x1_1, hx1_1, hb0_1⟩ := bnd hb0_1
    obtain ⟨h1_1, hx1_2⟩ := getI_some.1 hx1_1
    obtain ⟨b1_1, o1_1, c1_2, he⟩ := idx_form h1 hx1_2
    simp only [Value.slice.injEq, Option.some.injEq] at he; obtain ⟨rfl, _, rfl⟩ := he
    refine st_y hf rfl rfl rfl (y_indexAddr st_27 rfl rfl rfl h1_1 (idx_lt hx1_2)) ?_
    clear hf a; intro a hf
    refine st_y hf rfl rfl rfl (y_fieldAddr fo_50_0 rfl rfl) ?_
    clear hf a; intro a hf
    refine st_y hf rfl rfl rfl (y_load1 Try.isAgg3 rfl rfl ((flat_cells (cs := [(.int .i64 (x1_1.op)), (.int .i64 (x1_1.a_)), (.int .i64 (x1_1.b)), (.int .i64 (x1_1.c)), (.int .i64 (x1_1.n_))]) (hm.now h1) hx1_2 rfl).cell (j := 0) rfl)) ?_
    clear hf a; intro a hf
    refine st_y hf rfl rfl rfl (y_move rfl rfl) ?_
    clear hf a; intro a hf
    refine st_y hf rfl rfl rfl (y_neq rfl rfl rfl) ?_
    clear hf a; intro a hf
    refine st_end ?_
    refine x_then_n ?_
    rcases bcases (decide (x1_1.op ≠ xs1_1)) with h1_2 | h1_2
    ·
      replace hb0_1 := (ite_t h1_2).symm.trans hb0_1
      have h1_3 := of_decide_eq_true h1_2
      refine cond_t hf rfl h1_2 ?_
      refine wp_seq ?_
      refine wp_region_lit ?_
      refine st_y hf rfl rfl rfl (y_assign rfl rfl) ?_
      clear hf a; intro a hf
      refine st_end ?_
      refine x_then_n ?_
      refine wp_ret ?_
      refine x_then_ret ?_
      refine x_blk_ret ?_
      refine x_then_ret ?_
      refine x_then_ret ?_
      refine x_blk_ret ?_
      refine x_then_ret ?_
      obtain rfl := Option.some.inj hb0_1
      obtain rfl := ho0_1 _ rfl
      replace hq := sum_r hq
      obtain rfl := Option.some.inj hq
      refine ret_tmp hf Try.results36 rfl ?_
      exact ⟨rfl, hm.below⟩
    ·
      replace hb0_1 := (ite_f h1_2).symm.trans hb0_1
      have h1_4 := of_decide_eq_false h1_2
      refine cond_f hf rfl h1_2 ?_
      refine wp_skip ?_
      refine x_then_n ?_
      refine wp_seq ?_
      refine wp_region_lit ?_
      refine st_y hf rfl rfl rfl (y_move rfl rfl) ?_
      clear hf a; intro a hf
      refine st_y hf rfl rfl rfl (y_addw rfl rfl rfl) ?_
      clear hf a; intro a hf
      refine st_y hf rfl rfl rfl (y_assign rfl rfl) ?_
      clear hf a; intro a hf
      refine st_end ?_
      refine x_then_n ?_
      refine wp_seq ?_
      refine wp_seq ?_
      refine wp_region_lit ?_
      refine st_y hf rfl rfl rfl (y_move rfl rfl) ?_
      clear hf a; intro a hf
      refine st_y hf rfl rfl rfl (y_move rfl rfl) ?_
      clear hf a; intro a hf
      refine st_y hf rfl rfl rfl (y_indexAddr st_27 rfl rfl rfl h1_1 (idx_lt hx1_2)) ?_
      clear hf a; intro a hf
      refine st_y hf rfl rfl rfl (y_fieldAddr fo_50_1 rfl rfl) ?_
      clear hf a; intro a hf
      refine st_y hf rfl rfl rfl (y_load1 Try.isAgg3 rfl rfl ((flat_cells (cs := [(.int .i64 (x1_1.op)), (.int .i64 (x1_1.a_)), (.int .i64 (x1_1.b)), (.int .i64 (x1_1.c)), (.int .i64 (x1_1.n_))]) (hm.now h1) hx1_2 rfl).cell (j := 1) rfl)) ?_
      clear hf a; intro a hf
      refine st_y hf rfl rfl rfl (y_move rfl rfl) ?_
      clear hf a; intro a hf
      refine st_y hf rfl rfl rfl (y_neq rfl rfl rfl) ?_
      clear hf a; intro a hf
      refine st_end ?_
      refine x_then_n ?_
      rcases bcases (decide (x1_1.a_ ≠ (w64 (xs1_1 + 1)))) with h1_5 | h1_5
      ·
        replace hb0_1 := (ite_t h1_5).symm.trans hb0_1
        have h1_6 := of_decide_eq_true h1_5
        refine cond_t hf rfl h1_5 ?_
        refine wp_seq ?_
        refine wp_region_lit ?_
        refine st_y hf rfl rfl rfl (y_assign rfl rfl) ?_
        clear hf a; intro a hf
        refine st_end ?_
        refine x_then_n ?_
        refine wp_ret ?_
        refine x_then_ret ?_
        refine x_blk_ret ?_
        refine x_then_ret ?_
        refine x_then_ret ?_
        refine x_blk_ret ?_
        refine x_then_ret ?_
        obtain rfl := Option.some.inj hb0_1
        obtain rfl := ho0_1 _ rfl
        replace hq := sum_r hq
        obtain rfl := Option.some.inj hq
        refine ret_tmp hf Try.results36 rfl ?_
        exact ⟨rfl, hm.below⟩
      ·
        replace hb0_1 := (ite_f h1_5).symm.trans hb0_1
        have h1_7 := of_decide_eq_false h1_5
        refine cond_f hf rfl h1_5 ?_
        refine wp_skip ?_
        refine x_then_n ?_
        refine wp_seq ?_
        refine wp_region_lit ?_
        refine st_y hf rfl rfl rfl (y_move rfl rfl) ?_
        clear hf a; intro a hf
        refine st_y hf rfl rfl rfl (y_addw rfl rfl rfl) ?_
        clear hf a; intro a hf
        refine st_y hf rfl rfl rfl (y_assign rfl rfl) ?_
        clear hf a; intro a hf
        refine st_end ?_
        refine x_then_n ?_
        refine wp_seq ?_
        refine wp_seq ?_
        refine wp_region_lit ?_
        refine st_y hf rfl rfl rfl (y_move rfl rfl) ?_
        clear hf a; intro a hf
        refine st_y hf rfl rfl rfl (y_move rfl rfl) ?_
        clear hf a; intro a hf
        refine st_y hf rfl rfl rfl (y_indexAddr st_27 rfl rfl rfl h1_1 (idx_lt hx1_2)) ?_
        clear hf a; intro a hf
        refine st_y hf rfl rfl rfl (y_fieldAddr fo_50_2 rfl rfl) ?_
        clear hf a; intro a hf
        refine st_y hf rfl rfl rfl (y_load1 Try.isAgg3 rfl rfl ((flat_cells (cs := [(.int .i64 (x1_1.op)), (.int .i64 (x1_1.a_)), (.int .i64 (x1_1.b)), (.int .i64 (x1_1.c)), (.int .i64 (x1_1.n_))]) (hm.now h1) hx1_2 rfl).cell (j := 2) rfl)) ?_
        clear hf a; intro a hf
        refine st_y hf rfl rfl rfl (y_move rfl rfl) ?_
        clear hf a; intro a hf
        refine st_y hf rfl rfl rfl (y_neq rfl rfl rfl) ?_
        clear hf a; intro a hf
        refine st_end ?_
        refine x_then_n ?_
        rcases bcases (decide (x1_1.b ≠ (w64 ((w64 (xs1_1 + 1)) + 1)))) with h1_8 | h1_8
        ·
          replace hb0_1 := (ite_t h1_8).symm.trans hb0_1
          have h1_9 := of_decide_eq_true h1_8
          refine cond_t hf rfl h1_8 ?_
          refine wp_seq ?_
          refine wp_region_lit ?_
          refine st_y hf rfl rfl rfl (y_assign rfl rfl) ?_
          clear hf a; intro a hf
          refine st_end ?_
          refine x_then_n ?_
          refine wp_ret ?_
          refine x_then_ret ?_
          refine x_blk_ret ?_
          refine x_then_ret ?_
          refine x_then_ret ?_
          refine x_blk_ret ?_
          refine x_then_ret ?_
          obtain rfl := Option.some.inj hb0_1
          obtain rfl := ho0_1 _ rfl
          replace hq := sum_r hq
          obtain rfl := Option.some.inj hq
          refine ret_tmp hf Try.results36 rfl ?_
          exact ⟨rfl, hm.below⟩
        ·
          replace hb0_1 := (ite_f h1_8).symm.trans hb0_1
          have h1_10 := of_decide_eq_false h1_8
          refine cond_f hf rfl h1_8 ?_
          refine wp_skip ?_
          refine x_then_n ?_
          refine wp_seq ?_
          refine wp_region_lit ?_
          refine st_y hf rfl rfl rfl (y_move rfl rfl) ?_
          clear hf a; intro a hf
          refine st_y hf rfl rfl rfl (y_addw rfl rfl rfl) ?_
          clear hf a; intro a hf
          refine st_y hf rfl rfl rfl (y_assign rfl rfl) ?_
          clear hf a; intro a hf
          refine st_end ?_
          refine x_then_n ?_
          refine wp_seq ?_
          refine wp_seq ?_
          refine wp_region_lit ?_
          refine st_y hf rfl rfl rfl (y_move rfl rfl) ?_
          clear hf a; intro a hf
          refine st_y hf rfl rfl rfl (y_move rfl rfl) ?_
          clear hf a; intro a hf
          refine st_y hf rfl rfl rfl (y_indexAddr st_27 rfl rfl rfl h1_1 (idx_lt hx1_2)) ?_
          clear hf a; intro a hf
          refine st_y hf rfl rfl rfl (y_fieldAddr fo_50_3 rfl rfl) ?_
          clear hf a; intro a hf
          refine st_y hf rfl rfl rfl (y_load1 Try.isAgg3 rfl rfl ((flat_cells (cs := [(.int .i64 (x1_1.op)), (.int .i64 (x1_1.a_)), (.int .i64 (x1_1.b)), (.int .i64 (x1_1.c)), (.int .i64 (x1_1.n_))]) (hm.now h1) hx1_2 rfl).cell (j := 3) rfl)) ?_
          clear hf a; intro a hf
          refine st_y hf rfl rfl rfl (y_move rfl rfl) ?_
          clear hf a; intro a hf
          refine st_y hf rfl rfl rfl (y_neq rfl rfl rfl) ?_
          clear hf a; intro a hf
          refine st_end ?_
          refine x_then_n ?_
          rcases bcases (decide (x1_1.c ≠ (w64 ((w64 ((w64 (xs1_1 + 1)) + 1)) + 1)))) with h1_11 | h1_11
          ·
            replace hb0_1 := (ite_t h1_11).symm.trans hb0_1
            have h1_12 := of_decide_eq_true h1_11
            refine cond_t hf rfl h1_11 ?_
            refine wp_seq ?_
            refine wp_region_lit ?_
            refine st_y hf rfl rfl rfl (y_assign rfl rfl) ?_
            clear hf a; intro a hf
            refine st_end ?_
            refine x_then_n ?_
            refine wp_ret ?_
            refine x_then_ret ?_
            refine x_blk_ret ?_
            refine x_then_ret ?_
            refine x_then_ret ?_
            refine x_blk_ret ?_
            refine x_then_ret ?_
            obtain rfl := Option.some.inj hb0_1
            obtain rfl := ho0_1 _ rfl
            replace hq := sum_r hq
            obtain rfl := Option.some.inj hq
            refine ret_tmp hf Try.results36 rfl ?_
            exact ⟨rfl, hm.below⟩
          ·
            replace hb0_1 := (ite_f h1_11).symm.trans hb0_1
            have h1_13 := of_decide_eq_false h1_11
            refine cond_f hf rfl h1_11 ?_
            refine wp_skip ?_
            refine x_then_n ?_
            refine wp_seq ?_
            refine wp_region_lit ?_
            refine st_y hf rfl rfl rfl (y_move rfl rfl) ?_
            clear hf a; intro a hf
            refine st_y hf rfl rfl rfl (y_addw rfl rfl rfl) ?_
            clear hf a; intro a hf
            refine st_y hf rfl rfl rfl (y_assign rfl rfl) ?_
            clear hf a; intro a hf
            refine st_end ?_
            refine x_then_n ?_
            refine wp_seq ?_
            refine wp_seq ?_
            refine wp_region_lit ?_
            refine st_y hf rfl rfl rfl (y_move rfl rfl) ?_
            clear hf a; intro a hf
            refine st_y hf rfl rfl rfl (y_move rfl rfl) ?_
            clear hf a; intro a hf
            refine st_y hf rfl rfl rfl (y_indexAddr st_27 rfl rfl rfl h1_1 (idx_lt hx1_2)) ?_
            clear hf a; intro a hf
            refine st_y hf rfl rfl rfl (y_fieldAddr fo_50_4 rfl rfl) ?_
            clear hf a; intro a hf
            refine st_y hf rfl rfl rfl (y_load1 Try.isAgg3 rfl rfl ((flat_cells (cs := [(.int .i64 (x1_1.op)), (.int .i64 (x1_1.a_)), (.int .i64 (x1_1.b)), (.int .i64 (x1_1.c)), (.int .i64 (x1_1.n_))]) (hm.now h1) hx1_2 rfl).cell (j := 4) rfl)) ?_
            clear hf a; intro a hf
            refine st_y hf rfl rfl rfl (y_move rfl rfl) ?_
            clear hf a; intro a hf
            refine st_y hf rfl rfl rfl (y_neq rfl rfl rfl) ?_
            clear hf a; intro a hf
            refine st_end ?_
            refine x_then_n ?_
            rcases bcases (decide (x1_1.n_ ≠ (w64 ((w64 ((w64 ((w64 (xs1_1 + 1)) + 1)) + 1)) + 1)))) with h1_14 | h1_14
            ·
              replace hb0_1 := (ite_t h1_14).symm.trans hb0_1
              have h1_15 := of_decide_eq_true h1_14
              refine cond_t hf rfl h1_14 ?_
              refine wp_seq ?_
              refine wp_region_lit ?_
              refine st_y hf rfl rfl rfl (y_assign rfl rfl) ?_
              clear hf a; intro a hf
              refine st_end ?_
              refine x_then_n ?_
              refine wp_ret ?_
              refine x_then_ret ?_
              refine x_blk_ret ?_
              refine x_then_ret ?_
              refine x_then_ret ?_
              refine x_blk_ret ?_
              refine x_then_ret ?_
              obtain rfl := Option.some.inj hb0_1
              obtain rfl := ho0_1 _ rfl
              replace hq := sum_r hq
              obtain rfl := Option.some.inj hq
              refine ret_tmp hf Try.results36 rfl ?_
              exact ⟨rfl, hm.below⟩
            ·
              replace hb0_1 := (ite_f h1_14).symm.trans hb0_1
              have h1_16 := of_decide_eq_false h1_14
              refine cond_f hf rfl h1_14 ?_
              refine wp_skip ?_
              refine x_then_n ?_
              refine wp_region_lit ?_
              refine st_y hf rfl rfl rfl (y_move rfl rfl) ?_
              clear hf a; intro a hf
              refine st_y hf rfl rfl rfl (y_addw rfl rfl rfl) ?_
              clear hf a; intro a hf
              refine st_y hf rfl rfl rfl (y_assign rfl rfl) ?_
              clear hf a; intro a hf
              refine st_end ?_
              refine x_blk_n ?_
              refine x_then_n ?_
              refine wp_region_lit ?_
              refine st_y hf rfl rfl rfl (y_move rfl rfl) ?_
              clear hf a; intro a hf
              refine st_y hf rfl rfl rfl (y_add64 rfl rfl rfl (by omega) (by omega)) ?_
              clear hf a; intro a hf
              refine st_y hf rfl rfl rfl (y_assign rfl rfl) ?_
              clear hf a; intro a hf
              refine st_end ?_
              refine x_then_n ?_
              obtain rfl := Option.some.inj hb0_1
              exact ⟨_, rfl, hf.sub ⟨rfl, rfl, rfl, trivial⟩, hm.pick [] (by decide) rfl⟩
  ·
    clear hf hm
    rintro i0_1 xs0_1 a w ⟨hf, hm⟩ hi0_1 hi0_2 rfl
    replace hq := sum_l hq
    refine wp_seq ?_
    refine wp_seq ?_
    refine wp_region_lit ?_
    refine st_y hf rfl rfl rfl (y_move rfl rfl) ?_
    clear hf a; intro a hf
    refine st_y hf rfl rfl rfl (y_move rfl rfl) ?_
    clear hf a; intro a hf
    obtain ⟨p0_1, c0_1, he, hl0_2⟩ := ro_slice (hm.now h1)
    subst he
    refine st_y hf rfl rfl rfl (y_len_slice st_27.und rfl rfl) ?_
    clear hf a; intro a hf
    refine st_y hf rfl rfl rfl (y_lss rfl rfl rfl) ?_
    clear hf a; intro a hf
    refine st_end ?_
    refine x_then_n ?_
    refine cond_f hf rfl (decide_eq_false (by omega)) ?_
    refine wp_exit ?_
    refine x_then_exit ?_
    refine x_then_exit ?_
    refine x_blk_hit ?_
    refine x_then_n ?_
    refine wp_seq ?_
    refine wp_region_lit ?_
    refine st_y hf rfl rfl rfl (y_move rfl rfl) ?_
    clear hf a; intro a hf
    refine st_y hf rfl rfl rfl (y_assign rfl rfl) ?_
    clear hf a; intro a hf
    refine st_end ?_
    refine x_then_n ?_
    refine wp_ret ?_
    obtain rfl := Option.some.inj hq
    refine ret_tmp hf Try.results36 rfl ?_
    exact ⟨rfl, hm.below⟩

theorem laws_heldMfn_ok (w0 : World) (a_ : Mfn) (v1 : Value) (h1 : GT.rep (hp w0) [v1] a_.ins) (k_ : Int) (r : Int) (hq : laws_heldMfn a_ k_ = some r) :
    Con Try.prog 17 [(.agg #[(.int .i64 (a_.params)), (.int .i64 (a_.slots)), v1]), (.int .i64 (k_))] w0 (fun v w' => v = (.int .i64 (r)) ∧ Below w0.heap.size w0 w') := by
  unfold laws_heldMfn at hq
  refine con_body (l := [(0, (.agg #[(.int .i64 (a_.params)), (.int .i64 (a_.slots)), v1])), (1, (.int .i64 (k_)))]) Try.func17 rfl Try.ntmps17 (Args.get ⟨rfl, rfl, trivial⟩) rfl ?_
  intro a hf
  have hm := Mem.start w0
  refine wp_seq ?_
  refine wp_region_lit ?_
  refine st_ef hf rfl rfl rfl (e_box hf hm rfl rfl rfl) ?_
  clear hf a; rintro _ w0_1 a ⟨b0_1, rfl, hm⟩ hf
  refine st_y hf rfl rfl rfl (y_assign rfl rfl) ?_
  clear hf a; intro a hf
  refine st_end ?_
  refine x_then_n ?_
  refine wp_seq ?_
  refine wp_region_lit ?_
  refine st_y hf rfl rfl rfl (y_fieldAddr fo_29_2 rfl rfl) ?_
  clear hf a; intro a hf
  refine st_y hf rfl rfl rfl (y_load1 Try.isAgg27 rfl rfl (hm.blk_cell 0 rfl rfl)) ?_
  clear hf a; intro a hf
  refine st_y hf rfl rfl rfl (y_move rfl rfl) ?_
  clear hf a; intro a hf
  obtain ⟨r0_1, hx0_1, hq⟩ := bnd hq
  refine st_ef hf rfl rfl rfl (e_call hf rfl Try.call36 rfl (laws_heldMinsS_ok _ a_.ins v1 (hm.now h1) k_ _ hx0_1)) ?_
  clear hf a; rintro _ w0_2 a ⟨rfl, hB⟩ hf
  replace hm := hm.below' hB; clear hB
  refine st_y hf rfl rfl rfl (y_assign rfl rfl) ?_
  clear hf a; intro a hf
  refine st_end ?_
  refine x_then_n ?_
  refine wp_seq ?_
  refine wp_seq ?_
  refine wp_region_lit ?_
  refine st_y hf rfl rfl rfl (y_move rfl rfl) ?_
  clear hf a; intro a hf
  refine st_y hf rfl rfl rfl (y_lss rfl rfl rfl) ?_
  clear hf a; intro a hf
  refine st_end ?_
  refine x_then_n ?_
  rcases bcases (decide (r0_1 < 0)) with h0_1 | h0_1
  ·
    replace hq := (ite_t h0_1).symm.trans hq
    have h0_2 := of_decide_eq_true h0_1
    refine cond_t hf rfl h0_1 ?_
    refine wp_seq ?_
    refine wp_region_lit ?_
    refine st_y hf rfl rfl rfl (y_assign rfl rfl) ?_
    clear hf a; intro a hf
    refine st_end ?_
    refine x_then_n ?_
    refine wp_ret ?_
    refine x_then_ret ?_
    obtain rfl := Option.some.inj hq
    refine ret_tmp hf Try.results17 rfl ?_
    exact ⟨rfl, hm.below⟩
  ·
    replace hq := (ite_f h0_1).symm.trans hq
    have h0_3 := of_decide_eq_false h0_1
    refine cond_f hf rfl h0_1 ?_
    refine wp_skip ?_
    refine x_then_n ?_
    refine wp_seq ?_
    refine wp_region_lit ?_
    refine st_y hf rfl rfl rfl (y_move rfl rfl) ?_
    clear hf a; intro a hf
    refine st_y hf rfl rfl rfl (y_assign rfl rfl) ?_
    clear hf a; intro a hf
    refine st_end ?_
    refine x_then_n ?_
    refine wp_ret ?_
    obtain rfl := Option.some.inj hq
    refine ret_tmp hf Try.results17 rfl ?_
    exact ⟨rfl, hm.below⟩

theorem laws_FnExactDropMins_ok (w0 : World) (aF : Mfn) (v1 : Value) (h1 : GT.rep (hp w0) [v1] aF.ins) (aList : List Int) (v2 : Value) (h2 : GT.rep (hp w0) [v2] aList) (r : Bool) (hq : laws_FnExactDropMins aF aList = some r) :
    Con Try.prog 4 [(.agg #[(.int .i64 (aF.params)), (.int .i64 (aF.slots)), v1]), v2] w0 (fun v w' => v = (.bool (r)) ∧ Below w0.heap.size w0 w') := by
  unfold laws_FnExactDropMins at hq
  refine con_body (l := [(0, (.agg #[(.int .i64 (aF.params)), (.int .i64 (aF.slots)), v1])), (1, v2)]) Try.func4 rfl Try.ntmps4 (Args.get ⟨rfl, rfl, trivial⟩) rfl ?_
  intro a hf
  have hm := Mem.start w0
  refine wp_seq ?_
  refine wp_region_lit ?_
  refine st_ef hf rfl rfl rfl (e_box hf hm rfl rfl rfl) ?_
  clear hf a; rintro _ w0_1 a ⟨b0_1, rfl, hm⟩ hf
  refine st_y hf rfl rfl rfl (y_assign rfl rfl) ?_
  clear hf a; intro a hf
  refine st_end ?_
  refine x_then_n ?_
  refine wp_seq ?_
  refine wp_seq ?_
  refine wp_region_lit ?_
  refine st_y hf rfl rfl rfl (y_move rfl rfl) ?_
  clear hf a; intro a hf
  obtain ⟨p0_1, c0_1, he, hl0_1⟩ := ro_slice (hm.now h2)
  subst he
  refine st_y hf rfl rfl rfl (y_len_slice st_33.und rfl rfl) ?_
  clear hf a; intro a hf
  refine st_y hf rfl rfl rfl (y_gtr rfl rfl rfl) ?_
  clear hf a; intro a hf
  refine st_end ?_
  refine x_then_n ?_
  rcases bcases (decide (1048576 < ((aList.length : Int)))) with h0_1 | h0_1
  ·
    replace hq := (ite_t h0_1).symm.trans hq
    have h0_2 := of_decide_eq_true h0_1
    refine cond_t hf rfl h0_1 ?_
    refine wp_seq ?_
    refine wp_region_lit ?_
    refine st_y hf rfl rfl rfl (y_assign rfl rfl) ?_
    clear hf a; intro a hf
    refine st_end ?_
    refine x_then_n ?_
    refine wp_ret ?_
    refine x_then_ret ?_
    obtain rfl := Option.some.inj hq
    refine ret_tmp hf Try.results4 rfl ?_
    exact ⟨rfl, hm.below⟩
  ·
    replace hq := (ite_f h0_1).symm.trans hq
    have h0_3 := of_decide_eq_false h0_1
    refine cond_f hf rfl h0_1 ?_
    refine wp_skip ?_
    refine x_then_n ?_
    refine wp_seq ?_
    refine wp_region_lit ?_
    refine st_y hf rfl rfl rfl (y_assign rfl rfl) ?_
    clear hf a; intro a hf
    refine st_end ?_
    refine x_then_n ?_
    refine wp_seq ?_
    refine wp_region_lit ?_
    refine st_y hf rfl rfl rfl (y_loadN (cs := [(.int .i64 (aF.params)), (.int .i64 (aF.slots)), v1]) Try.isAgg24 Try.sizeOf24 rfl rfl (hm.blk_at 0 rfl)) ?_
    clear hf a; intro a hf
    refine st_y hf rfl rfl rfl (y_move rfl rfl) ?_
    clear hf a; intro a hf
    obtain ⟨r0_1, hx0_1, hq⟩ := bnd hq
    refine st_ef hf rfl rfl rfl (e_call hf rfl Try.call6 rfl (laws_szMfn_ok _ aF v1 (hm.now h1) 1048576 _ hx0_1)) ?_
    clear hf a; rintro _ w0_2 a ⟨rfl, hB⟩ hf
    replace hm := hm.below' hB; clear hB
    refine st_y hf rfl rfl rfl (y_assign rfl rfl) ?_
    clear hf a; intro a hf
    refine st_end ?_
    refine x_then_n ?_
    refine wp_seq ?_
    refine wp_seq ?_
    refine wp_region_lit ?_
    refine st_y hf rfl rfl rfl (y_move rfl rfl) ?_
    clear hf a; intro a hf
    refine st_y hf rfl rfl rfl (y_lss rfl rfl rfl) ?_
    clear hf a; intro a hf
    refine st_end ?_
    refine x_then_n ?_
    rcases bcases (decide (r0_1 < 0)) with h0_4 | h0_4
    ·
      replace hq := (ite_t h0_4).symm.trans hq
      have h0_5 := of_decide_eq_true h0_4
      refine cond_t hf rfl h0_4 ?_
      refine wp_seq ?_
      refine wp_region_lit ?_
      refine st_y hf rfl rfl rfl (y_assign rfl rfl) ?_
      clear hf a; intro a hf
      refine st_end ?_
      refine x_then_n ?_
      refine wp_ret ?_
      refine x_then_ret ?_
      obtain rfl := Option.some.inj hq
      refine ret_tmp hf Try.results4 rfl ?_
      exact ⟨rfl, hm.below⟩
    ·
      replace hq := (ite_f h0_4).symm.trans hq
      have h0_6 := of_decide_eq_false h0_4
      refine cond_f hf rfl h0_4 ?_
      refine wp_skip ?_
      refine x_then_n ?_
      refine wp_seq ?_
      refine wp_region_lit ?_
      refine st_y hf rfl rfl rfl (y_loadN (cs := [(.int .i64 (aF.params)), (.int .i64 (aF.slots)), v1]) Try.isAgg24 Try.sizeOf24 rfl rfl (hm.blk_at 0 rfl)) ?_
      clear hf a; intro a hf
      obtain ⟨r0_2, hx0_2, hq⟩ := bnd hq
      refine st_ef hf rfl rfl rfl (e_call hf rfl Try.call8 rfl (laws_toMfn_ok _ aF v1 (hm.now h1) _ hx0_2)) ?_
      clear hf a; rintro _ w0_3 a ⟨v0_1, rfl, hB⟩ hf
      replace hm := hm.give hB; clear hB
      refine st_y hf rfl rfl rfl (y_move rfl rfl) ?_
      clear hf a; intro a hf
      obtain ⟨r0_3, hx0_3, hq⟩ := bnd hq
      refine st_ef hf rfl rfl rfl (e_call hf rfl Try.call12 rfl (laws_toIntS_ok _ aList (.slice p0_1 aList.length c0_1) (hm.now h2) _ hx0_3)) ?_
      clear hf a; rintro v0_2 w0_4 a ⟨_, rfl, hB⟩ hf
      replace hm := hm.give hB; clear hB
      obtain ⟨r0_4, hx0_4, hq⟩ := bnd hq
      refine st_ef hf rfl rfl rfl (e_call hf rfl Try.call11 rfl (spec_DropMins_ok _ r0_2 v0_1 (hm.ow_rep 1 rfl) r0_3 v0_2 (hm.ow_rep 0 rfl) _ hx0_4)) ?_
      clear hf a; rintro _ w0_5 a ⟨v0_3, rfl, hB⟩ hf
      replace hm := hm.give hB; clear hB
      refine st_ef hf rfl rfl rfl (e_alloc hm Try.zeroValue29 rfl rfl) ?_
      clear hf a; rintro _ w0_6 a ⟨b0_2, rfl, hm⟩ hf
      refine st_ef0 hf rfl rfl (e_storeN 0 hf hm rfl Try.sizeOf29 rfl rfl rfl (one_cons rfl (one_cons rfl (one_cons (rep_one (hm.ow_rep 1 rfl)) one_nil))) rfl rfl) ?_
      clear hf a; rintro _ w0_7 a hm hf
      refine st_end ?_
      refine x_then_n ?_
      refine wp_seq ?_
      refine wp_region_lit ?_
      refine st_y hf rfl rfl rfl (y_loadN (cs := [(.int .i64 (aF.params)), (.int .i64 (aF.slots)), v1]) Try.isAgg24 Try.sizeOf24 rfl rfl (hm.blk_at 4 rfl)) ?_
      clear hf a; intro a hf
      obtain ⟨r0_5, hx0_5, hq⟩ := bnd hq
      refine st_ef hf rfl rfl rfl (e_call hf rfl Try.call8 rfl (laws_toMfn_ok _ aF v1 (hm.now h1) _ hx0_5)) ?_
      clear hf a; rintro _ w0_8 a ⟨v0_4, rfl, hB⟩ hf
      replace hm := hm.give hB; clear hB
      refine st_ef hf rfl rfl rfl (e_alloc hm Try.zeroValue29 rfl rfl) ?_
      clear hf a; rintro _ w0_9 a ⟨b0_3, rfl, hm⟩ hf
      refine st_ef0 hf rfl rfl (e_storeN 0 hf hm rfl Try.sizeOf29 rfl rfl rfl (one_cons rfl (one_cons rfl (one_cons (rep_one (hm.ow_rep 1 rfl)) one_nil))) rfl rfl) ?_
      clear hf a; rintro _ w0_10 a hm hf
      refine st_end ?_
      refine x_then_n ?_
      refine wp_seq ?_
      refine wp_region_lit ?_
      refine st_y hf rfl rfl rfl (y_move rfl rfl) ?_
      clear hf a; intro a hf
      obtain ⟨r0_6, hx0_6, hq⟩ := bnd hq
      refine st_ef hf rfl rfl rfl (e_call hf rfl Try.call12 rfl (laws_toIntS_ok _ aList (.slice p0_1 aList.length c0_1) (hm.now h2) _ hx0_6)) ?_
      clear hf a; rintro v0_5 w0_11 a ⟨_, rfl, hB⟩ hf
      replace hm := hm.give hB; clear hB
      refine st_y hf rfl rfl rfl (y_assign rfl rfl) ?_
      clear hf a; intro a hf
      refine st_end ?_
      refine x_then_n ?_
      refine wp_seq ?_
      refine wp_region_lit ?_
      refine st_y hf rfl rfl rfl (y_loadN (cs := [(.int .i64 (r0_5.params)), (.int .i64 (r0_5.slots)), v0_4]) Try.isAgg29 Try.sizeOf29 rfl rfl (hm.blk_at 1 rfl)) ?_
      clear hf a; intro a hf
      refine st_y hf rfl rfl rfl (y_move rfl rfl) ?_
      clear hf a; intro a hf
      obtain ⟨r0_7, hx0_7, hq⟩ := bnd hq
      refine st_ef hf rfl rfl rfl (e_call hf rfl Try.call13 rfl (impl_DropMins_ok _ r0_5 v0_4 (hm.ow_rep 2 rfl) r0_6 v0_5 (hm.ow_rep 0 rfl) _ hx0_7)) ?_
      clear hf a; rintro _ w0_12 a ⟨v0_6, rfl, hB⟩ hf
      replace hm := hm.give hB; clear hB
      refine st_ef hf rfl rfl rfl (e_alloc hm Try.zeroValue29 rfl rfl) ?_
      clear hf a; rintro _ w0_13 a ⟨b0_4, rfl, hm⟩ hf
      refine st_ef0 hf rfl rfl (e_storeN 0 hf hm rfl Try.sizeOf29 rfl rfl rfl (one_cons rfl (one_cons rfl (one_cons (rep_one (hm.ow_rep 1 rfl)) one_nil))) rfl rfl) ?_
      clear hf a; rintro _ w0_14 a hm hf
      refine st_end ?_
      refine x_then_n ?_
      refine wp_seq ?_
      refine wp_seq ?_
      refine wp_region_lit ?_
      refine st_y hf rfl rfl rfl (y_loadN (cs := [(.int .i64 (r0_7.params)), (.int .i64 (r0_7.slots)), v0_6]) Try.isAgg29 Try.sizeOf29 rfl rfl (hm.blk_at 0 rfl)) ?_
      clear hf a; intro a hf
      refine st_y hf rfl rfl rfl (y_loadN (cs := [(.int .i64 (r0_4.params)), (.int .i64 (r0_4.slots)), v0_3]) Try.isAgg29 Try.sizeOf29 rfl rfl (hm.blk_at 5 rfl)) ?_
      clear hf a; intro a hf
      obtain ⟨r0_8, hx0_8, hq⟩ := bnd hq
      refine st_ef hf rfl rfl rfl (e_call hf rfl Try.call10 rfl (laws_eqMfn_ok _ r0_7 v0_6 (hm.ow_rep 1 rfl) r0_4 v0_3 (hm.ow_rep 6 rfl) _ hx0_8)) ?_
      clear hf a; rintro _ w0_15 a ⟨rfl, hB⟩ hf
      replace hm := hm.below' hB; clear hB
      refine st_y hf rfl rfl rfl (y_not rfl rfl) ?_
      clear hf a; intro a hf
      refine st_end ?_
      refine x_then_n ?_
      rcases bcases (!(r0_8)) with h0_7 | h0_7
      ·
        replace hq := (ite_t h0_7).symm.trans hq
        have h0_8 := bnot_t' h0_7
        refine cond_t hf rfl h0_7 ?_
        refine wp_seq ?_
        refine wp_region_lit ?_
        refine st_y hf rfl rfl rfl (y_assign rfl rfl) ?_
        clear hf a; intro a hf
        refine st_end ?_
        refine x_then_n ?_
        refine wp_ret ?_
        refine x_then_ret ?_
        obtain rfl := Option.some.inj hq
        refine ret_tmp hf Try.results4 rfl ?_
        exact ⟨rfl, hm.below⟩
      ·
        replace hq := (ite_f h0_7).symm.trans hq
        have h0_9 := bnot_f' h0_7
        refine cond_f hf rfl h0_7 ?_
        refine wp_skip ?_
        refine x_then_n ?_
        refine wp_seq ?_
        refine wp_seq ?_
        refine wp_draw [(true, 0), (false, 1), (false, 2), (false, 3), (false, 4)] [1, 2] (fun w => Mem w0 (hp w0) w [blk b0_4 [(.int .i64 (r0_7.params)), (.int .i64 (r0_7.slots)), v0_6] 29, ow [v0_6] r0_7.ins, ow [v0_5] r0_6, blk b0_3 [(.int .i64 (r0_5.params)), (.int .i64 (r0_5.slots)), v0_4] 29, ow [v0_4] r0_5.ins, blk b0_2 [(.int .i64 (r0_4.params)), (.int .i64 (r0_4.slots)), v0_3] 29, ow [v0_3] r0_4.ins, ow [v0_2] r0_3, ow [v0_1] r0_2.ins, blk b0_1 [(.int .i64 (aF.params)), (.int .i64 (aF.slots)), v1] 24]) (by kernel_rfl) (by kernel_rfl) (fun _ _ _ h => h.2) ?_
        replace hm := hm.drew
        have hS : Mem w0 (hp w0) _ [blk b0_4 [(.int .i64 (r0_7.params)), (.int .i64 (r0_7.slots)), v0_6] 29, ow [v0_6] r0_7.ins, ow [v0_5] r0_6, blk b0_3 [(.int .i64 (r0_5.params)), (.int .i64 (r0_5.slots)), v0_4] 29, ow [v0_4] r0_5.ins, blk b0_2 [(.int .i64 (r0_4.params)), (.int .i64 (r0_4.slots)), v0_3] 29, ow [v0_3] r0_4.ins, ow [v0_2] r0_3, ow [v0_1] r0_2.ins, blk b0_1 [(.int .i64 (aF.params)), (.int .i64 (aF.slots)), v1] 24] := hm.pick [0, 1, 2, 3, 4, 5, 6, 7, 8, 9] (by decide) rfl
        refine sd_y hf rfl rfl rfl rfl hS (fun w hm => y_loadN (cs := [(.int .i64 (r0_5.params)), (.int .i64 (r0_5.slots)), v0_4]) Try.isAgg29 Try.sizeOf29 rfl rfl (hm.blk_at 3 rfl)) ?_
        clear hf a; intro a hf
        refine sd_ef hf rfl rfl rfl rfl (ef_y hf (y_loadN (cs := [(.int .i64 (aF.params)), (.int .i64 (aF.slots)), v1]) Try.isAgg24 Try.sizeOf24 rfl rfl (hm.blk_at 9 rfl))) ?_
        clear hf a; rintro _ _ a ⟨rfl, rfl⟩ hf
        refine ⟨fun _ => hS, ?_⟩
        obtain ⟨r0_9, hx0_9, hq⟩ := bnd hq
        refine sd_ef hf rfl rfl rfl rfl (e_call hf rfl Try.call8 rfl (laws_toMfn_ok _ aF v1 (hm.now h1) _ hx0_9)) ?_
        clear hf a; rintro _ w0_16 a ⟨v0_7, rfl, hB⟩ hf
        replace hm := hm.give hB; clear hB
        clear hS
        have hS : Mem w0 (hp w0) _ [blk b0_4 [(.int .i64 (r0_7.params)), (.int .i64 (r0_7.slots)), v0_6] 29, ow [v0_6] r0_7.ins, ow [v0_5] r0_6, blk b0_3 [(.int .i64 (r0_5.params)), (.int .i64 (r0_5.slots)), v0_4] 29, ow [v0_4] r0_5.ins, blk b0_2 [(.int .i64 (r0_4.params)), (.int .i64 (r0_4.slots)), v0_3] 29, ow [v0_3] r0_4.ins, ow [v0_2] r0_3, ow [v0_1] r0_2.ins, blk b0_1 [(.int .i64 (aF.params)), (.int .i64 (aF.slots)), v1] 24] := hm.pick [1, 2, 3, 4, 5, 6, 7, 8, 9, 10] (by decide) rfl
        refine ⟨fun _ => hS, ?_⟩
        obtain ⟨r0_10, hx0_10, hq⟩ := bnd hq
        refine sd_ef hf rfl rfl rfl rfl (e_call hf rfl Try.call10 rfl (laws_eqMfn_ok _ r0_5 v0_4 (hm.ow_rep 5 rfl) r0_9 v0_7 (hm.ow_rep 0 rfl) _ hx0_10)) ?_
        clear hf a; rintro _ w0_17 a ⟨rfl, hB⟩ hf
        replace hm := hm.below' hB; clear hB
        refine ⟨fun h => absurd h (by decide), ?_⟩
        refine sd_ef hf rfl rfl rfl rfl (ef_y hf (y_not rfl rfl)) ?_
        clear hf a; rintro _ _ a ⟨rfl, rfl⟩ hf
        refine ⟨fun h => absurd h (by decide), ?_⟩
        clear hS; refine sd_end ?_
        refine x_then_n ?_
        rcases bcases (!(r0_10)) with h0_10 | h0_10
        ·
          replace hq := (ite_t h0_10).symm.trans hq
          have h0_11 := bnot_t' h0_10
          refine cond_t hf rfl h0_10 ?_
          refine wp_seq ?_
          refine wp_region_lit ?_
          refine st_y hf rfl rfl rfl (y_assign rfl rfl) ?_
          clear hf a; intro a hf
          refine st_end ?_
          refine x_then_n ?_
          refine wp_ret ?_
          refine x_then_ret ?_
          obtain rfl := Option.some.inj hq
          refine ret_tmp hf Try.results4 rfl ?_
          exact ⟨rfl, hm.below⟩
        ·
          replace hq := (ite_f h0_10).symm.trans hq
          have h0_12 := bnot_f' h0_10
          refine cond_f hf rfl h0_10 ?_
          refine wp_skip ?_
          refine x_then_n ?_
          refine wp_seq ?_
          refine wp_seq ?_
          refine wp_region_lit ?_
          refine st_y hf rfl rfl rfl (y_move rfl rfl) ?_
          clear hf a; intro a hf
          refine st_y hf rfl rfl rfl (y_move rfl rfl) ?_
          clear hf a; intro a hf
          obtain ⟨r0_11, hx0_11, hq⟩ := bnd hq
          refine st_ef hf rfl rfl rfl (e_call hf rfl Try.call12 rfl (laws_toIntS_ok _ aList (.slice p0_1 aList.length c0_1) (hm.now h2) _ hx0_11)) ?_
          clear hf a; rintro v0_8 w0_18 a ⟨_, rfl, hB⟩ hf
          replace hm := hm.give hB; clear hB
          obtain ⟨r0_12, hx0_12, hq⟩ := bnd hq
          refine st_ef hf rfl rfl rfl (e_call hf rfl Try.call14 rfl (laws_eqIntS_ok _ r0_6 v0_5 (hm.ow_rep 4 rfl) r0_11 v0_8 (hm.ow_rep 0 rfl) _ hx0_12)) ?_
          clear hf a; rintro _ w0_19 a ⟨rfl, hB⟩ hf
          replace hm := hm.below' hB; clear hB
          refine st_y hf rfl rfl rfl (y_not rfl rfl) ?_
          clear hf a; intro a hf
          refine st_end ?_
          refine x_then_n ?_
          rcases bcases (!(r0_12)) with h0_13 | h0_13
          ·
            replace hq := (ite_t h0_13).symm.trans hq
            have h0_14 := bnot_t' h0_13
            refine cond_t hf rfl h0_13 ?_
            refine wp_seq ?_
            refine wp_region_lit ?_
            refine st_y hf rfl rfl rfl (y_assign rfl rfl) ?_
            clear hf a; intro a hf
            refine st_end ?_
            refine x_then_n ?_
            refine wp_ret ?_
            refine x_then_ret ?_
            obtain rfl := Option.some.inj hq
            refine ret_tmp hf Try.results4 rfl ?_
            exact ⟨rfl, hm.below⟩
          ·
            replace hq := (ite_f h0_13).symm.trans hq
            have h0_15 := bnot_f' h0_13
            refine cond_f hf rfl h0_13 ?_
            refine wp_skip ?_
            refine x_then_n ?_
            refine wp_seq ?_
            refine wp_region_lit ?_
            refine st_y hf rfl rfl rfl (y_assign rfl rfl) ?_
            clear hf a; intro a hf
            refine st_end ?_
            refine x_then_n ?_
            refine wp_seq ?_
            refine wp_region_lit ?_
            refine st_y hf rfl rfl rfl (y_loadN (cs := [(.int .i64 (r0_5.params)), (.int .i64 (r0_5.slots)), v0_4]) Try.isAgg29 Try.sizeOf29 rfl rfl (hm.blk_at 5 rfl)) ?_
            clear hf a; intro a hf
            refine st_y hf rfl rfl rfl (y_move rfl rfl) ?_
            clear hf a; intro a hf
            obtain ⟨r0_13, hx0_13, hq⟩ := bnd hq
            obtain ⟨hz0_1, hle, hm1, hsub, hk0_1⟩ := hm.take (L1 := [ow [v0_4] r0_5.ins]) (L2 := [ow [v0_8] r0_11, ow [v0_7] r0_9.ins, blk b0_4 [(.int .i64 (r0_7.params)), (.int .i64 (r0_7.slots)), v0_6] 29, ow [v0_6] r0_7.ins, ow [v0_5] r0_6, blk b0_3 [(.int .i64 (r0_5.params)), (.int .i64 (r0_5.slots)), v0_4] 29, blk b0_2 [(.int .i64 (r0_4.params)), (.int .i64 (r0_4.slots)), v0_3] 29, ow [v0_3] r0_4.ins, ow [v0_2] r0_3, ow [v0_1] r0_2.ins, blk b0_1 [(.int .i64 (aF.params)), (.int .i64 (aF.slots)), v1] 24]) [6] [0, 1, 2, 3, 4, 5, 7, 8, 9, 10, 11] (by decide) rfl rfl
            refine st_ef hf rfl rfl rfl (e_call hf rfl Try.call15 rfl (laws_markMfn_ok _ hz0_1 r0_5 v0_4 1 hm1 _ hx0_13)) ?_
            clear hf a; rintro _ w0_20 a ⟨rfl, hB⟩ hf
            replace hm := hk0_1 _ _ hB; clear hB
            refine st_y hf rfl rfl rfl (y_assign rfl rfl) ?_
            clear hf a; intro a hf
            refine st_end ?_
            refine x_then_n ?_
            refine wp_seq ?_
            refine wp_region_lit ?_
            refine st_y hf rfl rfl rfl (y_move rfl rfl) ?_
            clear hf a; intro a hf
            refine st_y hf rfl rfl rfl (y_move rfl rfl) ?_
            clear hf a; intro a hf
            obtain ⟨r0_14, hx0_14, hq⟩ := bnd hq
            obtain ⟨hz0_2, hle, hm1, hsub, hk0_2⟩ := hm.take (L1 := [ow [v0_5] r0_6]) (L2 := [ow [v0_4] r0_13.2, ow [v0_8] r0_11, ow [v0_7] r0_9.ins, blk b0_4 [(.int .i64 (r0_7.params)), (.int .i64 (r0_7.slots)), v0_6] 29, ow [v0_6] r0_7.ins, blk b0_3 [(.int .i64 (r0_5.params)), (.int .i64 (r0_5.slots)), v0_4] 29, blk b0_2 [(.int .i64 (r0_4.params)), (.int .i64 (r0_4.slots)), v0_3] 29, ow [v0_3] r0_4.ins, ow [v0_2] r0_3, ow [v0_1] r0_2.ins, blk b0_1 [(.int .i64 (aF.params)), (.int .i64 (aF.slots)), v1] 24]) [5] [0, 1, 2, 3, 4, 6, 7, 8, 9, 10, 11] (by decide) rfl rfl
            refine st_ef hf rfl rfl rfl (e_call hf rfl Try.call16 rfl (laws_markIntS_ok _ hz0_2 r0_6 v0_5 r0_13.1 hm1 _ hx0_14)) ?_
            clear hf a; rintro _ w0_21 a ⟨rfl, hB⟩ hf
            replace hm := hk0_2 _ _ hB; clear hB
            refine st_y hf rfl rfl rfl (y_assign rfl rfl) ?_
            clear hf a; intro a hf
            refine st_end ?_
            refine x_then_n ?_
            refine wp_seq ?_
            refine wp_seq ?_
            obtain ⟨s0_1, hq0_1, hq⟩ := bnd hq
            refine code_cut (K := fun a w => Fr 90 [(1, (.slice p0_1 aList.length c0_1)), (2, (.pointer (some ⟨b0_1, 0, none⟩))), (6, (.pointer (some ⟨b0_2, 0, none⟩))), (9, (.pointer (some ⟨b0_4, 0, none⟩))), (61, (.bool (s0_1)))] a ∧ Mem w0 (hp w0) w [blk b0_1 [(.int .i64 (aF.params)), (.int .i64 (aF.slots)), v1] 24, blk b0_2 [(.int .i64 (r0_4.params)), (.int .i64 (r0_4.slots)), v0_3] 29, ow [v0_3] r0_4.ins, blk b0_4 [(.int .i64 (r0_7.params)), (.int .i64 (r0_7.slots)), v0_6] 29, ow [v0_6] r0_7.ins]) ?_ ?_
            ·
              refine wp_region_lit ?_
              refine st_y hf rfl rfl rfl (y_move rfl rfl) ?_
              clear hf a; intro a hf
              refine st_y hf rfl rfl rfl (y_lss rfl rfl rfl) ?_
              clear hf a; intro a hf
              refine st_y hf rfl rfl rfl (y_move rfl rfl) ?_
              clear hf a; intro a hf
              rcases bcases (decide (r0_14.1 < 0)) with h1_1 | h1_1
              ·
                replace hq0_1 := (ite_t h1_1).symm.trans hq0_1
                have h1_2 := of_decide_eq_true h1_1
                refine st_no hf rfl rfl (lk_b rfl h1_1) rfl rfl rfl ?_
                clear hf a; intro a hf
                refine st_no hf rfl rfl (lk_b rfl h1_1) rfl rfl rfl ?_
                clear hf a; intro a hf
                refine st_no hf rfl rfl (lk_b rfl h1_1) rfl rfl rfl ?_
                clear hf a; intro a hf
                refine st_no hf rfl rfl (lk_b rfl h1_1) rfl rfl rfl ?_
                clear hf a; intro a hf
                refine st_y hf rfl rfl rfl (y_pick_t rfl (ev_b rfl h1_1) rfl) ?_
                clear hf a; intro a hf
                refine st_end ?_
                refine x_then_n ?_
                obtain rfl := Option.some.inj hq0_1
                exact ⟨hf.sub ⟨rfl, rfl, rfl, rfl, rfl, trivial⟩, hm.pick [11, 7, 8, 4, 5] (by decide) rfl⟩
              ·
                replace hq0_1 := (ite_f h1_1).symm.trans hq0_1
                have h1_3 := of_decide_eq_false h1_1
                refine st_yg hf rfl rfl (lk_b rfl h1_1) rfl rfl (y_loadN (cs := [(.int .i64 (r0_7.params)), (.int .i64 (r0_7.slots)), v0_6]) Try.isAgg29 Try.sizeOf29 rfl rfl (hm.blk_at 4 rfl)) ?_
                clear hf a; intro a hf
                refine st_yg hf rfl rfl (lk_b rfl h1_1) rfl rfl (y_loadN (cs := [(.int .i64 (r0_4.params)), (.int .i64 (r0_4.slots)), v0_3]) Try.isAgg29 Try.sizeOf29 rfl rfl (hm.blk_at 7 rfl)) ?_
                clear hf a; intro a hf
                obtain ⟨r1_1, hx1_1, hq0_1⟩ := bnd hq0_1
                refine st_efg hf rfl rfl (lk_b rfl h1_1) rfl rfl (e_call hf rfl Try.call10 rfl (laws_eqMfn_ok _ r0_7 v0_6 (hm.ow_rep 5 rfl) r0_4 v0_3 (hm.ow_rep 8 rfl) _ hx1_1)) ?_
                clear hf a; rintro _ w1_1 a ⟨rfl, hB⟩ hf
                replace hm := hm.below' hB; clear hB
                refine st_yg hf rfl rfl (lk_b rfl h1_1) rfl rfl (y_not rfl rfl) ?_
                clear hf a; intro a hf
                refine st_y hf rfl rfl rfl (y_pick_f rfl (ev_b rfl h1_1) rfl) ?_
                clear hf a; intro a hf
                refine st_end ?_
                refine x_then_n ?_
                obtain rfl := Option.some.inj hq0_1
                exact ⟨hf.sub ⟨rfl, rfl, rfl, rfl, rfl, trivial⟩, hm.pick [11, 7, 8, 4, 5] (by decide) rfl⟩
            ·
              clear hf hm
              rintro a w ⟨hf, hm⟩
              refine x_then_n ?_
              rcases bcases (s0_1) with h0_16 | h0_16
              ·
                replace hq := (ite_t h0_16).symm.trans hq
                refine cond_t hf rfl h0_16 ?_
                refine wp_seq ?_
                refine wp_region_lit ?_
                refine st_y hf rfl rfl rfl (y_assign rfl rfl) ?_
                clear hf a; intro a hf
                refine st_end ?_
                refine x_then_n ?_
                refine wp_ret ?_
                refine x_then_ret ?_
                obtain rfl := Option.some.inj hq
                refine ret_tmp hf Try.results4 rfl ?_
                exact ⟨rfl, hm.below⟩
              ·
                replace hq := (ite_f h0_16).symm.trans hq
                refine cond_f hf rfl h0_16 ?_
                refine wp_skip ?_
                refine x_then_n ?_
                refine wp_seq ?_
                refine wp_region_lit ?_
                refine st_y hf rfl rfl rfl (y_assign rfl rfl) ?_
                clear hf a; intro a hf
                refine st_end ?_
                refine x_then_n ?_
                refine wp_seq ?_
                refine wp_region_lit ?_
                refine st_y hf rfl rfl rfl (y_loadN (cs := [(.int .i64 (r0_7.params)), (.int .i64 (r0_7.slots)), v0_6]) Try.isAgg29 Try.sizeOf29 rfl rfl (hm.blk_at 3 rfl)) ?_
                clear hf a; intro a hf
                refine st_y hf rfl rfl rfl (y_move rfl rfl) ?_
                clear hf a; intro a hf
                obtain ⟨r0_15, hx0_15, hq⟩ := bnd hq
                obtain ⟨hz0_3, hle, hm1, hsub, hk0_3⟩ := hm.take (L1 := [ow [v0_6] r0_7.ins]) (L2 := [blk b0_1 [(.int .i64 (aF.params)), (.int .i64 (aF.slots)), v1] 24, blk b0_2 [(.int .i64 (r0_4.params)), (.int .i64 (r0_4.slots)), v0_3] 29, ow [v0_3] r0_4.ins, blk b0_4 [(.int .i64 (r0_7.params)), (.int .i64 (r0_7.slots)), v0_6] 29]) [4] [0, 1, 2, 3] (by decide) rfl rfl
                refine st_ef hf rfl rfl rfl (e_call hf rfl Try.call15 rfl (laws_markMfn_ok _ hz0_3 r0_7 v0_6 1 hm1 _ hx0_15)) ?_
                clear hf a; rintro _ w0_22 a ⟨rfl, hB⟩ hf
                replace hm := hk0_3 _ _ hB; clear hB
                refine st_y hf rfl rfl rfl (y_assign rfl rfl) ?_
                clear hf a; intro a hf
                refine st_end ?_
                refine x_then_n ?_
                refine wp_seq ?_
                refine wp_region_lit ?_
                refine st_y hf rfl rfl rfl (y_assign rfl rfl) ?_
                clear hf a; intro a hf
                refine st_end ?_
                refine x_then_n ?_
                refine wp_seq ?_
                refine wp_region_lit ?_
                refine st_y hf rfl rfl rfl (y_loadN (cs := [(.int .i64 (r0_7.params)), (.int .i64 (r0_7.slots)), v0_6]) Try.isAgg29 Try.sizeOf29 rfl rfl (hm.blk_at 4 rfl)) ?_
                clear hf a; intro a hf
                refine st_y hf rfl rfl rfl (y_move rfl rfl) ?_
                clear hf a; intro a hf
                obtain ⟨r0_16, hx0_16, hq⟩ := bnd hq
                refine st_ef hf rfl rfl rfl (e_call hf rfl Try.call17 rfl (laws_heldMfn_ok _ (⟨r0_7.params, r0_7.slots, r0_15.2⟩ : Mfn) v0_6 (hm.ow_rep 0 rfl) 1 _ hx0_16)) ?_
                clear hf a; rintro _ w0_23 a ⟨rfl, hB⟩ hf
                replace hm := hm.below' hB; clear hB
                refine st_y hf rfl rfl rfl (y_assign rfl rfl) ?_
                clear hf a; intro a hf
                refine st_end ?_
                refine x_then_n ?_
                refine wp_seq ?_
                refine wp_seq ?_
                refine wp_region_lit ?_
                refine st_y hf rfl rfl rfl (y_move rfl rfl) ?_
                clear hf a; intro a hf
                refine st_y hf rfl rfl rfl (y_lss rfl rfl rfl) ?_
                clear hf a; intro a hf
                refine st_end ?_
                refine x_then_n ?_
                rcases bcases (decide (r0_16 < 0)) with h0_17 | h0_17
                ·
                  replace hq := (ite_t h0_17).symm.trans hq
                  have h0_18 := of_decide_eq_true h0_17
                  refine cond_t hf rfl h0_17 ?_
                  refine wp_seq ?_
                  refine wp_region_lit ?_
                  refine st_y hf rfl rfl rfl (y_assign rfl rfl) ?_
                  clear hf a; intro a hf
                  refine st_end ?_
                  refine x_then_n ?_
                  refine wp_ret ?_
                  refine x_then_ret ?_
                  obtain rfl := Option.some.inj hq
                  refine ret_tmp hf Try.results4 rfl ?_
                  exact ⟨rfl, hm.below⟩
                ·
                  replace hq := (ite_f h0_17).symm.trans hq
                  have h0_19 := of_decide_eq_false h0_17
                  refine cond_f hf rfl h0_17 ?_
                  refine wp_skip ?_
                  refine x_then_n ?_
                  refine wp_seq ?_
                  refine wp_seq ?_
                  refine wp_region_lit ?_
                  refine st_y hf rfl rfl rfl (y_move rfl rfl) ?_
                  clear hf a; intro a hf
                  refine st_y hf rfl rfl rfl (y_move rfl rfl) ?_
                  clear hf a; intro a hf
                  refine st_y hf rfl rfl rfl (y_neq rfl rfl rfl) ?_
                  clear hf a; intro a hf
                  refine st_end ?_
                  refine x_then_n ?_
                  rcases bcases (decide (r0_16 ≠ r0_15.1)) with h0_20 | h0_20
                  ·
                    replace hq := (ite_t h0_20).symm.trans hq
                    have h0_21 := of_decide_eq_true h0_20
                    refine cond_t hf rfl h0_20 ?_
                    refine wp_seq ?_
                    refine wp_region_lit ?_
                    refine st_y hf rfl rfl rfl (y_assign rfl rfl) ?_
                    clear hf a; intro a hf
                    refine st_end ?_
                    refine x_then_n ?_
                    refine wp_ret ?_
                    refine x_then_ret ?_
                    obtain rfl := Option.some.inj hq
                    refine ret_tmp hf Try.results4 rfl ?_
                    exact ⟨rfl, hm.below⟩
                  ·
                    replace hq := (ite_f h0_20).symm.trans hq
                    have h0_22 := of_decide_eq_false h0_20
                    refine cond_f hf rfl h0_20 ?_
                    refine wp_skip ?_
                    refine x_then_n ?_
                    refine wp_seq ?_
                    refine wp_region_lit ?_
                    refine st_y hf rfl rfl rfl (y_loadN (cs := [(.int .i64 (aF.params)), (.int .i64 (aF.slots)), v1]) Try.isAgg24 Try.sizeOf24 rfl rfl (hm.blk_at 1 rfl)) ?_
                    clear hf a; intro a hf
                    obtain ⟨r0_17, hx0_17, hq⟩ := bnd hq
                    refine st_ef hf rfl rfl rfl (e_call hf rfl Try.call8 rfl (laws_toMfn_ok _ aF v1 (hm.now h1) _ hx0_17)) ?_
                    clear hf a; rintro _ w0_24 a ⟨v0_9, rfl, hB⟩ hf
                    replace hm := hm.give hB; clear hB
                    refine st_y hf rfl rfl rfl (y_move rfl rfl) ?_
                    clear hf a; intro a hf
                    obtain ⟨r0_18, hx0_18, hq⟩ := bnd hq
                    refine st_ef hf rfl rfl rfl (e_call hf rfl Try.call12 rfl (laws_toIntS_ok _ aList (.slice p0_1 aList.length c0_1) (hm.now h2) _ hx0_18)) ?_
                    clear hf a; rintro v0_10 w0_25 a ⟨_, rfl, hB⟩ hf
                    replace hm := hm.give hB; clear hB
                    obtain ⟨r0_19, hx0_19, hq⟩ := bnd hq
                    refine st_ef hf rfl rfl rfl (e_call hf rfl Try.call13 rfl (impl_DropMins_ok _ r0_17 v0_9 (hm.ow_rep 1 rfl) r0_18 v0_10 (hm.ow_rep 0 rfl) _ hx0_19)) ?_
                    clear hf a; rintro _ w0_26 a ⟨v0_11, rfl, hB⟩ hf
                    replace hm := hm.give hB; clear hB
                    refine st_ef hf rfl rfl rfl (e_alloc hm Try.zeroValue29 rfl rfl) ?_
                    clear hf a; rintro _ w0_27 a ⟨b0_5, rfl, hm⟩ hf
                    refine st_ef0 hf rfl rfl (e_storeN 0 hf hm rfl Try.sizeOf29 rfl rfl rfl (one_cons rfl (one_cons rfl (one_cons (rep_one (hm.ow_rep 1 rfl)) one_nil))) rfl rfl) ?_
                    clear hf a; rintro _ w0_28 a hm hf
                    refine st_end ?_
                    refine x_then_n ?_
                    refine wp_seq ?_
                    refine wp_seq ?_
                    refine wp_region_lit ?_
                    refine st_y hf rfl rfl rfl (y_loadN (cs := [(.int .i64 (r0_19.params)), (.int .i64 (r0_19.slots)), v0_11]) Try.isAgg29 Try.sizeOf29 rfl rfl (hm.blk_at 0 rfl)) ?_
                    clear hf a; intro a hf
                    refine st_y hf rfl rfl rfl (y_loadN (cs := [(.int .i64 (r0_4.params)), (.int .i64 (r0_4.slots)), v0_3]) Try.isAgg29 Try.sizeOf29 rfl rfl (hm.blk_at 6 rfl)) ?_
                    clear hf a; intro a hf
                    obtain ⟨r0_20, hx0_20, hq⟩ := bnd hq
                    refine st_ef hf rfl rfl rfl (e_call hf rfl Try.call10 rfl (laws_eqMfn_ok _ r0_19 v0_11 (hm.ow_rep 1 rfl) r0_4 v0_3 (hm.ow_rep 7 rfl) _ hx0_20)) ?_
                    clear hf a; rintro _ w0_29 a ⟨rfl, hB⟩ hf
                    replace hm := hm.below' hB; clear hB
                    refine st_y hf rfl rfl rfl (y_not rfl rfl) ?_
                    clear hf a; intro a hf
                    refine st_end ?_
                    refine x_then_n ?_
                    rcases bcases (!(r0_20)) with h0_23 | h0_23
                    ·
                      replace hq := (ite_t h0_23).symm.trans hq
                      have h0_24 := bnot_t' h0_23
                      refine cond_t hf rfl h0_23 ?_
                      refine wp_seq ?_
                      refine wp_region_lit ?_
                      refine st_y hf rfl rfl rfl (y_assign rfl rfl) ?_
                      clear hf a; intro a hf
                      refine st_end ?_
                      refine x_then_n ?_
                      refine wp_ret ?_
                      refine x_then_ret ?_
                      obtain rfl := Option.some.inj hq
                      refine ret_tmp hf Try.results4 rfl ?_
                      exact ⟨rfl, hm.below⟩
                    ·
                      replace hq := (ite_f h0_23).symm.trans hq
                      have h0_25 := bnot_f' h0_23
                      refine cond_f hf rfl h0_23 ?_
                      refine wp_skip ?_
                      refine x_then_n ?_
                      refine wp_seq ?_
                      refine wp_region_lit ?_
                      refine st_y hf rfl rfl rfl (y_assign rfl rfl) ?_
                      clear hf a; intro a hf
                      refine st_end ?_
                      refine x_then_n ?_
                      refine wp_seq ?_
                      refine wp_region_lit ?_
                      refine st_y hf rfl rfl rfl (y_loadN (cs := [(.int .i64 (r0_7.params)), (.int .i64 (r0_7.slots)), v0_6]) Try.isAgg29 Try.sizeOf29 rfl rfl (hm.blk_at 8 rfl)) ?_
                      clear hf a; intro a hf
                      refine st_y hf rfl rfl rfl (y_move rfl rfl) ?_
                      clear hf a; intro a hf
                      obtain ⟨r0_21, hx0_21, hq⟩ := bnd hq
                      refine st_ef hf rfl rfl rfl (e_call hf rfl Try.call17 rfl (laws_heldMfn_ok _ (⟨r0_7.params, r0_7.slots, r0_15.2⟩ : Mfn) v0_6 (hm.ow_rep 4 rfl) 1 _ hx0_21)) ?_
                      clear hf a; rintro _ w0_30 a ⟨rfl, hB⟩ hf
                      replace hm := hm.below' hB; clear hB
                      refine st_y hf rfl rfl rfl (y_assign rfl rfl) ?_
                      clear hf a; intro a hf
                      refine st_end ?_
                      refine x_then_n ?_
                      refine wp_seq ?_
                      refine wp_seq ?_
                      refine wp_region_lit ?_
                      refine st_y hf rfl rfl rfl (y_move rfl rfl) ?_
                      clear hf a; intro a hf
                      refine st_y hf rfl rfl rfl (y_lss rfl rfl rfl) ?_
                      clear hf a; intro a hf
                      refine st_end ?_
                      refine x_then_n ?_
                      rcases bcases (decide (r0_21 < 0)) with h0_26 | h0_26
                      ·
                        replace hq := (ite_t h0_26).symm.trans hq
                        have h0_27 := of_decide_eq_true h0_26
                        refine cond_t hf rfl h0_26 ?_
                        refine wp_seq ?_
                        refine wp_region_lit ?_
                        refine st_y hf rfl rfl rfl (y_assign rfl rfl) ?_
                        clear hf a; intro a hf
                        refine st_end ?_
                        refine x_then_n ?_
                        refine wp_ret ?_
                        refine x_then_ret ?_
                        obtain rfl := Option.some.inj hq
                        refine ret_tmp hf Try.results4 rfl ?_
                        exact ⟨rfl, hm.below⟩
                      ·
                        replace hq := (ite_f h0_26).symm.trans hq
                        have h0_28 := of_decide_eq_false h0_26
                        refine cond_f hf rfl h0_26 ?_
                        refine wp_skip ?_
                        refine x_then_n ?_
                        refine wp_seq ?_
                        refine wp_seq ?_
                        refine wp_region_lit ?_
                        refine st_y hf rfl rfl rfl (y_move rfl rfl) ?_
                        clear hf a; intro a hf
                        refine st_y hf rfl rfl rfl (y_move rfl rfl) ?_
                        clear hf a; intro a hf
                        refine st_y hf rfl rfl rfl (y_neq rfl rfl rfl) ?_
                        clear hf a; intro a hf
                        refine st_end ?_
                        refine x_then_n ?_
                        rcases bcases (decide (r0_21 ≠ r0_15.1)) with h0_29 | h0_29
                        ·
                          replace hq := (ite_t h0_29).symm.trans hq
                          have h0_30 := of_decide_eq_true h0_29
                          refine cond_t hf rfl h0_29 ?_
                          refine wp_seq ?_
                          refine wp_region_lit ?_
                          refine st_y hf rfl rfl rfl (y_assign rfl rfl) ?_
                          clear hf a; intro a hf
                          refine st_end ?_
                          refine x_then_n ?_
                          refine wp_ret ?_
                          refine x_then_ret ?_
                          obtain rfl := Option.some.inj hq
                          refine ret_tmp hf Try.results4 rfl ?_
                          exact ⟨rfl, hm.below⟩
                        ·
                          replace hq := (ite_f h0_29).symm.trans hq
                          have h0_31 := of_decide_eq_false h0_29
                          refine cond_f hf rfl h0_29 ?_
                          refine wp_skip ?_
                          refine x_then_n ?_
                          refine wp_seq ?_
                          refine wp_region_lit ?_
                          refine st_y hf rfl rfl rfl (y_assign rfl rfl) ?_
                          clear hf a; intro a hf
                          refine st_end ?_
                          refine x_then_n ?_
                          refine wp_ret ?_
                          obtain rfl := Option.some.inj hq
                          refine ret_tmp hf Try.results4 rfl ?_
                          exact ⟨rfl, hm.below⟩

end Go.Proofs.Ytmhjfaoefcdelaa
