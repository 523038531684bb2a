/- A part of the proof of FnExactJumpEndSaid. -/
import Derived.Test.YtmhjfaoefcdelaaJeModels
import Derived.Test.YtmhjfaoefcdelaaChecked
namespace Go.Proofs.Ytmhjfaoefcdelaa
open Go Go.Wk Go.RowKit

theorem fo_24_0 : FieldOff Try.prog 24 0 0 := by have h := FieldOff.mk (k := 0) Try.underlying24 rfl Try.sizeOf3; exact h
theorem fo_24_1 : FieldOff Try.prog 24 1 1 := by have h := FieldOff.mk (k := 1) Try.underlying24 rfl Try.sizeOf3; exact h
theorem fo_24_2 : FieldOff Try.prog 24 2 2 := by have h := FieldOff.mk (k := 2) Try.underlying24 rfl Try.sizeOf22; exact h
theorem fo_29_0 : FieldOff Try.prog 29 0 0 := by have h := FieldOff.mk (k := 0) Try.underlying29 rfl Try.sizeOf3; exact h
theorem fo_29_1 : FieldOff Try.prog 29 1 1 := by have h := FieldOff.mk (k := 1) Try.underlying29 rfl Try.sizeOf3; exact h
theorem fo_29_2 : FieldOff Try.prog 29 2 2 := by have h := FieldOff.mk (k := 2) Try.underlying29 rfl Try.sizeOf27; exact h
theorem fo_50_0 : FieldOff Try.prog 50 0 0 := by have h := FieldOff.mk (k := 0) Try.underlying50 rfl Try.sizeOf3; exact h
theorem fo_50_1 : FieldOff Try.prog 50 1 1 := by have h := FieldOff.mk (k := 1) Try.underlying50 rfl Try.sizeOf3; exact h
theorem fo_50_2 : FieldOff Try.prog 50 2 2 := by have h := FieldOff.mk (k := 2) Try.underlying50 rfl Try.sizeOf3; exact h
theorem fo_50_3 : FieldOff Try.prog 50 3 3 := by have h := FieldOff.mk (k := 3) Try.underlying50 rfl Try.sizeOf3; exact h
theorem fo_50_4 : FieldOff Try.prog 50 4 4 := by have h := FieldOff.mk (k := 4) Try.underlying50 rfl Try.sizeOf3; exact h
theorem fo_60_0 : FieldOff Try.prog 60 0 0 := by have h := FieldOff.mk (k := 0) Try.underlying60 rfl Try.sizeOf3; exact h
theorem fo_60_1 : FieldOff Try.prog 60 1 1 := by have h := FieldOff.mk (k := 1) Try.underlying60 rfl Try.sizeOf3; exact h
theorem fo_60_2 : FieldOff Try.prog 60 2 2 := by have h := FieldOff.mk (k := 2) Try.underlying60 rfl Try.sizeOf3; exact h
theorem fo_60_3 : FieldOff Try.prog 60 3 3 := by have h := FieldOff.mk (k := 3) Try.underlying60 rfl Try.sizeOf3; exact h
theorem fo_60_4 : FieldOff Try.prog 60 4 4 := by have h := FieldOff.mk (k := 4) Try.underlying60 rfl Try.sizeOf3; exact h
theorem st_22 : SliceTy Try.prog 22 60 5 := ⟨Try.underlying22, Try.sizeOf60⟩
theorem st_27 : SliceTy Try.prog 27 50 5 := ⟨Try.underlying27, Try.sizeOf50⟩
theorem et_27 : ElemTy Try.prog 27 50 5 (.agg #[(.int .i64 (0)), (.int .i64 (0)), (.int .i64 (0)), (.int .i64 (0)), (.int .i64 (0))]) := ⟨Try.underlying27, ⟨_, (by kernel_rfl : Try.prog.info? 50 = some Try.t50), rfl, by decide, rfl⟩, rfl, by decide⟩

theorem laws_szMinsS_ok (w0 : World) (a_ : List Mins) (v1 : Value) (h1 : GT.rep (hp w0) [v1] a_) (left : Int) (r : Int) (hq : laws_szMinsS a_ left = some r) :
    Con Try.prog 21 [v1, (.int .i64 (left))] w0 (fun v w' => v = (.int .i64 (r)) ∧ Below w0.heap.size w0 w') := by
  unfold laws_szMinsS at hq
  refine con_body (l := [(0, v1), (1, (.int .i64 (left)))]) Try.func21 rfl Try.ntmps21 (Args.get ⟨rfl, rfl, trivial⟩) rfl ?_
  intro a hf
  have hm := Mem.start w0
  refine wp_seq ?_
  refine wp_region_lit ?_
  refine st_y hf rfl rfl rfl (y_assign rfl rfl) ?_
  clear hf a; intro a hf
  refine st_end ?_
  refine x_then_n ?_
  refine wp_seq ?_
  refine wp_region_lit ?_
  refine st_y hf rfl rfl rfl (y_move rfl rfl) ?_
  clear hf a; intro a hf
  refine st_y hf rfl rfl rfl (y_move rfl rfl) ?_
  clear hf a; intro a hf
  obtain ⟨p0_1, c0_1, he, hl0_1⟩ := ro_slice (hm.now h1)
  subst he
  refine st_y hf rfl rfl rfl (y_len_slice st_22.und rfl rfl) ?_
  clear hf a; intro a hf
  refine st_y hf rfl rfl rfl (y_subw rfl rfl rfl) ?_
  clear hf a; intro a hf
  refine st_y hf rfl rfl rfl (y_assign rfl rfl) ?_
  clear hf a; intro a hf
  refine st_end ?_
  refine x_then_n ?_
  refine wp_seq ?_
  refine wp_seq ?_
  refine wp_region_lit ?_
  refine st_y hf rfl rfl rfl (y_move rfl rfl) ?_
  clear hf a; intro a hf
  refine st_y hf rfl rfl rfl (y_lss rfl rfl rfl) ?_
  clear hf a; intro a hf
  refine st_end ?_
  refine x_then_n ?_
  rcases bcases (decide ((w64 (left - ((a_.length : Int)))) < 0)) with h0_1 | h0_1
  ·
    replace hq := (ite_t h0_1).symm.trans hq
    have h0_2 := of_decide_eq_true h0_1
    refine cond_t hf rfl h0_1 ?_
    refine wp_seq ?_
    refine wp_region_lit ?_
    refine st_y hf rfl rfl rfl (y_assign rfl rfl) ?_
    clear hf a; intro a hf
    refine st_end ?_
    refine x_then_n ?_
    refine wp_ret ?_
    refine x_then_ret ?_
    obtain rfl := Option.some.inj hq
    refine ret_tmp hf Try.results21 rfl ?_
    exact ⟨rfl, hm.below⟩
  ·
    replace hq := (ite_f h0_1).symm.trans hq
    have h0_3 := of_decide_eq_false h0_1
    refine cond_f hf rfl h0_1 ?_
    refine wp_skip ?_
    refine x_then_n ?_
    refine wp_seq ?_
    refine wp_region_lit ?_
    refine st_y hf rfl rfl rfl (y_move rfl rfl) ?_
    clear hf a; intro a hf
    refine st_y hf rfl rfl rfl (y_assign rfl rfl) ?_
    clear hf a; intro a hf
    refine st_end ?_
    refine x_then_n ?_
    refine wp_ret ?_
    obtain rfl := Option.some.inj hq
    refine ret_tmp hf Try.results21 rfl ?_
    exact ⟨rfl, hm.below⟩

theorem laws_szMfn_ok (w0 : World) (a_ : Mfn) (v1 : Value) (h1 : GT.rep (hp w0) [v1] a_.ins) (left : Int) (r : Int) (hq : laws_szMfn a_ left = some r) :
    Con Try.prog 6 [(.agg #[(.int .i64 (a_.params)), (.int .i64 (a_.slots)), v1]), (.int .i64 (left))] w0 (fun v w' => v = (.int .i64 (r)) ∧ Below w0.heap.size w0 w') := by
  unfold laws_szMfn at hq
  refine con_body (l := [(0, (.agg #[(.int .i64 (a_.params)), (.int .i64 (a_.slots)), v1])), (1, (.int .i64 (left)))]) Try.func6 rfl Try.ntmps6 (Args.get ⟨rfl, rfl, trivial⟩) rfl ?_
  intro a hf
  have hm := Mem.start w0
  refine wp_seq ?_
  refine wp_region_lit ?_
  refine st_ef hf rfl rfl rfl (e_box hf hm rfl rfl rfl) ?_
  clear hf a; rintro _ w0_1 a ⟨b0_1, rfl, hm⟩ hf
  refine st_y hf rfl rfl rfl (y_assign rfl rfl) ?_
  clear hf a; intro a hf
  refine st_end ?_
  refine x_then_n ?_
  refine wp_seq ?_
  refine wp_region_lit ?_
  refine st_y hf rfl rfl rfl (y_fieldAddr fo_24_2 rfl rfl) ?_
  clear hf a; intro a hf
  refine st_y hf rfl rfl rfl (y_load1 Try.isAgg22 rfl rfl (hm.blk_cell 0 rfl rfl)) ?_
  clear hf a; intro a hf
  refine st_y hf rfl rfl rfl (y_move rfl rfl) ?_
  clear hf a; intro a hf
  obtain ⟨r0_1, hx0_1, hq⟩ := bnd hq
  refine st_ef hf rfl rfl rfl (e_call hf rfl Try.call21 rfl (laws_szMinsS_ok _ a_.ins v1 (hm.now h1) left _ hx0_1)) ?_
  clear hf a; rintro _ w0_2 a ⟨rfl, hB⟩ hf
  replace hm := hm.below' hB; clear hB
  refine st_y hf rfl rfl rfl (y_assign rfl rfl) ?_
  clear hf a; intro a hf
  refine st_end ?_
  refine x_then_n ?_
  refine wp_seq ?_
  refine wp_seq ?_
  refine wp_region_lit ?_
  refine st_y hf rfl rfl rfl (y_move rfl rfl) ?_
  clear hf a; intro a hf
  refine st_y hf rfl rfl rfl (y_lss rfl rfl rfl) ?_
  clear hf a; intro a hf
  refine st_end ?_
  refine x_then_n ?_
  rcases bcases (decide (r0_1 < 0)) with h0_1 | h0_1
  ·
    replace hq := (ite_t h0_1).symm.trans hq
    have h0_2 := of_decide_eq_true h0_1
    refine cond_t hf rfl h0_1 ?_
    refine wp_seq ?_
    refine wp_region_lit ?_
    refine st_y hf rfl rfl rfl (y_assign rfl rfl) ?_
    clear hf a; intro a hf
    refine st_end ?_
    refine x_then_n ?_
    refine wp_ret ?_
    refine x_then_ret ?_
    obtain rfl := Option.some.inj hq
    refine ret_tmp hf Try.results6 rfl ?_
    exact ⟨rfl, hm.below⟩
  ·
    replace hq := (ite_f h0_1).symm.trans hq
    have h0_3 := of_decide_eq_false h0_1
    refine cond_f hf rfl h0_1 ?_
    refine wp_skip ?_
    refine x_then_n ?_
    refine wp_seq ?_
    refine wp_region_lit ?_
    refine st_y hf rfl rfl rfl (y_move rfl rfl) ?_
    clear hf a; intro a hf
    refine st_y hf rfl rfl rfl (y_assign rfl rfl) ?_
    clear hf a; intro a hf
    refine st_end ?_
    refine x_then_n ?_
    refine wp_ret ?_
    obtain rfl := Option.some.inj hq
    refine ret_tmp hf Try.results6 rfl ?_
    exact ⟨rfl, hm.below⟩

theorem laws_toMins_ok (w0 : World) (a_ : Mins) (r : Mins) (hq : laws_toMins a_ = some r) :
    Con Try.prog 42 [(.agg #[(.int .i64 (a_.op)), (.int .i64 (a_.a_)), (.int .i64 (a_.b)), (.int .i64 (a_.c)), (.int .i64 (a_.n_))])] w0 (fun v w' => v = (.agg #[(.int .i64 (r.op)), (.int .i64 (r.a_)), (.int .i64 (r.b)), (.int .i64 (r.c)), (.int .i64 (r.n_))]) ∧ Below w0.heap.size w0 w') := by
  unfold laws_toMins at hq
  refine con_body (l := [(0, (.agg #[(.int .i64 (a_.op)), (.int .i64 (a_.a_)), (.int .i64 (a_.b)), (.int .i64 (a_.c)), (.int .i64 (a_.n_))]))]) Try.func42 rfl Try.ntmps42 (Args.get ⟨rfl, trivial⟩) rfl ?_
  intro a hf
  have hm := Mem.start w0
  refine wp_seq ?_
  refine wp_region_lit ?_
  refine st_ef hf rfl rfl rfl (e_box hf hm rfl rfl rfl) ?_
  clear hf a; rintro _ w0_1 a ⟨b0_1, rfl, hm⟩ hf
  refine st_ef hf rfl rfl rfl (e_alloc hm Try.zeroValue50 rfl rfl) ?_
  clear hf a; rintro _ w0_2 a ⟨b0_2, rfl, hm⟩ hf
  refine st_end ?_
  refine x_then_n ?_
  refine wp_seq ?_
  refine wp_region_lit ?_
  refine st_ef hf rfl rfl rfl (e_alloc hm Try.zeroValue50 rfl rfl) ?_
  clear hf a; rintro _ w0_3 a ⟨b0_3, rfl, hm⟩ hf
  refine st_end ?_
  refine x_then_n ?_
  refine wp_seq ?_
  refine wp_region_lit ?_
  refine st_y hf rfl rfl rfl (y_fieldAddr fo_60_0 rfl rfl) ?_
  clear hf a; intro a hf
  refine st_y hf rfl rfl rfl (y_load1 Try.isAgg3 rfl rfl (hm.blk_cell 2 rfl rfl)) ?_
  clear hf a; intro a hf
  refine st_y hf rfl rfl rfl (y_fieldAddr fo_50_0 rfl rfl) ?_
  clear hf a; intro a hf
  refine st_ef0 hf rfl rfl (e_store1 0 hf hm rfl Try.sizeOf3 rfl rfl rfl rfl rfl) ?_
  clear hf a; rintro _ w0_4 a hm hf
  refine st_end ?_
  refine x_then_n ?_
  refine wp_seq ?_
  refine wp_region_lit ?_
  refine st_y hf rfl rfl rfl (y_fieldAddr fo_60_1 rfl rfl) ?_
  clear hf a; intro a hf
  refine st_y hf rfl rfl rfl (y_load1 Try.isAgg3 rfl rfl (hm.blk_cell 2 rfl rfl)) ?_
  clear hf a; intro a hf
  refine st_y hf rfl rfl rfl (y_fieldAddr fo_50_1 rfl rfl) ?_
  clear hf a; intro a hf
  refine st_ef0 hf rfl rfl (e_store1 0 hf hm rfl Try.sizeOf3 rfl rfl rfl rfl rfl) ?_
  clear hf a; rintro _ w0_5 a hm hf
  refine st_end ?_
  refine x_then_n ?_
  refine wp_seq ?_
  refine wp_region_lit ?_
  refine st_y hf rfl rfl rfl (y_fieldAddr fo_60_2 rfl rfl) ?_
  clear hf a; intro a hf
  refine st_y hf rfl rfl rfl (y_load1 Try.isAgg3 rfl rfl (hm.blk_cell 2 rfl rfl)) ?_
  clear hf a; intro a hf
  refine st_y hf rfl rfl rfl (y_fieldAddr fo_50_2 rfl rfl) ?_
  clear hf a; intro a hf
  refine st_ef0 hf rfl rfl (e_store1 0 hf hm rfl Try.sizeOf3 rfl rfl rfl rfl rfl) ?_
  clear hf a; rintro _ w0_6 a hm hf
  refine st_end ?_
  refine x_then_n ?_
  refine wp_seq ?_
  refine wp_region_lit ?_
  refine st_y hf rfl rfl rfl (y_fieldAddr fo_60_3 rfl rfl) ?_
  clear hf a; intro a hf
  refine st_y hf rfl rfl rfl (y_load1 Try.isAgg3 rfl rfl (hm.blk_cell 2 rfl rfl)) ?_
  clear hf a; intro a hf
  refine st_y hf rfl rfl rfl (y_fieldAddr fo_50_3 rfl rfl) ?_
  clear hf a; intro a hf
  refine st_ef0 hf rfl rfl (e_store1 0 hf hm rfl Try.sizeOf3 rfl rfl rfl rfl rfl) ?_
  clear hf a; rintro _ w0_7 a hm hf
  refine st_end ?_
  refine x_then_n ?_
  refine wp_seq ?_
  refine wp_region_lit ?_
  refine st_y hf rfl rfl rfl (y_fieldAddr fo_60_4 rfl rfl) ?_
  clear hf a; intro a hf
  refine st_y hf rfl rfl rfl (y_load1 Try.isAgg3 rfl rfl (hm.blk_cell 2 rfl rfl)) ?_
  clear hf a; intro a hf
  refine st_y hf rfl rfl rfl (y_fieldAddr fo_50_4 rfl rfl) ?_
  clear hf a; intro a hf
  refine st_ef0 hf rfl rfl (e_store1 0 hf hm rfl Try.sizeOf3 rfl rfl rfl rfl rfl) ?_
  clear hf a; rintro _ w0_8 a hm hf
  refine st_end ?_
  refine x_then_n ?_
  refine wp_seq ?_
  refine wp_region_lit ?_
  refine st_y hf rfl rfl rfl (y_loadN (cs := [(.int .i64 (a_.op)), (.int .i64 (a_.a_)), (.int .i64 (a_.b)), (.int .i64 (a_.c)), (.int .i64 (a_.n_))]) Try.isAgg50 Try.sizeOf50 rfl rfl (hm.blk_at 0 rfl)) ?_
  clear hf a; intro a hf
  refine st_ef0 hf rfl rfl (e_storeN 1 hf hm rfl Try.sizeOf50 rfl rfl rfl (one_cons rfl (one_cons rfl (one_cons rfl (one_cons rfl (one_cons rfl one_nil))))) rfl rfl) ?_
  clear hf a; rintro _ w0_9 a hm hf
  refine st_end ?_
  refine x_then_n ?_
  refine wp_ret ?_
  obtain rfl := Option.some.inj hq
  refine ret_cell 1 hf Try.results42 hm rfl rfl Try.isAgg50 Try.sizeOf50 ?_
  exact ⟨rfl, hm.below⟩

theorem laws_toMinsS_ok (w0 : World) (a_ : List Mins) (v1 : Value) (h1 : GT.rep (hp w0) [v1] a_) (r : (List Mins)) (hq : laws_toMinsS a_ = some r) :
    Con Try.prog 25 [v1] w0 (fun v w' => ∃ (x1 : Value), v = x1 ∧ Fresh w0 w' [x1] r) := by
  unfold laws_toMinsS at hq
  refine con_body (l := [(0, v1)]) Try.func25 rfl Try.ntmps25 (Args.get ⟨rfl, trivial⟩) rfl ?_
  intro a hf
  have hm := Mem.start w0
  refine wp_seq ?_
  refine wp_region_lit ?_
  refine st_y hf rfl rfl rfl (y_assign rfl rfl) ?_
  clear hf a; intro a hf
  refine st_end ?_
  refine x_then_n ?_
  refine wp_seq ?_
  refine wp_region_lit ?_
  refine st_y hf rfl rfl rfl (y_move rfl rfl) ?_
  clear hf a; intro a hf
  obtain ⟨p0_1, c0_1, he, hl0_1⟩ := ro_slice (hm.now h1)
  subst he
  refine st_y hf rfl rfl rfl (y_len_slice st_22.und rfl rfl) ?_
  clear hf a; intro a hf
  obtain ⟨ys0_1, hx0_1, hq⟩ := bnd hq
  obtain ⟨⟨h0_11, h0_12⟩, h0_1e⟩ := makeM_some.1 hx0_1
  refine st_ef hf rfl rfl rfl (e_make (x0 := ((⟨0, 0, 0, 0, 0⟩ : Mins) : Mins)) et_27 (fun _ => Flat.own_iff.2 rfl) hf hm rfl rfl rfl h0_11 (Int.le_refl _) h0_12) ?_
  clear hf a; rintro v0_1 w0_1 a hm hf
  rw [h0_1e] at hm
  have h0_1l : (ys0_1.length : Int) = (a_.length : Int) := by rw [← h0_1e]; simp only [List.length_replicate]; omega
  refine st_y hf rfl rfl rfl (y_assign rfl rfl) ?_
  clear hf a; intro a hf
  refine st_end ?_
  refine x_then_n ?_
  refine wp_seq ?_
  refine wp_seq ?_
  refine wp_region_lit ?_
  refine st_y hf rfl rfl rfl (y_assign rfl rfl) ?_
  clear hf a; intro a hf
  refine st_end ?_
  refine x_then_n ?_
  refine wp_block ?_
  obtain ⟨r0_1, hl0_2, hq⟩ := bnd hq
  refine wp_forN _ (fun i1_1 xs1_1 a w => Fr 23 [(0, (.slice p0_1 a_.length c0_1)), (3, v0_1), (4, (.int .i64 (i1_1)))] a ∧ Mem w0 (hp w0) w [ow [v0_1] xs1_1]) (0) ((a_.length : Int)) hl0_2 ?_ ?_ ?_
  ·
    exact ⟨hf.sub ⟨rfl, rfl, rfl, trivial⟩, hm.pick [0] (by decide) rfl⟩
  ·
    clear hf hm
    rintro i1_1 xs1_1 a w ⟨hf, hm⟩ hi1_1 hi1_2 q0_1 hb0_1 ho0_1
    refine wp_seq ?_
    refine wp_seq ?_
    refine wp_region_lit ?_
    refine st_y hf rfl rfl rfl (y_move rfl rfl) ?_
    clear hf a; intro a hf
    refine st_y hf rfl rfl rfl (y_move rfl rfl) ?_
    clear hf a; intro a hf
    refine st_y hf rfl rfl rfl (y_len_slice st_22.und rfl rfl) ?_
    clear hf a; intro a hf
    refine st_y hf rfl rfl rfl (y_lss rfl rfl rfl) ?_
    clear hf a; intro a hf
    refine st_end ?_
    refine x_then_n ?_
    refine cond_t hf rfl (decide_eq_true (by omega)) ?_
    refine wp_skip ?_
    refine x_then_n ?_
    refine wp_seq ?_
    refine wp_block ?_
    refine wp_region_lit ?_
    refine st_y hf rfl rfl rfl (y_move rfl rfl) ?_
    clear hf a; intro a hf
    refine st_y hf rfl rfl rfl (y_move rfl rfl) ?_
    clear hf a; intro a hf
    refine st_y hf rfl rfl rfl (y_move rfl rfl) ?_
    clear hf a; intro a hf
    refine st_y hf rfl rfl rfl (y_move rfl rfl) ?_
    clear hf a; intro a hf
    obtain ⟨x1_1, hx1_1, hb0_1⟩ := bnd hb0_1
    obtain ⟨h1_1, hx1_2⟩ := getI_some.1 hx1_1
    obtain ⟨b1_1, o1_1, c1_1, he⟩ := idx_form h1 hx1_2
    simp only [Value.slice.injEq] at he; obtain ⟨rfl, _, rfl⟩ := he
    refine st_y hf rfl rfl rfl (y_indexAddr st_22 rfl rfl rfl h1_1 (idx_lt hx1_2)) ?_
    clear hf a; intro a hf
    refine st_y hf rfl rfl rfl (y_loadN (cs := [(.int .i64 (x1_1.op)), (.int .i64 (x1_1.a_)), (.int .i64 (x1_1.b)), (.int .i64 (x1_1.c)), (.int .i64 (x1_1.n_))]) Try.isAgg60 Try.sizeOf60 rfl rfl (flat_cells (cs := [(.int .i64 (x1_1.op)), (.int .i64 (x1_1.a_)), (.int .i64 (x1_1.b)), (.int .i64 (x1_1.c)), (.int .i64 (x1_1.n_))]) (hm.now h1) hx1_2 rfl)) ?_
    clear hf a; intro a hf
    obtain ⟨r1_1, hx1_3, hb0_1⟩ := bnd hb0_1
    refine st_ef hf rfl rfl rfl (e_call hf rfl Try.call42 rfl (laws_toMins_ok _ x1_1 _ hx1_3)) ?_
    clear hf a; rintro _ w1_1 a ⟨rfl, hB⟩ hf
    replace hm := hm.below' hB; clear hB
    obtain ⟨x1_2, hx1_4, hb0_1⟩ := bnd hb0_1
    obtain ⟨h1_2, hx1_5⟩ := getI_some.1 hx1_4
    obtain ⟨b1_2, o1_2, c1_2, he⟩ := idx_form (hm.ow_rep 0 rfl) hx1_5
    subst he
    refine st_y hf rfl rfl rfl (y_indexAddr st_27 rfl rfl rfl h1_2 (idx_lt hx1_5)) ?_
    clear hf a; intro a hf
    refine st_ef0 hf rfl rfl (e_setElem (x1 := r1_1) (j := 0) (vs := [(.int .i64 (r1_1.op)), (.int .i64 (r1_1.a_)), (.int .i64 (r1_1.b)), (.int .i64 (r1_1.c)), (.int .i64 (r1_1.n_))]) 0 hf hm rfl hx1_5 rfl Try.sizeOf50 rfl rfl rfl (one_cons rfl (one_cons rfl (one_cons rfl (one_cons rfl (one_cons rfl one_nil))))) rfl rfl) ?_
    clear hf a; rintro _ w1_2 a hm hf
    refine st_end ?_
    refine x_blk_n ?_
    refine x_then_n ?_
    refine wp_region_lit ?_
    refine st_y hf rfl rfl rfl (y_move rfl rfl) ?_
    clear hf a; intro a hf
    refine st_y hf rfl rfl rfl (y_add64 rfl rfl rfl (by omega) (by omega)) ?_
    clear hf a; intro a hf
    refine st_y hf rfl rfl rfl (y_assign rfl rfl) ?_
    clear hf a; intro a hf
    refine st_end ?_
    refine x_then_n ?_
    obtain rfl := Option.some.inj hb0_1
    exact ⟨_, rfl, hf.sub ⟨rfl, rfl, rfl, trivial⟩, hm.pick [0] (by decide) rfl⟩
  ·
    clear hf hm
    rintro i1_1 xs1_1 a w ⟨hf, hm⟩ hi0_1 hi0_2 rfl
    replace hq := sum_l hq
    refine wp_seq ?_
    refine wp_seq ?_
    refine wp_region_lit ?_
    refine st_y hf rfl rfl rfl (y_move rfl rfl) ?_
    clear hf a; intro a hf
    refine st_y hf rfl rfl rfl (y_move rfl rfl) ?_
    clear hf a; intro a hf
    refine st_y hf rfl rfl rfl (y_len_slice st_22.und rfl rfl) ?_
    clear hf a; intro a hf
    refine st_y hf rfl rfl rfl (y_lss rfl rfl rfl) ?_
    clear hf a; intro a hf
    refine st_end ?_
    refine x_then_n ?_
    refine cond_f hf rfl (decide_eq_false (by omega)) ?_
    refine wp_exit ?_
    refine x_then_exit ?_
    refine x_then_exit ?_
    refine x_blk_hit ?_
    refine x_then_n ?_
    refine wp_seq ?_
    refine wp_region_lit ?_
    refine st_y hf rfl rfl rfl (y_move rfl rfl) ?_
    clear hf a; intro a hf
    refine st_y hf rfl rfl rfl (y_assign rfl rfl) ?_
    clear hf a; intro a hf
    refine st_end ?_
    refine x_then_n ?_
    refine wp_ret ?_
    obtain rfl := Option.some.inj hq
    refine ret_tmp hf Try.results25 rfl ?_
    exact ⟨v0_1, rfl, fin_own 0 hm rfl⟩

theorem laws_toMfn_ok (w0 : World) (a_ : Mfn) (v1 : Value) (h1 : GT.rep (hp w0) [v1] a_.ins) (r : Mfn) (hq : laws_toMfn a_ = some r) :
    Con Try.prog 8 [(.agg #[(.int .i64 (a_.params)), (.int .i64 (a_.slots)), v1])] w0 (fun v w' => ∃ (x1 : Value), v = (.agg #[(.int .i64 (r.params)), (.int .i64 (r.slots)), x1]) ∧ Fresh w0 w' [x1] r.ins) := by
  unfold laws_toMfn at hq
  refine con_body (l := [(0, (.agg #[(.int .i64 (a_.params)), (.int .i64 (a_.slots)), v1]))]) Try.func8 rfl Try.ntmps8 (Args.get ⟨rfl, trivial⟩) rfl ?_
  intro a hf
  have hm := Mem.start w0
  refine wp_seq ?_
  refine wp_region_lit ?_
  refine st_ef hf rfl rfl rfl (e_box hf hm rfl rfl rfl) ?_
  clear hf a; rintro _ w0_1 a ⟨b0_1, rfl, hm⟩ hf
  refine st_ef hf rfl rfl rfl (e_alloc hm Try.zeroValue29 rfl rfl) ?_
  clear hf a; rintro _ w0_2 a ⟨b0_2, rfl, hm⟩ hf
  refine st_end ?_
  refine x_then_n ?_
  refine wp_seq ?_
  refine wp_region_lit ?_
  refine st_ef hf rfl rfl rfl (e_alloc hm Try.zeroValue29 rfl rfl) ?_
  clear hf a; rintro _ w0_3 a ⟨b0_3, rfl, hm⟩ hf
  refine st_end ?_
  refine x_then_n ?_
  refine wp_seq ?_
  refine wp_region_lit ?_
  refine st_y hf rfl rfl rfl (y_fieldAddr fo_24_0 rfl rfl) ?_
  clear hf a; intro a hf
  refine st_y hf rfl rfl rfl (y_load1 Try.isAgg3 rfl rfl (hm.blk_cell 2 rfl rfl)) ?_
  clear hf a; intro a hf
  refine st_y hf rfl rfl rfl (y_fieldAddr fo_29_0 rfl rfl) ?_
  clear hf a; intro a hf
  refine st_ef0 hf rfl rfl (e_store1 0 hf hm rfl Try.sizeOf3 rfl rfl rfl rfl rfl) ?_
  clear hf a; rintro _ w0_4 a hm hf
  refine st_end ?_
  refine x_then_n ?_
  refine wp_seq ?_
  refine wp_region_lit ?_
  refine st_y hf rfl rfl rfl (y_fieldAddr fo_24_1 rfl rfl) ?_
  clear hf a; intro a hf
  refine st_y hf rfl rfl rfl (y_load1 Try.isAgg3 rfl rfl (hm.blk_cell 2 rfl rfl)) ?_
  clear hf a; intro a hf
  refine st_y hf rfl rfl rfl (y_fieldAddr fo_29_1 rfl rfl) ?_
  clear hf a; intro a hf
  refine st_ef0 hf rfl rfl (e_store1 0 hf hm rfl Try.sizeOf3 rfl rfl rfl rfl rfl) ?_
  clear hf a; rintro _ w0_5 a hm hf
  refine st_end ?_
  refine x_then_n ?_
  refine wp_seq ?_
  refine wp_region_lit ?_
  refine st_y hf rfl rfl rfl (y_fieldAddr fo_24_2 rfl rfl) ?_
  clear hf a; intro a hf
  refine st_y hf rfl rfl rfl (y_load1 Try.isAgg22 rfl rfl (hm.blk_cell 2 rfl rfl)) ?_
  clear hf a; intro a hf
  obtain ⟨r0_1, hx0_1, hq⟩ := bnd hq
  refine st_ef hf rfl rfl rfl (e_call hf rfl Try.call25 rfl (laws_toMinsS_ok _ a_.ins v1 (hm.now h1) _ hx0_1)) ?_
  clear hf a; rintro v0_1 w0_6 a ⟨_, rfl, hB⟩ hf
  replace hm := hm.fresh hB; clear hB
  refine st_y hf rfl rfl rfl (y_fieldAddr fo_29_2 rfl rfl) ?_
  clear hf a; intro a hf
  refine st_ef0 hf rfl rfl (e_store1 1 hf hm rfl Try.sizeOf27 rfl rfl rfl (rep_one (hm.ow_rep 0 rfl)) rfl) ?_
  clear hf a; rintro _ w0_7 a hm hf
  refine st_end ?_
  refine x_then_n ?_
  refine wp_seq ?_
  refine wp_region_lit ?_
  refine st_y hf rfl rfl rfl (y_loadN (cs := [(.int .i64 (a_.params)), (.int .i64 (a_.slots)), v0_1]) Try.isAgg29 Try.sizeOf29 rfl rfl (hm.blk_at 1 rfl)) ?_
  clear hf a; intro a hf
  refine st_ef0 hf rfl rfl (e_storeN 2 hf hm rfl Try.sizeOf29 rfl rfl rfl (one_cons rfl (one_cons rfl (one_cons (rep_one (hm.ow_rep 0 rfl)) one_nil))) rfl rfl) ?_
  clear hf a; rintro _ w0_8 a hm hf
  refine st_end ?_
  refine x_then_n ?_
  refine wp_ret ?_
  obtain rfl := Option.some.inj hq
  refine ret_cell 2 hf Try.results8 hm rfl rfl Try.isAgg29 Try.sizeOf29 ?_
  exact ⟨v0_1, rfl, fin_own 0 hm rfl⟩

theorem spec_l24Jumps_ok (w0 : World) (x_ : Mins) (r : Bool) (hq : spec_l24Jumps x_ = some r) :
    Con Try.prog 41 [(.agg #[(.int .i64 (x_.op)), (.int .i64 (x_.a_)), (.int .i64 (x_.b)), (.int .i64 (x_.c)), (.int .i64 (x_.n_))])] w0 (fun v w' => v = (.bool (r)) ∧ Below w0.heap.size w0 w') := by
  unfold spec_l24Jumps at hq
  refine con_body (l := [(0, (.agg #[(.int .i64 (x_.op)), (.int .i64 (x_.a_)), (.int .i64 (x_.b)), (.int .i64 (x_.c)), (.int .i64 (x_.n_))]))]) Try.func41 rfl Try.ntmps41 (Args.get ⟨rfl, trivial⟩) rfl ?_
  intro a hf
  have hm := Mem.start w0
  refine wp_seq ?_
  refine wp_region_lit ?_
  refine st_ef hf rfl rfl rfl (e_box hf hm rfl rfl rfl) ?_
  clear hf a; rintro _ w0_1 a ⟨b0_1, rfl, hm⟩ hf
  refine st_y hf rfl rfl rfl (y_assign rfl rfl) ?_
  clear hf a; intro a hf
  refine st_end ?_
  refine x_then_n ?_
  refine wp_seq ?_
  obtain ⟨s0_1, hq0_1, hq⟩ := bnd hq
  refine code_cut (K := fun a w => Fr 11 [(2, (.bool (s0_1)))] a ∧ Mem w0 (hp w0) w []) ?_ ?_
  ·
    refine wp_region_lit ?_
    refine st_y hf rfl rfl rfl (y_fieldAddr fo_50_0 rfl rfl) ?_
    clear hf a; intro a hf
    refine st_y hf rfl rfl rfl (y_load1 Try.isAgg3 rfl rfl (hm.blk_cell 0 rfl rfl)) ?_
    clear hf a; intro a hf
    refine st_y hf rfl rfl rfl (y_eql rfl rfl rfl) ?_
    clear hf a; intro a hf
    refine st_y hf rfl rfl rfl (y_move rfl rfl) ?_
    clear hf a; intro a hf
    rcases bcases (decide (x_.op = 20)) with h1_1 | h1_1
    ·
      replace hq0_1 := (ite_t h1_1).symm.trans hq0_1
      have h1_2 := of_decide_eq_true h1_1
      refine st_no hf rfl rfl (lk_b rfl h1_1) rfl rfl rfl ?_
      clear hf a; intro a hf
      refine st_no hf rfl rfl (lk_b rfl h1_1) rfl rfl rfl ?_
      clear hf a; intro a hf
      refine st_no hf rfl rfl (lk_b rfl h1_1) rfl rfl rfl ?_
      clear hf a; intro a hf
      refine st_y hf rfl rfl rfl (y_pick_t rfl (ev_b rfl h1_1) rfl) ?_
      clear hf a; intro a hf
      refine st_y hf rfl rfl rfl (y_assign rfl rfl) ?_
      clear hf a; intro a hf
      refine st_end ?_
      refine x_then_n ?_
      obtain rfl := Option.some.inj hq0_1
      exact ⟨hf.sub ⟨rfl, trivial⟩, hm.pick [] (by decide) rfl⟩
    ·
      replace hq0_1 := (ite_f h1_1).symm.trans hq0_1
      have h1_3 := of_decide_eq_false h1_1
      refine st_yg hf rfl rfl (lk_b rfl h1_1) rfl rfl (y_fieldAddr fo_50_0 rfl rfl) ?_
      clear hf a; intro a hf
      refine st_yg hf rfl rfl (lk_b rfl h1_1) rfl rfl (y_load1 Try.isAgg3 rfl rfl (hm.blk_cell 0 rfl rfl)) ?_
      clear hf a; intro a hf
      refine st_yg hf rfl rfl (lk_b rfl h1_1) rfl rfl (y_eql rfl rfl rfl) ?_
      clear hf a; intro a hf
      refine st_y hf rfl rfl rfl (y_pick_f rfl (ev_b rfl h1_1) rfl) ?_
      clear hf a; intro a hf
      refine st_y hf rfl rfl rfl (y_assign rfl rfl) ?_
      clear hf a; intro a hf
      refine st_end ?_
      refine x_then_n ?_
      obtain rfl := Option.some.inj hq0_1
      exact ⟨hf.sub ⟨rfl, trivial⟩, hm.pick [] (by decide) rfl⟩
  ·
    clear hf hm
    rintro a w ⟨hf, hm⟩
    refine x_then_n ?_
    refine wp_ret ?_
    obtain rfl := Option.some.inj hq
    refine ret_tmp hf Try.results41 rfl ?_
    exact ⟨rfl, hm.below⟩

theorem spec_l1In_ok (w0 : World) (n_ : Int) (low : Int) (high : Int) (r : Bool) (hq : spec_l1In n_ low high = some r) :
    Con Try.prog 23 [(.int .i64 (n_)), (.int .i64 (low)), (.int .i64 (high))] w0 (fun v w' => v = (.bool (r)) ∧ Below w0.heap.size w0 w') := by
  unfold spec_l1In at hq
  refine con_body (l := [(0, (.int .i64 (n_))), (1, (.int .i64 (low))), (2, (.int .i64 (high)))]) Try.func23 rfl Try.ntmps23 (Args.get ⟨rfl, rfl, rfl, trivial⟩) rfl ?_
  intro a hf
  have hm := Mem.start w0
  refine wp_seq ?_
  refine wp_region_lit ?_
  refine st_y hf rfl rfl rfl (y_assign rfl rfl) ?_
  clear hf a; intro a hf
  refine st_end ?_
  refine x_then_n ?_
  refine wp_seq ?_
  obtain ⟨s0_1, hq0_1, hq⟩ := bnd hq
  refine code_cut (K := fun a w => Fr 15 [(6, (.bool (s0_1)))] a ∧ Mem w0 (hp w0) w []) ?_ ?_
  ·
    refine wp_region_lit ?_
    refine st_y hf rfl rfl rfl (y_move rfl rfl) ?_
    clear hf a; intro a hf
    refine st_y hf rfl rfl rfl (y_move rfl rfl) ?_
    clear hf a; intro a hf
    refine st_y hf rfl rfl rfl (y_geq rfl rfl rfl) ?_
    clear hf a; intro a hf
    refine st_y hf rfl rfl rfl (y_move rfl rfl) ?_
    clear hf a; intro a hf
    rcases bcases (decide (low ≤ n_)) with h1_1 | h1_1
    ·
      replace hq0_1 := (ite_t h1_1).symm.trans hq0_1
      have h1_2 := of_decide_eq_true h1_1
      refine st_yg hf rfl rfl (lk_b rfl h1_1) rfl rfl (y_move rfl rfl) ?_
      clear hf a; intro a hf
      refine st_yg hf rfl rfl (lk_b rfl h1_1) rfl rfl (y_move rfl rfl) ?_
      clear hf a; intro a hf
      refine st_yg hf rfl rfl (lk_b rfl h1_1) rfl rfl (y_leq rfl rfl rfl) ?_
      clear hf a; intro a hf
      refine st_y hf rfl rfl rfl (y_pick_t rfl (ev_b rfl h1_1) rfl) ?_
      clear hf a; intro a hf
      refine st_y hf rfl rfl rfl (y_assign rfl rfl) ?_
      clear hf a; intro a hf
      refine st_end ?_
      refine x_then_n ?_
      obtain rfl := Option.some.inj hq0_1
      exact ⟨hf.sub ⟨rfl, trivial⟩, hm.pick [] (by decide) rfl⟩
    ·
      replace hq0_1 := (ite_f h1_1).symm.trans hq0_1
      have h1_3 := of_decide_eq_false h1_1
      refine st_no hf rfl rfl (lk_b rfl h1_1) rfl rfl rfl ?_
      clear hf a; intro a hf
      refine st_no hf rfl rfl (lk_b rfl h1_1) rfl rfl rfl ?_
      clear hf a; intro a hf
      refine st_no hf rfl rfl (lk_b rfl h1_1) rfl rfl rfl ?_
      clear hf a; intro a hf
      refine st_y hf rfl rfl rfl (y_pick_f rfl (ev_b rfl h1_1) rfl) ?_
      clear hf a; intro a hf
      refine st_y hf rfl rfl rfl (y_assign rfl rfl) ?_
      clear hf a; intro a hf
      refine st_end ?_
      refine x_then_n ?_
      obtain rfl := Option.some.inj hq0_1
      exact ⟨hf.sub ⟨rfl, trivial⟩, hm.pick [] (by decide) rfl⟩
  ·
    clear hf hm
    rintro a w ⟨hf, hm⟩
    refine x_then_n ?_
    refine wp_ret ?_
    obtain rfl := Option.some.inj hq
    refine ret_tmp hf Try.results23 rfl ?_
    exact ⟨rfl, hm.below⟩

theorem spec_l24Fits_ok (w0 : World) (f : Mfn) (v1 : Value) (h1 : GT.rep (hp w0) [v1] f.ins) (r : Bool) (hq : spec_l24Fits f = some r) :
    Con Try.prog 22 [(.agg #[(.int .i64 (f.params)), (.int .i64 (f.slots)), v1])] w0 (fun v w' => v = (.bool (r)) ∧ Below w0.heap.size w0 w') := by
  unfold spec_l24Fits at hq
  refine con_body (l := [(0, (.agg #[(.int .i64 (f.params)), (.int .i64 (f.slots)), v1]))]) Try.func22 rfl Try.ntmps22 (Args.get ⟨rfl, trivial⟩) rfl ?_
  intro a hf
  have hm := Mem.start w0
  refine wp_seq ?_
  refine wp_region_lit ?_
  refine st_ef hf rfl rfl rfl (e_box hf hm rfl rfl rfl) ?_
  clear hf a; rintro _ w0_1 a ⟨b0_1, rfl, hm⟩ hf
  refine st_y hf rfl rfl rfl (y_assign rfl rfl) ?_
  clear hf a; intro a hf
  refine st_end ?_
  refine x_then_n ?_
  refine wp_seq ?_
  refine wp_seq ?_
  refine wp_region_lit ?_
  refine st_y hf rfl rfl rfl (y_assign rfl rfl) ?_
  clear hf a; intro a hf
  refine st_end ?_
  refine x_then_n ?_
  refine wp_block ?_
  obtain ⟨r0_1, hl0_1, hq⟩ := bnd hq
  refine wp_forN _ (fun i1_1 xs1_1 a w => Fr 51 [(1, (.pointer (some ⟨b0_1, 0, none⟩))), (3, (.int .i64 (i1_1)))] a ∧ Mem w0 (hp w0) w [blk b0_1 [(.int .i64 (f.params)), (.int .i64 (f.slots)), v1] 29]) (0) ((f.ins.length : Int)) hl0_1 ?_ ?_ ?_
  ·
    exact ⟨hf.sub ⟨rfl, rfl, trivial⟩, hm.pick [0] (by decide) rfl⟩
  ·
    clear hf hm
    rintro i1_1 xs1_1 a w ⟨hf, hm⟩ hi1_1 hi1_2 q0_1 hb0_1 ho0_1
    refine wp_seq ?_
    refine wp_seq ?_
    refine wp_region_lit ?_
    refine st_y hf rfl rfl rfl (y_move rfl rfl) ?_
    clear hf a; intro a hf
    refine st_y hf rfl rfl rfl (y_fieldAddr fo_29_2 rfl rfl) ?_
    clear hf a; intro a hf
    refine st_y hf rfl rfl rfl (y_load1 Try.isAgg27 rfl rfl (hm.blk_cell 0 rfl rfl)) ?_
    clear hf a; intro a hf
    obtain ⟨p1_1, c1_1, he, hl1_1⟩ := ro_slice (hm.now h1)
    subst he
    refine st_y hf rfl rfl rfl (y_len_slice st_27.und rfl rfl) ?_
    clear hf a; intro a hf
    refine st_y hf rfl rfl rfl (y_lss rfl rfl rfl) ?_
    clear hf a; intro a hf
    refine st_end ?_
    refine x_then_n ?_
    refine cond_t hf rfl (decide_eq_true (by omega)) ?_
    refine wp_skip ?_
    refine x_then_n ?_
    refine wp_seq ?_
    refine wp_block ?_
    refine wp_seq ?_
    obtain ⟨s1_1, hq1_1, hb0_1⟩ := bnd hb0_1
    refine code_cut (K := fun a w => Fr 51 [(1, (.pointer (some ⟨b0_1, 0, none⟩))), (3, (.int .i64 (i1_1))), (31, (.bool (s1_1)))] a ∧ Mem w0 (hp w0) w [blk b0_1 [(.int .i64 (f.params)), (.int .i64 (f.slots)), (.slice p1_1 f.ins.length c1_1)] 29]) ?_ ?_
    ·
      refine wp_draw [(true, 0), (true, 1), (true, 2), (true, 3), (true, 4), (false, 5), (true, 6), (true, 7), (true, 8), (true, 9), (true, 10), (true, 11), (true, 12), (true, 13), (true, 14), (true, 15), (true, 16), (false, 17), (true, 18), (true, 19)] [0, 1, 2, 3, 4, 5, 6, 7, 8, 9, 10, 11, 12, 13, 14, 15, 16, 17, 18, 19] (fun w => Mem w0 (hp w0) w [blk b0_1 [(.int .i64 (f.params)), (.int .i64 (f.slots)), (.slice p1_1 f.ins.length c1_1)] 29]) (by kernel_rfl) (by kernel_rfl) (fun _ _ _ h => h.2) ?_
      replace hm := hm.drew
      have hS : Mem w0 (hp w0) _ [blk b0_1 [(.int .i64 (f.params)), (.int .i64 (f.slots)), (.slice p1_1 f.ins.length c1_1)] 29] := hm
      refine sd_y hf rfl rfl rfl rfl hS (fun w hm => y_fieldAddr fo_29_2 rfl rfl) ?_
      clear hf a; intro a hf
      refine sd_y hf rfl rfl rfl rfl hS (fun w hm => y_load1 Try.isAgg27 rfl rfl (hm.blk_cell 0 rfl rfl)) ?_
      clear hf a; intro a hf
      refine sd_y hf rfl rfl rfl rfl hS (fun w hm => y_move rfl rfl) ?_
      clear hf a; intro a hf
      obtain ⟨x2_1, hx2_1, hq1_1⟩ := bnd hq1_1
      obtain ⟨h2_1, hx2_2⟩ := getI_some.1 hx2_1
      obtain ⟨b2_1, o2_1, c2_1, he⟩ := idx_form h1 hx2_2
      simp only [Value.slice.injEq] at he; obtain ⟨rfl, _, rfl⟩ := he
      refine sd_y hf rfl rfl rfl rfl hS (fun w hm => y_indexAddr st_27 rfl rfl rfl h2_1 (idx_lt hx2_2)) ?_
      clear hf a; intro a hf
      refine sd_y hf rfl rfl rfl rfl hS (fun w hm => y_loadN (cs := [(.int .i64 (x2_1.op)), (.int .i64 (x2_1.a_)), (.int .i64 (x2_1.b)), (.int .i64 (x2_1.c)), (.int .i64 (x2_1.n_))]) Try.isAgg50 Try.sizeOf50 rfl rfl (flat_cells (cs := [(.int .i64 (x2_1.op)), (.int .i64 (x2_1.a_)), (.int .i64 (x2_1.b)), (.int .i64 (x2_1.c)), (.int .i64 (x2_1.n_))]) (hm.now h1) hx2_2 rfl)) ?_
      clear hf a; intro a hf
      obtain ⟨r2_1, hx2_3, hq1_1⟩ := bnd hq1_1
      refine sd_ef hf rfl rfl rfl rfl (e_call hf rfl Try.call41 rfl (spec_l24Jumps_ok _ x2_1 _ hx2_3)) ?_
      clear hf a; rintro _ w2_1 a ⟨rfl, hB⟩ hf
      replace hm := hm.below' hB; clear hB
      clear hS
      have hS : Mem w0 (hp w0) _ [blk b0_1 [(.int .i64 (f.params)), (.int .i64 (f.slots)), (.slice (some ⟨b2_1, o2_1, none⟩) f.ins.length c1_1)] 29] := hm.pick [0] (by decide) rfl
      refine ⟨fun _ => hS, ?_⟩
      refine sd_y hf rfl rfl rfl rfl hS (fun w hm => y_move rfl rfl) ?_
      clear hf a; intro a hf
      rcases bcases (r2_1) with h2_2 | h2_2
      ·
        replace hq1_1 := (ite_t h2_2).symm.trans hq1_1
        refine sd_yg hf rfl rfl rfl (lk_b rfl h2_2) rfl rfl hS (fun w hm => y_fieldAddr fo_29_2 rfl rfl) ?_
        clear hf a; intro a hf
        refine sd_yg hf rfl rfl rfl (lk_b rfl h2_2) rfl rfl hS (fun w hm => y_load1 Try.isAgg27 rfl rfl (hm.blk_cell 0 rfl rfl)) ?_
        clear hf a; intro a hf
        refine sd_yg hf rfl rfl rfl (lk_b rfl h2_2) rfl rfl hS (fun w hm => y_move rfl rfl) ?_
        clear hf a; intro a hf
        obtain ⟨x2_2, hx2_4, hq1_1⟩ := bnd hq1_1
        obtain ⟨h2_3, hx2_5⟩ := getI_some.1 hx2_4
        refine sd_yg hf rfl rfl rfl (lk_b rfl h2_2) rfl rfl hS (fun w hm => y_indexAddr st_27 rfl rfl rfl h2_3 (idx_lt hx2_5)) ?_
        clear hf a; intro a hf
        refine sd_yg hf rfl rfl rfl (lk_b rfl h2_2) rfl rfl hS (fun w hm => y_fieldAddr fo_50_4 rfl rfl) ?_
        clear hf a; intro a hf
        refine sd_yg hf rfl rfl rfl (lk_b rfl h2_2) rfl rfl hS (fun w hm => y_load1 Try.isAgg3 rfl rfl ((flat_cells (cs := [(.int .i64 (x2_2.op)), (.int .i64 (x2_2.a_)), (.int .i64 (x2_2.b)), (.int .i64 (x2_2.c)), (.int .i64 (x2_2.n_))]) (hm.now h1) hx2_5 rfl).cell (j := 4) rfl)) ?_
        clear hf a; intro a hf
        refine sd_yg hf rfl rfl rfl (lk_b rfl h2_2) rfl rfl hS (fun w hm => y_fieldAddr fo_29_2 rfl rfl) ?_
        clear hf a; intro a hf
        refine sd_yg hf rfl rfl rfl (lk_b rfl h2_2) rfl rfl hS (fun w hm => y_load1 Try.isAgg27 rfl rfl (hm.blk_cell 0 rfl rfl)) ?_
        clear hf a; intro a hf
        refine sd_yg hf rfl rfl rfl (lk_b rfl h2_2) rfl rfl hS (fun w hm => y_len_slice st_27.und rfl rfl) ?_
        clear hf a; intro a hf
        refine sd_yg hf rfl rfl rfl (lk_b rfl h2_2) rfl rfl hS (fun w hm => y_sub64 rfl rfl rfl (by omega) (by omega)) ?_
        clear hf a; intro a hf
        obtain ⟨r2_2, hx2_6, hq1_1⟩ := bnd hq1_1
        refine sd_efg hf rfl rfl rfl (lk_b rfl h2_2) rfl rfl (e_call hf rfl Try.call23 rfl (spec_l1In_ok _ x2_2.n_ 0 (((f.ins.length : Int)) - 1) _ hx2_6)) ?_
        clear hf a; rintro _ w2_2 a ⟨rfl, hB⟩ hf
        replace hm := hm.below' hB; clear hB
        clear hS
        have hS : Mem w0 (hp w0) _ [blk b0_1 [(.int .i64 (f.params)), (.int .i64 (f.slots)), (.slice (some ⟨b2_1, o2_1, none⟩) f.ins.length c1_1)] 29] := hm.pick [0] (by decide) rfl
        refine ⟨fun _ => hS, ?_⟩
        refine sd_yg hf rfl rfl rfl (lk_b rfl h2_2) rfl rfl hS (fun w hm => y_not rfl rfl) ?_
        clear hf a; intro a hf
        refine sd_y hf rfl rfl rfl rfl hS (fun w hm => y_pick_t rfl (ev_b rfl h2_2) rfl) ?_
        clear hf a; intro a hf
        clear hS; refine sd_end ?_
        refine x_then_n ?_
        obtain rfl := Option.some.inj hq1_1
        exact ⟨hf.sub ⟨rfl, rfl, rfl, trivial⟩, hm.pick [0] (by decide) rfl⟩
      ·
        replace hq1_1 := (ite_f h2_2).symm.trans hq1_1
        refine sd_no hf rfl rfl rfl (lk_b rfl h2_2) rfl rfl rfl hS ?_
        clear hf a; intro a hf
        refine sd_no hf rfl rfl rfl (lk_b rfl h2_2) rfl rfl rfl hS ?_
        clear hf a; intro a hf
        refine sd_no hf rfl rfl rfl (lk_b rfl h2_2) rfl rfl rfl hS ?_
        clear hf a; intro a hf
        refine sd_no hf rfl rfl rfl (lk_b rfl h2_2) rfl rfl rfl hS ?_
        clear hf a; intro a hf
        refine sd_no hf rfl rfl rfl (lk_b rfl h2_2) rfl rfl rfl hS ?_
        clear hf a; intro a hf
        refine sd_no hf rfl rfl rfl (lk_b rfl h2_2) rfl rfl rfl hS ?_
        clear hf a; intro a hf
        refine sd_no hf rfl rfl rfl (lk_b rfl h2_2) rfl rfl rfl hS ?_
        clear hf a; intro a hf
        refine sd_no hf rfl rfl rfl (lk_b rfl h2_2) rfl rfl rfl hS ?_
        clear hf a; intro a hf
        refine sd_no hf rfl rfl rfl (lk_b rfl h2_2) rfl rfl rfl hS ?_
        clear hf a; intro a hf
        refine sd_no hf rfl rfl rfl (lk_b rfl h2_2) rfl rfl rfl hS ?_
        clear hf a; intro a hf
        refine sd_no' hf rfl rfl rfl (lk_b rfl h2_2) rfl rfl rfl ?_
        clear hf a; intro a hf
        refine ⟨fun _ => hS, ?_⟩
        refine sd_no hf rfl rfl rfl (lk_b rfl h2_2) rfl rfl rfl hS ?_
        clear hf a; intro a hf
        refine sd_y hf rfl rfl rfl rfl hS (fun w hm => y_pick_f rfl (ev_b rfl h2_2) rfl) ?_
        clear hf a; intro a hf
        clear hS; refine sd_end ?_
        refine x_then_n ?_
        obtain rfl := Option.some.inj hq1_1
        exact ⟨hf.sub ⟨rfl, rfl, rfl, trivial⟩, hm.pick [0] (by decide) rfl⟩
    ·
      clear hf hm
      rintro a w ⟨hf, hm⟩
      refine x_then_n ?_
      rcases bcases (s1_1) with h1_1 | h1_1
      ·
        replace hb0_1 := (ite_t h1_1).symm.trans hb0_1
        refine cond_t hf rfl h1_1 ?_
        refine wp_seq ?_
        refine wp_region_lit ?_
        refine st_y hf rfl rfl rfl (y_assign rfl rfl) ?_
        clear hf a; intro a hf
        refine st_end ?_
        refine x_then_n ?_
        refine wp_ret ?_
        refine x_blk_ret ?_
        refine x_then_ret ?_
        refine x_then_ret ?_
        refine x_blk_ret ?_
        refine x_then_ret ?_
        obtain rfl := Option.some.inj hb0_1
        obtain rfl := ho0_1 _ rfl
        replace hq := sum_r hq
        obtain rfl := Option.some.inj hq
        refine ret_tmp hf Try.results22 rfl ?_
        exact ⟨rfl, hm.below⟩
      ·
        replace hb0_1 := (ite_f h1_1).symm.trans hb0_1
        refine cond_f hf rfl h1_1 ?_
        refine wp_skip ?_
        refine x_blk_n ?_
        refine x_then_n ?_
        refine wp_region_lit ?_
        refine st_y hf rfl rfl rfl (y_move rfl rfl) ?_
        clear hf a; intro a hf
        refine st_y hf rfl rfl rfl (y_add64 rfl rfl rfl (by omega) (by omega)) ?_
        clear hf a; intro a hf
        refine st_y hf rfl rfl rfl (y_assign rfl rfl) ?_
        clear hf a; intro a hf
        refine st_end ?_
        refine x_then_n ?_
        obtain rfl := Option.some.inj hb0_1
        exact ⟨_, rfl, hf.sub ⟨rfl, rfl, trivial⟩, hm.pick [0] (by decide) rfl⟩
  ·
    clear hf hm
    rintro i1_1 xs1_1 a w ⟨hf, hm⟩ hi0_1 hi0_2 rfl
    replace hq := sum_l hq
    refine wp_seq ?_
    refine wp_seq ?_
    refine wp_region_lit ?_
    refine st_y hf rfl rfl rfl (y_move rfl rfl) ?_
    clear hf a; intro a hf
    refine st_y hf rfl rfl rfl (y_fieldAddr fo_29_2 rfl rfl) ?_
    clear hf a; intro a hf
    refine st_y hf rfl rfl rfl (y_load1 Try.isAgg27 rfl rfl (hm.blk_cell 0 rfl rfl)) ?_
    clear hf a; intro a hf
    obtain ⟨p0_1, c0_1, he, hl0_2⟩ := ro_slice (hm.now h1)
    subst he
    refine st_y hf rfl rfl rfl (y_len_slice st_27.und rfl rfl) ?_
    clear hf a; intro a hf
    refine st_y hf rfl rfl rfl (y_lss rfl rfl rfl) ?_
    clear hf a; intro a hf
    refine st_end ?_
    refine x_then_n ?_
    refine cond_f hf rfl (decide_eq_false (by omega)) ?_
    refine wp_exit ?_
    refine x_then_exit ?_
    refine x_then_exit ?_
    refine x_blk_hit ?_
    refine x_then_n ?_
    refine wp_seq ?_
    refine wp_seq ?_
    refine wp_region_lit ?_
    refine st_y hf rfl rfl rfl (y_fieldAddr fo_29_2 rfl rfl) ?_
    clear hf a; intro a hf
    refine st_y hf rfl rfl rfl (y_load1 Try.isAgg27 rfl rfl (hm.blk_cell 0 rfl rfl)) ?_
    clear hf a; intro a hf
    refine st_y hf rfl rfl rfl (y_len_slice st_27.und rfl rfl) ?_
    clear hf a; intro a hf
    refine st_y hf rfl rfl rfl (y_eql rfl rfl rfl) ?_
    clear hf a; intro a hf
    refine st_end ?_
    refine x_then_n ?_
    rcases bcases (decide (((f.ins.length : Int)) = 0)) with h0_1 | h0_1
    ·
      replace hq := (ite_t h0_1).symm.trans hq
      have h0_2 := of_decide_eq_true h0_1
      refine cond_t hf rfl h0_1 ?_
      refine wp_seq ?_
      refine wp_region_lit ?_
      refine st_y hf rfl rfl rfl (y_assign rfl rfl) ?_
      clear hf a; intro a hf
      refine st_end ?_
      refine x_then_n ?_
      refine wp_ret ?_
      refine x_then_ret ?_
      obtain rfl := Option.some.inj hq
      refine ret_tmp hf Try.results22 rfl ?_
      exact ⟨rfl, hm.below⟩
    ·
      replace hq := (ite_f h0_1).symm.trans hq
      have h0_3 := of_decide_eq_false h0_1
      refine cond_f hf rfl h0_1 ?_
      refine wp_skip ?_
      refine x_then_n ?_
      refine wp_seq ?_
      refine wp_region_lit ?_
      refine st_y hf rfl rfl rfl (y_fieldAddr fo_29_2 rfl rfl) ?_
      clear hf a; intro a hf
      refine st_y hf rfl rfl rfl (y_load1 Try.isAgg27 rfl rfl (hm.blk_cell 0 rfl rfl)) ?_
      clear hf a; intro a hf
      refine st_y hf rfl rfl rfl (y_fieldAddr fo_29_2 rfl rfl) ?_
      clear hf a; intro a hf
      refine st_y hf rfl rfl rfl (y_load1 Try.isAgg27 rfl rfl (hm.blk_cell 0 rfl rfl)) ?_
      clear hf a; intro a hf
      refine st_y hf rfl rfl rfl (y_len_slice st_27.und rfl rfl) ?_
      clear hf a; intro a hf
      refine st_y hf rfl rfl rfl (y_sub64 rfl rfl rfl (by omega) (by omega)) ?_
      clear hf a; intro a hf
      obtain ⟨x0_1, hx0_1, hq⟩ := bnd hq
      obtain ⟨h0_4, hx0_2⟩ := getI_some.1 hx0_1
      obtain ⟨b0_2, o0_1, c0_2, he⟩ := idx_form h1 hx0_2
      simp only [Value.slice.injEq] at he; obtain ⟨rfl, _, rfl⟩ := he
      refine st_y hf rfl rfl rfl (y_indexAddr st_27 rfl rfl rfl h0_4 (idx_lt hx0_2)) ?_
      clear hf a; intro a hf
      refine st_y hf rfl rfl rfl (y_fieldAddr fo_50_0 rfl rfl) ?_
      clear hf a; intro a hf
      refine st_y hf rfl rfl rfl (y_load1 Try.isAgg3 rfl rfl ((flat_cells (cs := [(.int .i64 (x0_1.op)), (.int .i64 (x0_1.a_)), (.int .i64 (x0_1.b)), (.int .i64 (x0_1.c)), (.int .i64 (x0_1.n_))]) (hm.now h1) hx0_2 rfl).cell (j := 0) rfl)) ?_
      clear hf a; intro a hf
      refine st_y hf rfl rfl rfl (y_assign rfl rfl) ?_
      clear hf a; intro a hf
      refine st_end ?_
      refine x_then_n ?_
      refine wp_seq ?_
      obtain ⟨s0_1, hq0_1, hq⟩ := bnd hq
      refine code_cut (K := fun a w => Fr 51 [(2, (.bool (s0_1)))] a ∧ Mem w0 (hp w0) w []) ?_ ?_
      ·
        refine wp_region_lit ?_
        refine st_y hf rfl rfl rfl (y_move rfl rfl) ?_
        clear hf a; intro a hf
        refine st_y hf rfl rfl rfl (y_eql rfl rfl rfl) ?_
        clear hf a; intro a hf
        refine st_y hf rfl rfl rfl (y_move rfl rfl) ?_
        clear hf a; intro a hf
        rcases bcases (decide (x0_1.op = 20)) with h1_2 | h1_2
        ·
          replace hq0_1 := (ite_t h1_2).symm.trans hq0_1
          have h1_3 := of_decide_eq_true h1_2
          refine st_no hf rfl rfl (lk_b rfl h1_2) rfl rfl rfl ?_
          clear hf a; intro a hf
          refine st_no hf rfl rfl (lk_b rfl h1_2) rfl rfl rfl ?_
          clear hf a; intro a hf
          refine st_y hf rfl rfl rfl (y_pick_t rfl (ev_b rfl h1_2) rfl) ?_
          clear hf a; intro a hf
          refine st_y hf rfl rfl rfl (y_assign rfl rfl) ?_
          clear hf a; intro a hf
          refine st_end ?_
          refine x_then_n ?_
          obtain rfl := Option.some.inj hq0_1
          exact ⟨hf.sub ⟨rfl, trivial⟩, hm.pick [] (by decide) rfl⟩
        ·
          replace hq0_1 := (ite_f h1_2).symm.trans hq0_1
          have h1_4 := of_decide_eq_false h1_2
          refine st_yg hf rfl rfl (lk_b rfl h1_2) rfl rfl (y_move rfl rfl) ?_
          clear hf a; intro a hf
          refine st_yg hf rfl rfl (lk_b rfl h1_2) rfl rfl (y_eql rfl rfl rfl) ?_
          clear hf a; intro a hf
          refine st_y hf rfl rfl rfl (y_pick_f rfl (ev_b rfl h1_2) rfl) ?_
          clear hf a; intro a hf
          refine st_y hf rfl rfl rfl (y_assign rfl rfl) ?_
          clear hf a; intro a hf
          refine st_end ?_
          refine x_then_n ?_
          obtain rfl := Option.some.inj hq0_1
          exact ⟨hf.sub ⟨rfl, trivial⟩, hm.pick [] (by decide) rfl⟩
      ·
        clear hf hm
        rintro a w ⟨hf, hm⟩
        refine x_then_n ?_
        refine wp_ret ?_
        obtain rfl := Option.some.inj hq
        refine ret_tmp hf Try.results22 rfl ?_
        exact ⟨rfl, hm.below⟩

theorem spec_l24End_ok (w0 : World) (f : Mfn) (v1 : Value) (h1 : GT.rep (hp w0) [v1] f.ins) (at_ : Int) (r : Int) (hq : spec_l24End f at_ = some r) :
    Con Try.prog 24 [(.agg #[(.int .i64 (f.params)), (.int .i64 (f.slots)), v1]), (.int .i64 (at_))] w0 (fun v w' => v = (.int .i64 (r)) ∧ Below w0.heap.size w0 w') := by
  unfold spec_l24End at hq
  refine con_body (l := [(0, (.agg #[(.int .i64 (f.params)), (.int .i64 (f.slots)), v1])), (1, (.int .i64 (at_)))]) Try.func24 rfl Try.ntmps24 (Args.get ⟨rfl, rfl, trivial⟩) rfl ?_
  intro a hf
  have hm := Mem.start w0
  refine wp_seq ?_
  refine wp_region_lit ?_
  refine st_ef hf rfl rfl rfl (e_box hf hm rfl rfl rfl) ?_
  clear hf a; rintro _ w0_1 a ⟨b0_1, rfl, hm⟩ hf
  refine st_y hf rfl rfl rfl (y_assign rfl rfl) ?_
  clear hf a; intro a hf
  refine st_end ?_
  refine x_then_n ?_
  refine wp_seq ?_
  refine wp_seq ?_
  refine wp_region_lit ?_
  refine st_y hf rfl rfl rfl (y_assign rfl rfl) ?_
  clear hf a; intro a hf
  refine st_end ?_
  refine x_then_n ?_
  refine wp_block ?_
  obtain ⟨r0_1, hl0_1, hq⟩ := bnd hq
  refine wp_forN _ (fun i1_1 xs1_1 a w => Fr 27 [(1, (.int .i64 (xs1_1))), (2, (.pointer (some ⟨b0_1, 0, none⟩))), (5, (.int .i64 (i1_1)))] a ∧ Mem w0 (hp w0) w [blk b0_1 [(.int .i64 (f.params)), (.int .i64 (f.slots)), v1] 29]) (0) (((f.ins.length : Int)) + 1) hl0_1 ?_ ?_ ?_
  ·
    exact ⟨hf.sub ⟨rfl, rfl, rfl, trivial⟩, hm.pick [0] (by decide) rfl⟩
  ·
    clear hf hm
    rintro i1_1 xs1_1 a w ⟨hf, hm⟩ hi1_1 hi1_2 q0_1 hb0_1 ho0_1
    refine wp_seq ?_
    refine wp_seq ?_
    refine wp_region_lit ?_
    refine st_y hf rfl rfl rfl (y_move rfl rfl) ?_
    clear hf a; intro a hf
    refine st_y hf rfl rfl rfl (y_fieldAddr fo_29_2 rfl rfl) ?_
    clear hf a; intro a hf
    refine st_y hf rfl rfl rfl (y_load1 Try.isAgg27 rfl rfl (hm.blk_cell 0 rfl rfl)) ?_
    clear hf a; intro a hf
    obtain ⟨p1_1, c1_1, he, hl1_1⟩ := ro_slice (hm.now h1)
    subst he
    refine st_y hf rfl rfl rfl (y_len_slice st_27.und rfl rfl) ?_
    clear hf a; intro a hf
    refine st_y hf rfl rfl rfl (y_leq rfl rfl rfl) ?_
    clear hf a; intro a hf
    refine st_end ?_
    refine x_then_n ?_
    refine cond_t hf rfl (decide_eq_true (by omega)) ?_
    refine wp_skip ?_
    refine x_then_n ?_
    refine wp_seq ?_
    refine wp_block ?_
    refine wp_seq ?_
    refine wp_seq ?_
    refine wp_region_lit ?_
    refine st_y hf rfl rfl rfl (y_fieldAddr fo_29_2 rfl rfl) ?_
    clear hf a; intro a hf
    refine st_y hf rfl rfl rfl (y_load1 Try.isAgg27 rfl rfl (hm.blk_cell 0 rfl rfl)) ?_
    clear hf a; intro a hf
    refine st_y hf rfl rfl rfl (y_move rfl rfl) ?_
    clear hf a; intro a hf
    obtain ⟨x1_1, hx1_1, hb0_1⟩ := bnd hb0_1
    obtain ⟨h1_1, hx1_2⟩ := getI_some.1 hx1_1
    obtain ⟨b1_1, o1_1, c1_2, he⟩ := idx_form h1 hx1_2
    simp only [Value.slice.injEq] at he; obtain ⟨rfl, _, rfl⟩ := he
    refine st_y hf rfl rfl rfl (y_indexAddr st_27 rfl rfl rfl h1_1 (idx_lt hx1_2)) ?_
    clear hf a; intro a hf
    refine st_y hf rfl rfl rfl (y_fieldAddr fo_50_0 rfl rfl) ?_
    clear hf a; intro a hf
    refine st_y hf rfl rfl rfl (y_load1 Try.isAgg3 rfl rfl ((flat_cells (cs := [(.int .i64 (x1_1.op)), (.int .i64 (x1_1.a_)), (.int .i64 (x1_1.b)), (.int .i64 (x1_1.c)), (.int .i64 (x1_1.n_))]) (hm.now h1) hx1_2 rfl).cell (j := 0) rfl)) ?_
    clear hf a; intro a hf
    refine st_y hf rfl rfl rfl (y_neq rfl rfl rfl) ?_
    clear hf a; intro a hf
    refine st_end ?_
    refine x_then_n ?_
    rcases bcases (decide (x1_1.op ≠ 20)) with h1_2 | h1_2
    ·
      replace hb0_1 := (ite_t h1_2).symm.trans hb0_1
      have h1_3 := of_decide_eq_true h1_2
      refine cond_t hf rfl h1_2 ?_
      refine wp_seq ?_
      refine wp_region_lit ?_
      refine st_y hf rfl rfl rfl (y_move rfl rfl) ?_
      clear hf a; intro a hf
      refine st_y hf rfl rfl rfl (y_assign rfl rfl) ?_
      clear hf a; intro a hf
      refine st_end ?_
      refine x_then_n ?_
      refine wp_ret ?_
      refine x_then_ret ?_
      refine x_blk_ret ?_
      refine x_then_ret ?_
      refine x_then_ret ?_
      refine x_blk_ret ?_
      refine x_then_ret ?_
      obtain rfl := Option.some.inj hb0_1
      obtain rfl := ho0_1 _ rfl
      replace hq := sum_r hq
      obtain rfl := Option.some.inj hq
      refine ret_tmp hf Try.results24 rfl ?_
      exact ⟨rfl, hm.below⟩
    ·
      replace hb0_1 := (ite_f h1_2).symm.trans hb0_1
      have h1_4 := of_decide_eq_false h1_2
      refine cond_f hf rfl h1_2 ?_
      refine wp_skip ?_
      refine x_then_n ?_
      refine wp_region_lit ?_
      refine st_y hf rfl rfl rfl (y_fieldAddr fo_29_2 rfl rfl) ?_
      clear hf a; intro a hf
      refine st_y hf rfl rfl rfl (y_load1 Try.isAgg27 rfl rfl (hm.blk_cell 0 rfl rfl)) ?_
      clear hf a; intro a hf
      refine st_y hf rfl rfl rfl (y_move rfl rfl) ?_
      clear hf a; intro a hf
      obtain ⟨x1_2, hx1_3, hb0_1⟩ := bnd hb0_1
      obtain ⟨h1_5, hx1_4⟩ := getI_some.1 hx1_3
      refine st_y hf rfl rfl rfl (y_indexAddr st_27 rfl rfl rfl h1_5 (idx_lt hx1_4)) ?_
      clear hf a; intro a hf
      refine st_y hf rfl rfl rfl (y_fieldAddr fo_50_4 rfl rfl) ?_
      clear hf a; intro a hf
      refine st_y hf rfl rfl rfl (y_load1 Try.isAgg3 rfl rfl ((flat_cells (cs := [(.int .i64 (x1_2.op)), (.int .i64 (x1_2.a_)), (.int .i64 (x1_2.b)), (.int .i64 (x1_2.c)), (.int .i64 (x1_2.n_))]) (hm.now h1) hx1_4 rfl).cell (j := 4) rfl)) ?_
      clear hf a; intro a hf
      refine st_y hf rfl rfl rfl (y_assign rfl rfl) ?_
      clear hf a; intro a hf
      refine st_end ?_
      refine x_blk_n ?_
      refine x_then_n ?_
      refine wp_region_lit ?_
      refine st_y hf rfl rfl rfl (y_move rfl rfl) ?_
      clear hf a; intro a hf
      refine st_y hf rfl rfl rfl (y_add64 rfl rfl rfl (by omega) (by omega)) ?_
      clear hf a; intro a hf
      refine st_y hf rfl rfl rfl (y_assign rfl rfl) ?_
      clear hf a; intro a hf
      refine st_end ?_
      refine x_then_n ?_
      obtain rfl := Option.some.inj hb0_1
      exact ⟨_, rfl, hf.sub ⟨rfl, rfl, rfl, trivial⟩, hm.pick [0] (by decide) rfl⟩
  ·
    clear hf hm
    rintro i1_1 xs1_1 a w ⟨hf, hm⟩ hi0_1 hi0_2 rfl
    replace hq := sum_l hq
    refine wp_seq ?_
    refine wp_seq ?_
    refine wp_region_lit ?_
    refine st_y hf rfl rfl rfl (y_move rfl rfl) ?_
    clear hf a; intro a hf
    refine st_y hf rfl rfl rfl (y_fieldAddr fo_29_2 rfl rfl) ?_
    clear hf a; intro a hf
    refine st_y hf rfl rfl rfl (y_load1 Try.isAgg27 rfl rfl (hm.blk_cell 0 rfl rfl)) ?_
    clear hf a; intro a hf
    obtain ⟨p0_1, c0_1, he, hl0_2⟩ := ro_slice (hm.now h1)
    subst he
    refine st_y hf rfl rfl rfl (y_len_slice st_27.und rfl rfl) ?_
    clear hf a; intro a hf
    refine st_y hf rfl rfl rfl (y_leq rfl rfl rfl) ?_
    clear hf a; intro a hf
    refine st_end ?_
    refine x_then_n ?_
    refine cond_f hf rfl (decide_eq_false (by omega)) ?_
    refine wp_exit ?_
    refine x_then_exit ?_
    refine x_then_exit ?_
    refine x_blk_hit ?_
    refine x_then_n ?_
    refine wp_seq ?_
    refine wp_region_lit ?_
    refine st_y hf rfl rfl rfl (y_assign rfl rfl) ?_
    clear hf a; intro a hf
    refine st_end ?_
    refine x_then_n ?_
    refine wp_ret ?_
    obtain rfl := Option.some.inj hq
    refine ret_tmp hf Try.results24 rfl ?_
    exact ⟨rfl, hm.below⟩

theorem spec_JumpEnd_ok (w0 : World) (f : Mfn) (v1 : Value) (h1 : GT.rep (hp w0) [v1] f.ins) (at_ : Int) (r : Int) (hq : spec_JumpEnd f at_ = some r) :
    Con Try.prog 7 [(.agg #[(.int .i64 (f.params)), (.int .i64 (f.slots)), v1]), (.int .i64 (at_))] w0 (fun v w' => v = (.int .i64 (r)) ∧ Below w0.heap.size w0 w') := by
  unfold spec_JumpEnd at hq
  refine con_body (l := [(0, (.agg #[(.int .i64 (f.params)), (.int .i64 (f.slots)), v1])), (1, (.int .i64 (at_)))]) Try.func7 rfl Try.ntmps7 (Args.get ⟨rfl, rfl, trivial⟩) rfl ?_
  intro a hf
  have hm := Mem.start w0
  refine wp_seq ?_
  refine wp_region_lit ?_
  refine st_ef hf rfl rfl rfl (e_box hf hm rfl rfl rfl) ?_
  clear hf a; rintro _ w0_1 a ⟨b0_1, rfl, hm⟩ hf
  refine st_y hf rfl rfl rfl (y_assign rfl rfl) ?_
  clear hf a; intro a hf
  refine st_end ?_
  refine x_then_n ?_
  refine wp_seq ?_
  refine wp_seq ?_
  obtain ⟨s0_1, hq0_1, hq⟩ := bnd hq
  refine code_cut (K := fun a w => Fr 20 [(1, (.int .i64 (at_))), (2, (.pointer (some ⟨b0_1, 0, none⟩))), (16, (.bool (s0_1)))] a ∧ Mem w0 (hp w0) w [blk b0_1 [(.int .i64 (f.params)), (.int .i64 (f.slots)), v1] 29]) ?_ ?_
  ·
    refine wp_region_lit ?_
    refine st_y hf rfl rfl rfl (y_loadN (cs := [(.int .i64 (f.params)), (.int .i64 (f.slots)), v1]) Try.isAgg29 Try.sizeOf29 rfl rfl (hm.blk_at 0 rfl)) ?_
    clear hf a; intro a hf
    obtain ⟨r1_1, hx1_1, hq0_1⟩ := bnd hq0_1
    refine st_ef hf rfl rfl rfl (e_call hf rfl Try.call22 rfl (spec_l24Fits_ok _ f v1 (hm.now h1) _ hx1_1)) ?_
    clear hf a; rintro _ w1_1 a ⟨rfl, hB⟩ hf
    replace hm := hm.below' hB; clear hB
    refine st_y hf rfl rfl rfl (y_not rfl rfl) ?_
    clear hf a; intro a hf
    refine st_y hf rfl rfl rfl (y_move rfl rfl) ?_
    clear hf a; intro a hf
    rcases bcases (!(r1_1)) with h1_1 | h1_1
    ·
      replace hq0_1 := (ite_t h1_1).symm.trans hq0_1
      have h1_2 := bnot_t' h1_1
      refine st_no hf rfl rfl (lk_b rfl h1_1) rfl rfl rfl ?_
      clear hf a; intro a hf
      refine st_no hf rfl rfl (lk_b rfl h1_1) rfl rfl rfl ?_
      clear hf a; intro a hf
      refine st_no hf rfl rfl (lk_b rfl h1_1) rfl rfl rfl ?_
      clear hf a; intro a hf
      refine st_no hf rfl rfl (lk_b rfl h1_1) rfl rfl rfl ?_
      clear hf a; intro a hf
      refine st_no hf rfl rfl (lk_b rfl h1_1) rfl rfl rfl ?_
      clear hf a; intro a hf
      refine st_no hf rfl rfl (lk_b rfl h1_1) rfl rfl rfl ?_
      clear hf a; intro a hf
      refine st_no hf rfl rfl (lk_b rfl h1_1) rfl rfl rfl ?_
      clear hf a; intro a hf
      refine st_y hf rfl rfl rfl (y_pick_t rfl (ev_b rfl h1_1) rfl) ?_
      clear hf a; intro a hf
      refine st_end ?_
      refine x_then_n ?_
      obtain rfl := Option.some.inj hq0_1
      exact ⟨hf.sub ⟨rfl, rfl, rfl, trivial⟩, hm.pick [0] (by decide) rfl⟩
    ·
      replace hq0_1 := (ite_f h1_1).symm.trans hq0_1
      have h1_3 := bnot_f' h1_1
      refine st_yg hf rfl rfl (lk_b rfl h1_1) rfl rfl (y_move rfl rfl) ?_
      clear hf a; intro a hf
      refine st_yg hf rfl rfl (lk_b rfl h1_1) rfl rfl (y_fieldAddr fo_29_2 rfl rfl) ?_
      clear hf a; intro a hf
      refine st_yg hf rfl rfl (lk_b rfl h1_1) rfl rfl (y_load1 Try.isAgg27 rfl rfl (hm.blk_cell 0 rfl rfl)) ?_
      clear hf a; intro a hf
      obtain ⟨p1_1, c1_1, he, hl1_1⟩ := ro_slice (hm.now h1)
      subst he
      refine st_yg hf rfl rfl (lk_b rfl h1_1) rfl rfl (y_len_slice st_27.und rfl rfl) ?_
      clear hf a; intro a hf
      refine st_yg hf rfl rfl (lk_b rfl h1_1) rfl rfl (y_sub64 rfl rfl rfl (by omega) (by omega)) ?_
      clear hf a; intro a hf
      obtain ⟨r1_2, hx1_2, hq0_1⟩ := bnd hq0_1
      refine st_efg hf rfl rfl (lk_b rfl h1_1) rfl rfl (e_call hf rfl Try.call23 rfl (spec_l1In_ok _ at_ 0 (((f.ins.length : Int)) - 1) _ hx1_2)) ?_
      clear hf a; rintro _ w1_2 a ⟨rfl, hB⟩ hf
      replace hm := hm.below' hB; clear hB
      refine st_yg hf rfl rfl (lk_b rfl h1_1) rfl rfl (y_not rfl rfl) ?_
      clear hf a; intro a hf
      refine st_y hf rfl rfl rfl (y_pick_f rfl (ev_b rfl h1_1) rfl) ?_
      clear hf a; intro a hf
      refine st_end ?_
      refine x_then_n ?_
      obtain rfl := Option.some.inj hq0_1
      exact ⟨hf.sub ⟨rfl, rfl, rfl, trivial⟩, hm.pick [0] (by decide) rfl⟩
  ·
    clear hf hm
    rintro a w ⟨hf, hm⟩
    refine x_then_n ?_
    rcases bcases (s0_1) with h0_1 | h0_1
    ·
      replace hq := (ite_t h0_1).symm.trans hq
      refine cond_t hf rfl h0_1 ?_
      refine wp_seq ?_
      refine wp_region_lit ?_
      refine st_y hf rfl rfl rfl (y_assign rfl rfl) ?_
      clear hf a; intro a hf
      refine st_end ?_
      refine x_then_n ?_
      refine wp_ret ?_
      refine x_then_ret ?_
      obtain rfl := Option.some.inj hq
      refine ret_tmp hf Try.results7 rfl ?_
      exact ⟨rfl, hm.below⟩
    ·
      replace hq := (ite_f h0_1).symm.trans hq
      refine cond_f hf rfl h0_1 ?_
      refine wp_skip ?_
      refine x_then_n ?_
      refine wp_seq ?_
      refine wp_region_lit ?_
      refine st_y hf rfl rfl rfl (y_loadN (cs := [(.int .i64 (f.params)), (.int .i64 (f.slots)), v1]) Try.isAgg29 Try.sizeOf29 rfl rfl (hm.blk_at 0 rfl)) ?_
      clear hf a; intro a hf
      refine st_y hf rfl rfl rfl (y_move rfl rfl) ?_
      clear hf a; intro a hf
      obtain ⟨r0_1, hx0_1, hq⟩ := bnd hq
      refine st_ef hf rfl rfl rfl (e_call hf rfl Try.call24 rfl (spec_l24End_ok _ f v1 (hm.now h1) at_ _ hx0_1)) ?_
      clear hf a; rintro _ w0_2 a ⟨rfl, hB⟩ hf
      replace hm := hm.below' hB; clear hB
      refine st_y hf rfl rfl rfl (y_assign rfl rfl) ?_
      clear hf a; intro a hf
      refine st_end ?_
      refine x_then_n ?_
      refine wp_ret ?_
      obtain rfl := Option.some.inj hq
      refine ret_tmp hf Try.results7 rfl ?_
      exact ⟨rfl, hm.below⟩

theorem impl_jumpOp_ok (w0 : World) (op : Int) (r : Bool) (hq : impl_jumpOp op = some r) :
    Con Try.prog 34 [(.int .i64 (op))] w0 (fun v w' => v = (.bool (r)) ∧ Below w0.heap.size w0 w') := by
  unfold impl_jumpOp at hq
  refine con_body (l := [(0, (.int .i64 (op)))]) Try.func34 rfl Try.ntmps34 (Args.get ⟨rfl, trivial⟩) rfl ?_
  intro a hf
  have hm := Mem.start w0
  refine wp_seq ?_
  refine wp_region_lit ?_
  refine st_y hf rfl rfl rfl (y_assign rfl rfl) ?_
  clear hf a; intro a hf
  refine st_end ?_
  refine x_then_n ?_
  refine wp_seq ?_
  obtain ⟨s0_1, hq0_1, hq⟩ := bnd hq
  refine code_cut (K := fun a w => Fr 9 [(2, (.bool (s0_1)))] a ∧ Mem w0 (hp w0) w []) ?_ ?_
  ·
    refine wp_region_lit ?_
    refine st_y hf rfl rfl rfl (y_move rfl rfl) ?_
    clear hf a; intro a hf
    refine st_y hf rfl rfl rfl (y_eql rfl rfl rfl) ?_
    clear hf a; intro a hf
    refine st_y hf rfl rfl rfl (y_move rfl rfl) ?_
    clear hf a; intro a hf
    rcases bcases (decide (op = 20)) with h1_1 | h1_1
    ·
      replace hq0_1 := (ite_t h1_1).symm.trans hq0_1
      have h1_2 := of_decide_eq_true h1_1
      refine st_no hf rfl rfl (lk_b rfl h1_1) rfl rfl rfl ?_
      clear hf a; intro a hf
      refine st_no hf rfl rfl (lk_b rfl h1_1) rfl rfl rfl ?_
      clear hf a; intro a hf
      refine st_y hf rfl rfl rfl (y_pick_t rfl (ev_b rfl h1_1) rfl) ?_
      clear hf a; intro a hf
      refine st_y hf rfl rfl rfl (y_assign rfl rfl) ?_
      clear hf a; intro a hf
      refine st_end ?_
      refine x_then_n ?_
      obtain rfl := Option.some.inj hq0_1
      exact ⟨hf.sub ⟨rfl, trivial⟩, hm.pick [] (by decide) rfl⟩
    ·
      replace hq0_1 := (ite_f h1_1).symm.trans hq0_1
      have h1_3 := of_decide_eq_false h1_1
      refine st_yg hf rfl rfl (lk_b rfl h1_1) rfl rfl (y_move rfl rfl) ?_
      clear hf a; intro a hf
      refine st_yg hf rfl rfl (lk_b rfl h1_1) rfl rfl (y_eql rfl rfl rfl) ?_
      clear hf a; intro a hf
      refine st_y hf rfl rfl rfl (y_pick_f rfl (ev_b rfl h1_1) rfl) ?_
      clear hf a; intro a hf
      refine st_y hf rfl rfl rfl (y_assign rfl rfl) ?_
      clear hf a; intro a hf
      refine st_end ?_
      refine x_then_n ?_
      obtain rfl := Option.some.inj hq0_1
      exact ⟨hf.sub ⟨rfl, trivial⟩, hm.pick [] (by decide) rfl⟩
  ·
    clear hf hm
    rintro a w ⟨hf, hm⟩
    refine x_then_n ?_
    refine wp_ret ?_
    obtain rfl := Option.some.inj hq
    refine ret_tmp hf Try.results34 rfl ?_
    exact ⟨rfl, hm.below⟩

theorem impl_within_ok (w0 : World) (n_ : Int) (low : Int) (high : Int) (r : Bool) (hq : impl_within n_ low high = some r) :
    Con Try.prog 27 [(.int .i64 (n_)), (.int .i64 (low)), (.int .i64 (high))] w0 (fun v w' => v = (.bool (r)) ∧ Below w0.heap.size w0 w') := by
  unfold impl_within at hq
  refine con_body (l := [(0, (.int .i64 (n_))), (1, (.int .i64 (low))), (2, (.int .i64 (high)))]) Try.func27 rfl Try.ntmps27 (Args.get ⟨rfl, rfl, rfl, trivial⟩) rfl ?_
  intro a hf
  have hm := Mem.start w0
  refine wp_seq ?_
  refine wp_region_lit ?_
  refine st_y hf rfl rfl rfl (y_assign rfl rfl) ?_
  clear hf a; intro a hf
  refine st_end ?_
  refine x_then_n ?_
  refine wp_seq ?_
  obtain ⟨s0_1, hq0_1, hq⟩ := bnd hq
  refine code_cut (K := fun a w => Fr 15 [(6, (.bool (s0_1)))] a ∧ Mem w0 (hp w0) w []) ?_ ?_
  ·
    refine wp_region_lit ?_
    refine st_y hf rfl rfl rfl (y_move rfl rfl) ?_
    clear hf a; intro a hf
    refine st_y hf rfl rfl rfl (y_move rfl rfl) ?_
    clear hf a; intro a hf
    refine st_y hf rfl rfl rfl (y_leq rfl rfl rfl) ?_
    clear hf a; intro a hf
    refine st_y hf rfl rfl rfl (y_move rfl rfl) ?_
    clear hf a; intro a hf
    rcases bcases (decide (low ≤ n_)) with h1_1 | h1_1
    ·
      replace hq0_1 := (ite_t h1_1).symm.trans hq0_1
      have h1_2 := of_decide_eq_true h1_1
      refine st_yg hf rfl rfl (lk_b rfl h1_1) rfl rfl (y_move rfl rfl) ?_
      clear hf a; intro a hf
      refine st_yg hf rfl rfl (lk_b rfl h1_1) rfl rfl (y_move rfl rfl) ?_
      clear hf a; intro a hf
      refine st_yg hf rfl rfl (lk_b rfl h1_1) rfl rfl (y_leq rfl rfl rfl) ?_
      clear hf a; intro a hf
      refine st_y hf rfl rfl rfl (y_pick_t rfl (ev_b rfl h1_1) rfl) ?_
      clear hf a; intro a hf
      refine st_y hf rfl rfl rfl (y_assign rfl rfl) ?_
      clear hf a; intro a hf
      refine st_end ?_
      refine x_then_n ?_
      obtain rfl := Option.some.inj hq0_1
      exact ⟨hf.sub ⟨rfl, trivial⟩, hm.pick [] (by decide) rfl⟩
    ·
      replace hq0_1 := (ite_f h1_1).symm.trans hq0_1
      have h1_3 := of_decide_eq_false h1_1
      refine st_no hf rfl rfl (lk_b rfl h1_1) rfl rfl rfl ?_
      clear hf a; intro a hf
      refine st_no hf rfl rfl (lk_b rfl h1_1) rfl rfl rfl ?_
      clear hf a; intro a hf
      refine st_no hf rfl rfl (lk_b rfl h1_1) rfl rfl rfl ?_
      clear hf a; intro a hf
      refine st_y hf rfl rfl rfl (y_pick_f rfl (ev_b rfl h1_1) rfl) ?_
      clear hf a; intro a hf
      refine st_y hf rfl rfl rfl (y_assign rfl rfl) ?_
      clear hf a; intro a hf
      refine st_end ?_
      refine x_then_n ?_
      obtain rfl := Option.some.inj hq0_1
      exact ⟨hf.sub ⟨rfl, trivial⟩, hm.pick [] (by decide) rfl⟩
  ·
    clear hf hm
    rintro a w ⟨hf, hm⟩
    refine x_then_n ?_
    refine wp_ret ?_
    obtain rfl := Option.some.inj hq
    refine ret_tmp hf Try.results27 rfl ?_
    exact ⟨rfl, hm.below⟩

theorem impl_peepable_1_ok (w0 : World) (x_ : Mins) (c0_ : Int) (bf0 : Nat) (hbf0 : w0.heap[bf0]? = some (.cells ([(.int .i64 (c0_))] : List Value).toArray 3 (0, 0))) (r : Bool) (hq : impl_peepable_1 x_ c0_ = some r) :
    Con Try.prog 44 [(.agg #[(.int .i64 (x_.op)), (.int .i64 (x_.a_)), (.int .i64 (x_.b)), (.int .i64 (x_.c)), (.int .i64 (x_.n_))]), (.pointer (some ⟨bf0, 0, none⟩))] w0 (fun v w' => v = (.bool (r)) ∧ Below w0.heap.size w0 w') := by
  unfold impl_peepable_1 at hq
  refine con_body (l := [(0, (.agg #[(.int .i64 (x_.op)), (.int .i64 (x_.a_)), (.int .i64 (x_.b)), (.int .i64 (x_.c)), (.int .i64 (x_.n_))])), (1, (.pointer (some ⟨bf0, 0, none⟩)))]) Try.func44 rfl Try.ntmps44 (Args.get ⟨rfl, rfl, trivial⟩) rfl ?_
  intro a hf
  have hm := Mem.start w0
  refine wp_seq ?_
  refine wp_region_lit ?_
  refine st_ef hf rfl rfl rfl (e_box hf hm rfl rfl rfl) ?_
  clear hf a; rintro _ w0_1 a ⟨b0_1, rfl, hm⟩ hf
  refine st_y hf rfl rfl rfl (y_assign rfl rfl) ?_
  clear hf a; intro a hf
  refine st_end ?_
  refine x_then_n ?_
  refine wp_seq ?_
  obtain ⟨s0_1, hq0_1, hq⟩ := bnd hq
  refine code_cut (K := fun a w => Fr 15 [(3, (.bool (s0_1)))] a ∧ Mem w0 (hp w0) w []) ?_ ?_
  ·
    refine wp_region_lit ?_
    refine st_y hf rfl rfl rfl (y_fieldAddr fo_50_0 rfl rfl) ?_
    clear hf a; intro a hf
    refine st_y hf rfl rfl rfl (y_load1 Try.isAgg3 rfl rfl (hm.blk_cell 0 rfl rfl)) ?_
    clear hf a; intro a hf
    obtain ⟨r1_1, hx1_1, hq0_1⟩ := bnd hq0_1
    refine st_ef hf rfl rfl rfl (e_call hf rfl Try.call34 rfl (impl_jumpOp_ok _ x_.op _ hx1_1)) ?_
    clear hf a; rintro _ w1_1 a ⟨rfl, hB⟩ hf
    replace hm := hm.below' hB; clear hB
    refine st_y hf rfl rfl rfl (y_move rfl rfl) ?_
    clear hf a; intro a hf
    rcases bcases (r1_1) with h1_1 | h1_1
    ·
      replace hq0_1 := (ite_t h1_1).symm.trans hq0_1
      refine st_yg hf rfl rfl (lk_b rfl h1_1) rfl rfl (y_fieldAddr fo_50_4 rfl rfl) ?_
      clear hf a; intro a hf
      refine st_yg hf rfl rfl (lk_b rfl h1_1) rfl rfl (y_load1 Try.isAgg3 rfl rfl (hm.blk_cell 0 rfl rfl)) ?_
      clear hf a; intro a hf
      refine st_yg hf rfl rfl (lk_b rfl h1_1) rfl rfl (y_load1 Try.isAgg3 rfl rfl (hm.old_cell hbf0 rfl)) ?_
      clear hf a; intro a hf
      refine st_yg hf rfl rfl (lk_b rfl h1_1) rfl rfl (y_subw rfl rfl rfl) ?_
      clear hf a; intro a hf
      obtain ⟨r1_2, hx1_2, hq0_1⟩ := bnd hq0_1
      refine st_efg hf rfl rfl (lk_b rfl h1_1) rfl rfl (e_call hf rfl Try.call27 rfl (impl_within_ok _ x_.n_ 0 (w64 (c0_ - 1)) _ hx1_2)) ?_
      clear hf a; rintro _ w1_2 a ⟨rfl, hB⟩ hf
      replace hm := hm.below' hB; clear hB
      refine st_yg hf rfl rfl (lk_b rfl h1_1) rfl rfl (y_not rfl rfl) ?_
      clear hf a; intro a hf
      refine st_y hf rfl rfl rfl (y_pick_t rfl (ev_b rfl h1_1) rfl) ?_
      clear hf a; intro a hf
      refine st_y hf rfl rfl rfl (y_assign rfl rfl) ?_
      clear hf a; intro a hf
      refine st_end ?_
      refine x_then_n ?_
      obtain rfl := Option.some.inj hq0_1
      exact ⟨hf.sub ⟨rfl, trivial⟩, hm.pick [] (by decide) rfl⟩
    ·
      replace hq0_1 := (ite_f h1_1).symm.trans hq0_1
      refine st_no hf rfl rfl (lk_b rfl h1_1) rfl rfl rfl ?_
      clear hf a; intro a hf
      refine st_no hf rfl rfl (lk_b rfl h1_1) rfl rfl rfl ?_
      clear hf a; intro a hf
      refine st_no hf rfl rfl (lk_b rfl h1_1) rfl rfl rfl ?_
      clear hf a; intro a hf
      refine st_no hf rfl rfl (lk_b rfl h1_1) rfl rfl rfl ?_
      clear hf a; intro a hf
      refine st_no hf rfl rfl (lk_b rfl h1_1) rfl rfl rfl ?_
      clear hf a; intro a hf
      refine st_no hf rfl rfl (lk_b rfl h1_1) rfl rfl rfl ?_
      clear hf a; intro a hf
      refine st_y hf rfl rfl rfl (y_pick_f rfl (ev_b rfl h1_1) rfl) ?_
      clear hf a; intro a hf
      refine st_y hf rfl rfl rfl (y_assign rfl rfl) ?_
      clear hf a; intro a hf
      refine st_end ?_
      refine x_then_n ?_
      obtain rfl := Option.some.inj hq0_1
      exact ⟨hf.sub ⟨rfl, trivial⟩, hm.pick [] (by decide) rfl⟩
  ·
    clear hf hm
    rintro a w ⟨hf, hm⟩
    refine x_then_n ?_
    refine wp_ret ?_
    obtain rfl := Option.some.inj hq
    refine ret_tmp hf Try.results44 rfl ?_
    exact ⟨rfl, hm.below⟩

theorem slices_IndexFunc_S_impl_Mins_impl_Mins_ok (w0 : World) (s_ : List Mins) (v1 : Value) (h1 : GT.rep (hp w0) [v1] s_) (f : Mins → Option Bool) (fv2 : Value) (hfn2 : ∀ (w : World) (y0 : Mins) (r : Bool), Below w0.heap.size w0 w → f y0 = some r → FnOk Try.prog fv2 [(.agg #[(.int .i64 (y0.op)), (.int .i64 (y0.a_)), (.int .i64 (y0.b)), (.int .i64 (y0.c)), (.int .i64 (y0.n_))])] w (fun v w' => v = (.bool (r)) ∧ Below w.heap.size w w')) (r : Int) (hq : slices_IndexFunc_S_impl_Mins_impl_Mins s_ f = some r) :
    Con Try.prog 50 [v1, fv2] w0 (fun v w' => v = (.int .i64 (r)) ∧ Below w0.heap.size w0 w') := by
  unfold slices_IndexFunc_S_impl_Mins_impl_Mins at hq
  refine con_body (l := [(0, v1), (1, fv2)]) Try.func50 rfl Try.ntmps50 (Args.get ⟨rfl, rfl, trivial⟩) rfl ?_
  intro a hf
  have hm := Mem.start w0
  refine wp_seq ?_
  refine wp_region_lit ?_
  refine st_y hf rfl rfl rfl (y_assign rfl rfl) ?_
  clear hf a; intro a hf
  refine st_end ?_
  refine x_then_n ?_
  refine wp_seq ?_
  refine wp_seq ?_
  refine wp_region_lit ?_
  refine st_y hf rfl rfl rfl (y_move rfl rfl) ?_
  clear hf a; intro a hf
  obtain ⟨p0_1, c0_1, he, hl0_1⟩ := ro_slice (hm.now h1)
  subst he
  refine st_y hf rfl rfl rfl (y_len_slice st_27.und rfl rfl) ?_
  clear hf a; intro a hf
  refine st_y hf rfl rfl rfl (y_move rfl rfl) ?_
  clear hf a; intro a hf
  refine st_end ?_
  refine x_then_n ?_
  refine wp_block ?_
  obtain ⟨r0_1, hl0_2, hq⟩ := bnd hq
  refine wp_forN _ (fun i1_1 xs1_1 a w => Fr 19 [(0, (.slice p0_1 s_.length c0_1)), (1, fv2), (7, (.int .i64 ((s_.length : Int)))), (8, (.int .i64 (i1_1)))] a ∧ Mem w0 (hp w0) w []) (0) ((s_.length : Int)) hl0_2 ?_ ?_ ?_
  ·
    exact ⟨hf.sub ⟨rfl, rfl, rfl, rfl, trivial⟩, hm.pick [] (by decide) rfl⟩
  ·
    clear hf hm
    rintro i1_1 xs1_1 a w ⟨hf, hm⟩ hi1_1 hi1_2 q0_1 hb0_1 ho0_1
    refine wp_seq ?_
    refine wp_region_lit ?_
    refine st_y hf rfl rfl rfl (y_lss rfl rfl rfl) ?_
    clear hf a; intro a hf
    refine st_end ?_
    refine x_then_n ?_
    refine wp_seq ?_
    refine cond_t hf rfl (decide_eq_true (by omega)) ?_
    refine wp_skip ?_
    refine x_then_n ?_
    refine wp_seq ?_
    refine wp_block ?_
    refine wp_seq ?_
    refine wp_region_lit ?_
    refine st_y hf rfl rfl rfl (y_move rfl rfl) ?_
    clear hf a; intro a hf
    refine st_y hf rfl rfl rfl (y_assign rfl rfl) ?_
    clear hf a; intro a hf
    refine st_end ?_
    refine x_then_n ?_
    refine wp_seq ?_
    refine wp_region_lit ?_
    refine st_y hf rfl rfl rfl (y_move rfl rfl) ?_
    clear hf a; intro a hf
    refine st_y hf rfl rfl rfl (y_move rfl rfl) ?_
    clear hf a; intro a hf
    refine st_y hf rfl rfl rfl (y_move rfl rfl) ?_
    clear hf a; intro a hf
    obtain ⟨x1_1, hx1_1, hb0_1⟩ := bnd hb0_1
    obtain ⟨h1_1, hx1_2⟩ := getI_some.1 hx1_1
    obtain ⟨b1_1, o1_1, c1_1, he⟩ := idx_form h1 hx1_2
    simp only [Value.slice.injEq] at he; obtain ⟨rfl, _, rfl⟩ := he
    refine st_y hf rfl rfl rfl (y_indexAddr st_27 rfl rfl rfl h1_1 (idx_lt hx1_2)) ?_
    clear hf a; intro a hf
    refine st_y hf rfl rfl rfl (y_loadN (cs := [(.int .i64 (x1_1.op)), (.int .i64 (x1_1.a_)), (.int .i64 (x1_1.b)), (.int .i64 (x1_1.c)), (.int .i64 (x1_1.n_))]) Try.isAgg50 Try.sizeOf50 rfl rfl (flat_cells (cs := [(.int .i64 (x1_1.op)), (.int .i64 (x1_1.a_)), (.int .i64 (x1_1.b)), (.int .i64 (x1_1.c)), (.int .i64 (x1_1.n_))]) (hm.now h1) hx1_2 rfl)) ?_
    clear hf a; intro a hf
    obtain ⟨r1_1, hx1_3, hb0_1⟩ := bnd hb0_1
    refine st_ef hf rfl rfl rfl (e_callv hf rfl rfl rfl (hfn2 _ x1_1 _ hm.below hx1_3)) ?_
    clear hf a; rintro _ w1_1 a ⟨rfl, hB⟩ hf
    replace hm := hm.below' hB; clear hB
    refine st_end ?_
    refine x_then_n ?_
    rcases bcases (r1_1) with h1_2 | h1_2
    ·
      replace hb0_1 := (ite_t h1_2).symm.trans hb0_1
      refine cond_t hf rfl h1_2 ?_
      refine wp_seq ?_
      refine wp_region_lit ?_
      refine st_y hf rfl rfl rfl (y_move rfl rfl) ?_
      clear hf a; intro a hf
      refine st_y hf rfl rfl rfl (y_assign rfl rfl) ?_
      clear hf a; intro a hf
      refine st_end ?_
      refine x_then_n ?_
      refine wp_ret ?_
      refine x_blk_ret ?_
      refine x_then_ret ?_
      refine x_then_ret ?_
      refine x_blk_ret ?_
      refine x_then_ret ?_
      obtain rfl := Option.some.inj hb0_1
      obtain rfl := ho0_1 _ rfl
      replace hq := sum_r hq
      obtain rfl := Option.some.inj hq
      refine ret_tmp hf Try.results50 rfl ?_
      exact ⟨rfl, hm.below⟩
    ·
      replace hb0_1 := (ite_f h1_2).symm.trans hb0_1
      refine cond_f hf rfl h1_2 ?_
      refine wp_skip ?_
      refine x_blk_n ?_
      refine x_then_n ?_
      refine wp_region_lit ?_
      refine st_y hf rfl rfl rfl (y_add64 rfl rfl rfl (by omega) (by omega)) ?_
      clear hf a; intro a hf
      refine st_y hf rfl rfl rfl (y_move rfl rfl) ?_
      clear hf a; intro a hf
      refine st_end ?_
      refine x_then_n ?_
      obtain rfl := Option.some.inj hb0_1
      exact ⟨_, rfl, hf.sub ⟨rfl, rfl, rfl, rfl, trivial⟩, hm.pick [] (by decide) rfl⟩
  ·
    clear hf hm
    rintro i1_1 xs1_1 a w ⟨hf, hm⟩ hi0_1 hi0_2 rfl
    replace hq := sum_l hq
    refine wp_seq ?_
    refine wp_region_lit ?_
    refine st_y hf rfl rfl rfl (y_lss rfl rfl rfl) ?_
    clear hf a; intro a hf
    refine st_end ?_
    refine x_then_n ?_
    refine wp_seq ?_
    refine cond_f hf rfl (decide_eq_false (by omega)) ?_
    refine wp_exit ?_
    refine x_then_exit ?_
    refine x_then_exit ?_
    refine x_blk_hit ?_
    refine x_then_n ?_
    refine wp_seq ?_
    refine wp_region_lit ?_
    refine st_y hf rfl rfl rfl (y_assign rfl rfl) ?_
    clear hf a; intro a hf
    refine st_end ?_
    refine x_then_n ?_
    refine wp_ret ?_
    obtain rfl := Option.some.inj hq
    refine ret_tmp hf Try.results50 rfl ?_
    exact ⟨rfl, hm.below⟩

theorem slices_ContainsFunc_S_impl_Mins_impl_Mins_ok (w0 : World) (s_ : List Mins) (v1 : Value) (h1 : GT.rep (hp w0) [v1] s_) (f : Mins → Option Bool) (fv2 : Value) (hfn2 : ∀ (w : World) (y0 : Mins) (r : Bool), Below w0.heap.size w0 w → f y0 = some r → FnOk Try.prog fv2 [(.agg #[(.int .i64 (y0.op)), (.int .i64 (y0.a_)), (.int .i64 (y0.b)), (.int .i64 (y0.c)), (.int .i64 (y0.n_))])] w (fun v w' => v = (.bool (r)) ∧ Below w.heap.size w w')) (r : Bool) (hq : slices_ContainsFunc_S_impl_Mins_impl_Mins s_ f = some r) :
    Con Try.prog 43 [v1, fv2] w0 (fun v w' => v = (.bool (r)) ∧ Below w0.heap.size w0 w') := by
  unfold slices_ContainsFunc_S_impl_Mins_impl_Mins at hq
  refine con_body (l := [(0, v1), (1, fv2)]) Try.func43 rfl Try.ntmps43 (Args.get ⟨rfl, rfl, trivial⟩) rfl ?_
  intro a hf
  have hm := Mem.start w0
  refine wp_seq ?_
  refine wp_region_lit ?_
  refine st_y hf rfl rfl rfl (y_assign rfl rfl) ?_
  clear hf a; intro a hf
  refine st_end ?_
  refine x_then_n ?_
  refine wp_seq ?_
  refine wp_region_lit ?_
  refine st_y hf rfl rfl rfl (y_move rfl rfl) ?_
  clear hf a; intro a hf
  refine st_y hf rfl rfl rfl (y_move rfl rfl) ?_
  clear hf a; intro a hf
  obtain ⟨r0_1, hx0_1, hq⟩ := bnd hq
  refine st_ef hf rfl rfl rfl (e_call hf rfl Try.call50 rfl (slices_IndexFunc_S_impl_Mins_impl_Mins_ok _ s_ v1 (hm.now h1) f fv2 (fun w y0 r hB hq => hfn2 w y0 r (hm.below.trans (hB.mono hm.below.size)) hq) _ hx0_1)) ?_
  clear hf a; rintro _ w0_1 a ⟨rfl, hB⟩ hf
  replace hm := hm.below' hB; clear hB
  refine st_y hf rfl rfl rfl (y_geq rfl rfl rfl) ?_
  clear hf a; intro a hf
  refine st_y hf rfl rfl rfl (y_assign rfl rfl) ?_
  clear hf a; intro a hf
  refine st_end ?_
  refine x_then_n ?_
  refine wp_ret ?_
  obtain rfl := Option.some.inj hq
  refine ret_tmp hf Try.results43 rfl ?_
  exact ⟨rfl, hm.below⟩

theorem impl_peepable_ok (w0 : World) (f : Mfn) (v1 : Value) (h1 : GT.rep (hp w0) [v1] f.ins) (r : Bool) (hq : impl_peepable f = some r) :
    Con Try.prog 26 [(.agg #[(.int .i64 (f.params)), (.int .i64 (f.slots)), v1])] w0 (fun v w' => v = (.bool (r)) ∧ Below w0.heap.size w0 w') := by
  unfold impl_peepable at hq
  refine con_body (l := [(0, (.agg #[(.int .i64 (f.params)), (.int .i64 (f.slots)), v1]))]) Try.func26 rfl Try.ntmps26 (Args.get ⟨rfl, trivial⟩) rfl ?_
  intro a hf
  have hm := Mem.start w0
  refine wp_seq ?_
  refine wp_region_lit ?_
  refine st_ef hf rfl rfl rfl (e_box hf hm rfl rfl rfl) ?_
  clear hf a; rintro _ w0_1 a ⟨b0_1, rfl, hm⟩ hf
  refine st_y hf rfl rfl rfl (y_assign rfl rfl) ?_
  clear hf a; intro a hf
  refine st_end ?_
  refine x_then_n ?_
  refine wp_seq ?_
  refine wp_region_lit ?_
  refine st_y hf rfl rfl rfl (y_fieldAddr fo_29_2 rfl rfl) ?_
  clear hf a; intro a hf
  refine st_y hf rfl rfl rfl (y_load1 Try.isAgg27 rfl rfl (hm.blk_cell 0 rfl rfl)) ?_
  clear hf a; intro a hf
  obtain ⟨p0_1, c0_1, he, hl0_1⟩ := ro_slice (hm.now h1)
  subst he
  refine st_y hf rfl rfl rfl (y_len_slice st_27.und rfl rfl) ?_
  clear hf a; intro a hf
  refine st_ef hf rfl rfl rfl (e_alloc hm Try.zeroValue3 rfl rfl) ?_
  clear hf a; rintro _ w0_2 a ⟨b0_2, rfl, hm⟩ hf
  refine st_ef0 hf rfl rfl (e_store1 0 hf hm rfl Try.sizeOf3 rfl rfl rfl rfl rfl) ?_
  clear hf a; rintro _ w0_3 a hm hf
  refine st_end ?_
  refine x_then_n ?_
  refine wp_seq ?_
  obtain ⟨s0_1, hq0_1, hq⟩ := bnd hq
  refine code_cut (K := fun a w => Fr 36 [(2, (.bool (s0_1)))] a ∧ Mem w0 (hp w0) w []) ?_ ?_
  ·
    refine wp_region_lit ?_
    refine st_y hf rfl rfl rfl (y_load1 Try.isAgg3 rfl rfl (hm.blk_cell 0 rfl rfl)) ?_
    clear hf a; intro a hf
    refine st_y hf rfl rfl rfl (y_gtr rfl rfl rfl) ?_
    clear hf a; intro a hf
    refine st_y hf rfl rfl rfl (y_move rfl rfl) ?_
    clear hf a; intro a hf
    rcases bcases (decide (0 < ((f.ins.length : Int)))) with h1_1 | h1_1
    ·
      replace hq0_1 := (ite_t h1_1).symm.trans hq0_1
      have h1_2 := of_decide_eq_true h1_1
      refine st_yg hf rfl rfl (lk_b rfl h1_1) rfl rfl (y_fieldAddr fo_29_2 rfl rfl) ?_
      clear hf a; intro a hf
      refine st_yg hf rfl rfl (lk_b rfl h1_1) rfl rfl (y_load1 Try.isAgg27 rfl rfl (hm.blk_cell 1 rfl rfl)) ?_
      clear hf a; intro a hf
      refine st_yg hf rfl rfl (lk_b rfl h1_1) rfl rfl (y_load1 Try.isAgg3 rfl rfl (hm.blk_cell 0 rfl rfl)) ?_
      clear hf a; intro a hf
      refine st_yg hf rfl rfl (lk_b rfl h1_1) rfl rfl (y_sub64 rfl rfl rfl (by omega) (by omega)) ?_
      clear hf a; intro a hf
      obtain ⟨x1_1, hx1_1, hq0_1⟩ := bnd hq0_1
      obtain ⟨h1_3, hx1_2⟩ := getI_some.1 hx1_1
      obtain ⟨b1_1, o1_1, c1_1, he⟩ := idx_form h1 hx1_2
      simp only [Value.slice.injEq] at he; obtain ⟨rfl, _, rfl⟩ := he
      refine st_yg hf rfl rfl (lk_b rfl h1_1) rfl rfl (y_indexAddr st_27 rfl rfl rfl h1_3 (idx_lt hx1_2)) ?_
      clear hf a; intro a hf
      refine st_yg hf rfl rfl (lk_b rfl h1_1) rfl rfl (y_fieldAddr fo_50_0 rfl rfl) ?_
      clear hf a; intro a hf
      refine st_yg hf rfl rfl (lk_b rfl h1_1) rfl rfl (y_load1 Try.isAgg3 rfl rfl ((flat_cells (cs := [(.int .i64 (x1_1.op)), (.int .i64 (x1_1.a_)), (.int .i64 (x1_1.b)), (.int .i64 (x1_1.c)), (.int .i64 (x1_1.n_))]) (hm.now h1) hx1_2 rfl).cell (j := 0) rfl)) ?_
      clear hf a; intro a hf
      refine st_yg hf rfl rfl (lk_b rfl h1_1) rfl rfl (y_eql rfl rfl rfl) ?_
      clear hf a; intro a hf
      refine st_yg hf rfl rfl (lk_b rfl h1_1) rfl rfl (y_move rfl rfl) ?_
      clear hf a; intro a hf
      rcases bcases (decide (x1_1.op = 20)) with h1_4 | h1_4
      ·
        replace hq0_1 := (ite_t h1_4).symm.trans hq0_1
        have h1_5 := of_decide_eq_true h1_4
        refine st_no hf rfl rfl (lk_b rfl h1_4) rfl rfl rfl ?_
        clear hf a; intro a hf
        refine st_no hf rfl rfl (lk_b rfl h1_4) rfl rfl rfl ?_
        clear hf a; intro a hf
        refine st_no hf rfl rfl (lk_b rfl h1_4) rfl rfl rfl ?_
        clear hf a; intro a hf
        refine st_no hf rfl rfl (lk_b rfl h1_4) rfl rfl rfl ?_
        clear hf a; intro a hf
        refine st_no hf rfl rfl (lk_b rfl h1_4) rfl rfl rfl ?_
        clear hf a; intro a hf
        refine st_no hf rfl rfl (lk_b rfl h1_4) rfl rfl rfl ?_
        clear hf a; intro a hf
        refine st_no hf rfl rfl (lk_b rfl h1_4) rfl rfl rfl ?_
        clear hf a; intro a hf
        refine st_no hf rfl rfl (lk_b rfl h1_4) rfl rfl rfl ?_
        clear hf a; intro a hf
        refine st_yg hf rfl rfl (lk_b rfl h1_1) rfl rfl (y_pick_t rfl (ev_b rfl h1_4) rfl) ?_
        clear hf a; intro a hf
        refine st_y hf rfl rfl rfl (y_pick_t rfl (ev_b rfl h1_1) rfl) ?_
        clear hf a; intro a hf
        refine st_y hf rfl rfl rfl (y_move rfl rfl) ?_
        clear hf a; intro a hf
        refine st_yg hf rfl rfl (lk_b rfl rfl) rfl rfl (y_fieldAddr fo_29_2 rfl rfl) ?_
        clear hf a; intro a hf
        refine st_yg hf rfl rfl (lk_b rfl rfl) rfl rfl (y_load1 Try.isAgg27 rfl rfl (hm.blk_cell 1 rfl rfl)) ?_
        clear hf a; intro a hf
        refine st_yg hf rfl rfl (lk_b rfl rfl) rfl rfl (y_makeFunc rfl rfl) ?_
        clear hf a; intro a hf
        obtain ⟨r1_1, hx1_3, hq0_1⟩ := bnd hq0_1
        refine st_efg hf rfl rfl (lk_b rfl rfl) rfl rfl (e_call hf rfl Try.call43 rfl (slices_ContainsFunc_S_impl_Mins_impl_Mins_ok _ f.ins (.slice (some ⟨b1_1, o1_1, none⟩) f.ins.length c0_1) (hm.now h1) (fun y0 => impl_peepable_1 y0 (f.ins.length : Int)) (.func (.func 44) #[] #[(.pointer (some ⟨b0_2, 0, none⟩))]) (fun w y0 r hB hq => ⟨44, [(.pointer (some ⟨b0_2, 0, none⟩))], rfl, Try.call44, impl_peepable_1_ok w y0 (f.ins.length : Int) b0_2 (hm.blk_later 0 rfl hB) r hq⟩) _ hx1_3)) ?_
        clear hf a; rintro _ w1_1 a ⟨rfl, hB⟩ hf
        replace hm := hm.below' hB; clear hB
        refine st_yg hf rfl rfl (lk_b rfl rfl) rfl rfl (y_not rfl rfl) ?_
        clear hf a; intro a hf
        refine st_y hf rfl rfl rfl (y_pick_t rfl (ev_b rfl rfl) rfl) ?_
        clear hf a; intro a hf
        refine st_y hf rfl rfl rfl (y_assign rfl rfl) ?_
        clear hf a; intro a hf
        refine st_end ?_
        refine x_then_n ?_
        obtain rfl := Option.some.inj hq0_1
        exact ⟨hf.sub ⟨rfl, trivial⟩, hm.pick [] (by decide) rfl⟩
      ·
        replace hq0_1 := (ite_f h1_4).symm.trans hq0_1
        have h1_6 := of_decide_eq_false h1_4
        refine st_yg hf rfl rfl (lk_b rfl h1_4) rfl rfl (y_fieldAddr fo_29_2 rfl rfl) ?_
        clear hf a; intro a hf
        refine st_yg hf rfl rfl (lk_b rfl h1_4) rfl rfl (y_load1 Try.isAgg27 rfl rfl (hm.blk_cell 1 rfl rfl)) ?_
        clear hf a; intro a hf
        refine st_yg hf rfl rfl (lk_b rfl h1_4) rfl rfl (y_load1 Try.isAgg3 rfl rfl (hm.blk_cell 0 rfl rfl)) ?_
        clear hf a; intro a hf
        refine st_yg hf rfl rfl (lk_b rfl h1_4) rfl rfl (y_sub64 rfl rfl rfl (by omega) (by omega)) ?_
        clear hf a; intro a hf
        obtain ⟨x1_2, hx1_4, hq0_1⟩ := bnd hq0_1
        obtain ⟨h1_7, hx1_5⟩ := getI_some.1 hx1_4
        refine st_yg hf rfl rfl (lk_b rfl h1_4) rfl rfl (y_indexAddr st_27 rfl rfl rfl h1_7 (idx_lt hx1_5)) ?_
        clear hf a; intro a hf
        refine st_yg hf rfl rfl (lk_b rfl h1_4) rfl rfl (y_fieldAddr fo_50_0 rfl rfl) ?_
        clear hf a; intro a hf
        refine st_yg hf rfl rfl (lk_b rfl h1_4) rfl rfl (y_load1 Try.isAgg3 rfl rfl ((flat_cells (cs := [(.int .i64 (x1_2.op)), (.int .i64 (x1_2.a_)), (.int .i64 (x1_2.b)), (.int .i64 (x1_2.c)), (.int .i64 (x1_2.n_))]) (hm.now h1) hx1_5 rfl).cell (j := 0) rfl)) ?_
        clear hf a; intro a hf
        refine st_yg hf rfl rfl (lk_b rfl h1_4) rfl rfl (y_eql rfl rfl rfl) ?_
        clear hf a; intro a hf
        refine st_yg hf rfl rfl (lk_b rfl h1_1) rfl rfl (y_pick_f rfl (ev_b rfl h1_4) rfl) ?_
        clear hf a; intro a hf
        refine st_y hf rfl rfl rfl (y_pick_t rfl (ev_b rfl h1_1) rfl) ?_
        clear hf a; intro a hf
        refine st_y hf rfl rfl rfl (y_move rfl rfl) ?_
        clear hf a; intro a hf
        rcases bcases (decide (x1_2.op = 22)) with h1_8 | h1_8
        ·
          replace hq0_1 := (ite_t h1_8).symm.trans hq0_1
          have h1_9 := of_decide_eq_true h1_8
          refine st_yg hf rfl rfl (lk_b rfl h1_8) rfl rfl (y_fieldAddr fo_29_2 rfl rfl) ?_
          clear hf a; intro a hf
          refine st_yg hf rfl rfl (lk_b rfl h1_8) rfl rfl (y_load1 Try.isAgg27 rfl rfl (hm.blk_cell 1 rfl rfl)) ?_
          clear hf a; intro a hf
          refine st_yg hf rfl rfl (lk_b rfl h1_8) rfl rfl (y_makeFunc rfl rfl) ?_
          clear hf a; intro a hf
          obtain ⟨r1_2, hx1_6, hq0_1⟩ := bnd hq0_1
          refine st_efg hf rfl rfl (lk_b rfl h1_8) rfl rfl (e_call hf rfl Try.call43 rfl (slices_ContainsFunc_S_impl_Mins_impl_Mins_ok _ f.ins (.slice (some ⟨b1_1, o1_1, none⟩) f.ins.length c0_1) (hm.now h1) (fun y0 => impl_peepable_1 y0 (f.ins.length : Int)) (.func (.func 44) #[] #[(.pointer (some ⟨b0_2, 0, none⟩))]) (fun w y0 r hB hq => ⟨44, [(.pointer (some ⟨b0_2, 0, none⟩))], rfl, Try.call44, impl_peepable_1_ok w y0 (f.ins.length : Int) b0_2 (hm.blk_later 0 rfl hB) r hq⟩) _ hx1_6)) ?_
          clear hf a; rintro _ w1_2 a ⟨rfl, hB⟩ hf
          replace hm := hm.below' hB; clear hB
          refine st_yg hf rfl rfl (lk_b rfl h1_8) rfl rfl (y_not rfl rfl) ?_
          clear hf a; intro a hf
          refine st_y hf rfl rfl rfl (y_pick_t rfl (ev_b rfl h1_8) rfl) ?_
          clear hf a; intro a hf
          refine st_y hf rfl rfl rfl (y_assign rfl rfl) ?_
          clear hf a; intro a hf
          refine st_end ?_
          refine x_then_n ?_
          obtain rfl := Option.some.inj hq0_1
          exact ⟨hf.sub ⟨rfl, trivial⟩, hm.pick [] (by decide) rfl⟩
        ·
          replace hq0_1 := (ite_f h1_8).symm.trans hq0_1
          have h1_10 := of_decide_eq_false h1_8
          refine st_no hf rfl rfl (lk_b rfl h1_8) rfl rfl rfl ?_
          clear hf a; intro a hf
          refine st_no hf rfl rfl (lk_b rfl h1_8) rfl rfl rfl ?_
          clear hf a; intro a hf
          refine st_no hf rfl rfl (lk_b rfl h1_8) rfl rfl rfl ?_
          clear hf a; intro a hf
          refine st_no hf rfl rfl (lk_b rfl h1_8) rfl rfl rfl ?_
          clear hf a; intro a hf
          refine st_no hf rfl rfl (lk_b rfl h1_8) rfl rfl rfl ?_
          clear hf a; intro a hf
          refine st_y hf rfl rfl rfl (y_pick_f rfl (ev_b rfl h1_8) rfl) ?_
          clear hf a; intro a hf
          refine st_y hf rfl rfl rfl (y_assign rfl rfl) ?_
          clear hf a; intro a hf
          refine st_end ?_
          refine x_then_n ?_
          obtain rfl := Option.some.inj hq0_1
          exact ⟨hf.sub ⟨rfl, trivial⟩, hm.pick [] (by decide) rfl⟩
    ·
      replace hq0_1 := (ite_f h1_1).symm.trans hq0_1
      have h1_11 := of_decide_eq_false h1_1
      refine st_no hf rfl rfl (lk_b rfl h1_1) rfl rfl rfl ?_
      clear hf a; intro a hf
      refine st_no hf rfl rfl (lk_b rfl h1_1) rfl rfl rfl ?_
      clear hf a; intro a hf
      refine st_no hf rfl rfl (lk_b rfl h1_1) rfl rfl rfl ?_
      clear hf a; intro a hf
      refine st_no hf rfl rfl (lk_b rfl h1_1) rfl rfl rfl ?_
      clear hf a; intro a hf
      refine st_no hf rfl rfl (lk_b rfl h1_1) rfl rfl rfl ?_
      clear hf a; intro a hf
      refine st_no hf rfl rfl (lk_b rfl h1_1) rfl rfl rfl ?_
      clear hf a; intro a hf
      refine st_no hf rfl rfl (lk_b rfl h1_1) rfl rfl rfl ?_
      clear hf a; intro a hf
      refine st_no hf rfl rfl (lk_b rfl h1_1) rfl rfl rfl ?_
      clear hf a; intro a hf
      refine st_no hf rfl rfl (lk_b rfl h1_1) rfl rfl rfl ?_
      clear hf a; intro a hf
      refine st_nou hf rfl rfl rfl rfl rfl ?_
      clear hf a; intro a hf
      refine st_nou hf rfl rfl rfl rfl rfl ?_
      clear hf a; intro a hf
      refine st_nou hf rfl rfl rfl rfl rfl ?_
      clear hf a; intro a hf
      refine st_nou hf rfl rfl rfl rfl rfl ?_
      clear hf a; intro a hf
      refine st_nou hf rfl rfl rfl rfl rfl ?_
      clear hf a; intro a hf
      refine st_nou hf rfl rfl rfl rfl rfl ?_
      clear hf a; intro a hf
      refine st_nou hf rfl rfl rfl rfl rfl ?_
      clear hf a; intro a hf
      refine st_nou hf rfl rfl rfl rfl rfl ?_
      clear hf a; intro a hf
      refine st_no hf rfl rfl (lk_b rfl h1_1) rfl rfl rfl ?_
      clear hf a; intro a hf
      refine st_y hf rfl rfl rfl (y_pick_f rfl (ev_b rfl h1_1) rfl) ?_
      clear hf a; intro a hf
      refine st_y hf rfl rfl rfl (y_move rfl rfl) ?_
      clear hf a; intro a hf
      refine st_no hf rfl rfl (lk_b rfl rfl) rfl rfl rfl ?_
      clear hf a; intro a hf
      refine st_no hf rfl rfl (lk_b rfl rfl) rfl rfl rfl ?_
      clear hf a; intro a hf
      refine st_no hf rfl rfl (lk_b rfl rfl) rfl rfl rfl ?_
      clear hf a; intro a hf
      refine st_no hf rfl rfl (lk_b rfl rfl) rfl rfl rfl ?_
      clear hf a; intro a hf
      refine st_no hf rfl rfl (lk_b rfl rfl) rfl rfl rfl ?_
      clear hf a; intro a hf
      refine st_y hf rfl rfl rfl (y_pick_f rfl (ev_b rfl rfl) rfl) ?_
      clear hf a; intro a hf
      refine st_y hf rfl rfl rfl (y_assign rfl rfl) ?_
      clear hf a; intro a hf
      refine st_end ?_
      refine x_then_n ?_
      obtain rfl := Option.some.inj hq0_1
      exact ⟨hf.sub ⟨rfl, trivial⟩, hm.pick [] (by decide) rfl⟩
  ·
    clear hf hm
    rintro a w ⟨hf, hm⟩
    refine x_then_n ?_
    refine wp_ret ?_
    obtain rfl := Option.some.inj hq
    refine ret_tmp hf Try.results26 rfl ?_
    exact ⟨rfl, hm.below⟩

theorem impl_jumpEnd_ok (w0 : World) (f : Mfn) (v1 : Value) (h1 : GT.rep (hp w0) [v1] f.ins) (at_ : Int) (r : Int) (hq : impl_jumpEnd f at_ = some r) :
    Con Try.prog 28 [(.agg #[(.int .i64 (f.params)), (.int .i64 (f.slots)), v1]), (.int .i64 (at_))] w0 (fun v w' => v = (.int .i64 (r)) ∧ Below w0.heap.size w0 w') := by
  unfold impl_jumpEnd at hq
  refine con_body (l := [(0, (.agg #[(.int .i64 (f.params)), (.int .i64 (f.slots)), v1])), (1, (.int .i64 (at_)))]) Try.func28 rfl Try.ntmps28 (Args.get ⟨rfl, rfl, trivial⟩) rfl ?_
  intro a hf
  have hm := Mem.start w0
  refine wp_seq ?_
  refine wp_region_lit ?_
  refine st_ef hf rfl rfl rfl (e_box hf hm rfl rfl rfl) ?_
  clear hf a; rintro _ w0_1 a ⟨b0_1, rfl, hm⟩ hf
  refine st_y hf rfl rfl rfl (y_assign rfl rfl) ?_
  clear hf a; intro a hf
  refine st_end ?_
  refine x_then_n ?_
  refine wp_seq ?_
  refine wp_seq ?_
  refine wp_region_lit ?_
  refine st_y hf rfl rfl rfl (y_fieldAddr fo_29_2 rfl rfl) ?_
  clear hf a; intro a hf
  refine st_y hf rfl rfl rfl (y_load1 Try.isAgg27 rfl rfl (hm.blk_cell 0 rfl rfl)) ?_
  clear hf a; intro a hf
  obtain ⟨p0_1, c0_1, he, hl0_1⟩ := ro_slice (hm.now h1)
  subst he
  refine st_y hf rfl rfl rfl (y_len_slice st_27.und rfl rfl) ?_
  clear hf a; intro a hf
  refine st_y hf rfl rfl rfl (y_add64 rfl rfl rfl (by omega) (by omega)) ?_
  clear hf a; intro a hf
  refine st_y hf rfl rfl rfl (y_move rfl rfl) ?_
  clear hf a; intro a hf
  refine st_end ?_
  refine x_then_n ?_
  refine wp_block ?_
  obtain ⟨r0_1, hl0_2, hq⟩ := bnd hq
  refine wp_forN _ (fun i1_1 xs1_1 a w => Fr 26 [(1, (.int .i64 (xs1_1))), (2, (.pointer (some ⟨b0_1, 0, none⟩))), (8, (.int .i64 (((f.ins.length : Int)) + 1))), (9, (.int .i64 (i1_1)))] a ∧ Mem w0 (hp w0) w [blk b0_1 [(.int .i64 (f.params)), (.int .i64 (f.slots)), (.slice p0_1 f.ins.length c0_1)] 29]) (0) (((f.ins.length : Int)) + 1) hl0_2 ?_ ?_ ?_
  ·
    exact ⟨hf.sub ⟨rfl, rfl, rfl, rfl, trivial⟩, hm.pick [0] (by decide) rfl⟩
  ·
    clear hf hm
    rintro i1_1 xs1_1 a w ⟨hf, hm⟩ hi1_1 hi1_2 q0_1 hb0_1 ho0_1
    refine wp_seq ?_
    refine wp_region_lit ?_
    refine st_y hf rfl rfl rfl (y_lss rfl rfl rfl) ?_
    clear hf a; intro a hf
    refine st_end ?_
    refine x_then_n ?_
    refine wp_seq ?_
    refine cond_t hf rfl (decide_eq_true (by omega)) ?_
    refine wp_skip ?_
    refine x_then_n ?_
    refine wp_seq ?_
    refine wp_block ?_
    refine wp_seq ?_
    refine wp_seq ?_
    refine wp_region_lit ?_
    refine st_y hf rfl rfl rfl (y_fieldAddr fo_29_2 rfl rfl) ?_
    clear hf a; intro a hf
    refine st_y hf rfl rfl rfl (y_load1 Try.isAgg27 rfl rfl (hm.blk_cell 0 rfl rfl)) ?_
    clear hf a; intro a hf
    refine st_y hf rfl rfl rfl (y_move rfl rfl) ?_
    clear hf a; intro a hf
    obtain ⟨x1_1, hx1_1, hb0_1⟩ := bnd hb0_1
    obtain ⟨h1_1, hx1_2⟩ := getI_some.1 hx1_1
    obtain ⟨b1_1, o1_1, c1_1, he⟩ := idx_form h1 hx1_2
    simp only [Value.slice.injEq] at he; obtain ⟨rfl, _, rfl⟩ := he
    refine st_y hf rfl rfl rfl (y_indexAddr st_27 rfl rfl rfl h1_1 (idx_lt hx1_2)) ?_
    clear hf a; intro a hf
    refine st_y hf rfl rfl rfl (y_fieldAddr fo_50_0 rfl rfl) ?_
    clear hf a; intro a hf
    refine st_y hf rfl rfl rfl (y_load1 Try.isAgg3 rfl rfl ((flat_cells (cs := [(.int .i64 (x1_1.op)), (.int .i64 (x1_1.a_)), (.int .i64 (x1_1.b)), (.int .i64 (x1_1.c)), (.int .i64 (x1_1.n_))]) (hm.now h1) hx1_2 rfl).cell (j := 0) rfl)) ?_
    clear hf a; intro a hf
    refine st_y hf rfl rfl rfl (y_neq rfl rfl rfl) ?_
    clear hf a; intro a hf
    refine st_end ?_
    refine x_then_n ?_
    rcases bcases (decide (x1_1.op ≠ 20)) with h1_2 | h1_2
    ·
      replace hb0_1 := (ite_t h1_2).symm.trans hb0_1
      have h1_3 := of_decide_eq_true h1_2
      refine cond_t hf rfl h1_2 ?_
      refine wp_seq ?_
      refine wp_region_lit ?_
      refine st_y hf rfl rfl rfl (y_move rfl rfl) ?_
      clear hf a; intro a hf
      refine st_y hf rfl rfl rfl (y_assign rfl rfl) ?_
      clear hf a; intro a hf
      refine st_end ?_
      refine x_then_n ?_
      refine wp_ret ?_
      refine x_then_ret ?_
      refine x_blk_ret ?_
      refine x_then_ret ?_
      refine x_then_ret ?_
      refine x_blk_ret ?_
      refine x_then_ret ?_
      obtain rfl := Option.some.inj hb0_1
      obtain rfl := ho0_1 _ rfl
      replace hq := sum_r hq
      obtain rfl := Option.some.inj hq
      refine ret_tmp hf Try.results28 rfl ?_
      exact ⟨rfl, hm.below⟩
    ·
      replace hb0_1 := (ite_f h1_2).symm.trans hb0_1
      have h1_4 := of_decide_eq_false h1_2
      refine cond_f hf rfl h1_2 ?_
      refine wp_skip ?_
      refine x_then_n ?_
      refine wp_region_lit ?_
      refine st_y hf rfl rfl rfl (y_fieldAddr fo_29_2 rfl rfl) ?_
      clear hf a; intro a hf
      refine st_y hf rfl rfl rfl (y_load1 Try.isAgg27 rfl rfl (hm.blk_cell 0 rfl rfl)) ?_
      clear hf a; intro a hf
      refine st_y hf rfl rfl rfl (y_move rfl rfl) ?_
      clear hf a; intro a hf
      obtain ⟨x1_2, hx1_3, hb0_1⟩ := bnd hb0_1
      obtain ⟨h1_5, hx1_4⟩ := getI_some.1 hx1_3
      refine st_y hf rfl rfl rfl (y_indexAddr st_27 rfl rfl rfl h1_5 (idx_lt hx1_4)) ?_
      clear hf a; intro a hf
      refine st_y hf rfl rfl rfl (y_fieldAddr fo_50_4 rfl rfl) ?_
      clear hf a; intro a hf
      refine st_y hf rfl rfl rfl (y_load1 Try.isAgg3 rfl rfl ((flat_cells (cs := [(.int .i64 (x1_2.op)), (.int .i64 (x1_2.a_)), (.int .i64 (x1_2.b)), (.int .i64 (x1_2.c)), (.int .i64 (x1_2.n_))]) (hm.now h1) hx1_4 rfl).cell (j := 4) rfl)) ?_
      clear hf a; intro a hf
      refine st_y hf rfl rfl rfl (y_assign rfl rfl) ?_
      clear hf a; intro a hf
      refine st_end ?_
      refine x_blk_n ?_
      refine x_then_n ?_
      refine wp_region_lit ?_
      refine st_y hf rfl rfl rfl (y_add64 rfl rfl rfl (by omega) (by omega)) ?_
      clear hf a; intro a hf
      refine st_y hf rfl rfl rfl (y_move rfl rfl) ?_
      clear hf a; intro a hf
      refine st_end ?_
      refine x_then_n ?_
      obtain rfl := Option.some.inj hb0_1
      exact ⟨_, rfl, hf.sub ⟨rfl, rfl, rfl, rfl, trivial⟩, hm.pick [0] (by decide) rfl⟩
  ·
    clear hf hm
    rintro i1_1 xs1_1 a w ⟨hf, hm⟩ hi0_1 hi0_2 rfl
    replace hq := sum_l hq
    refine wp_seq ?_
    refine wp_region_lit ?_
    refine st_y hf rfl rfl rfl (y_lss rfl rfl rfl) ?_
    clear hf a; intro a hf
    refine st_end ?_
    refine x_then_n ?_
    refine wp_seq ?_
    refine cond_f hf rfl (decide_eq_false (by omega)) ?_
    refine wp_exit ?_
    refine x_then_exit ?_
    refine x_then_exit ?_
    refine x_blk_hit ?_
    refine x_then_n ?_
    refine wp_seq ?_
    refine wp_region_lit ?_
    refine st_y hf rfl rfl rfl (y_assign rfl rfl) ?_
    clear hf a; intro a hf
    refine st_end ?_
    refine x_then_n ?_
    refine wp_ret ?_
    obtain rfl := Option.some.inj hq
    refine ret_tmp hf Try.results28 rfl ?_
    exact ⟨rfl, hm.below⟩

theorem impl_JumpEnd_ok (w0 : World) (f : Mfn) (v1 : Value) (h1 : GT.rep (hp w0) [v1] f.ins) (at_ : Int) (r : Int) (hq : impl_JumpEnd f at_ = some r) :
    Con Try.prog 9 [(.agg #[(.int .i64 (f.params)), (.int .i64 (f.slots)), v1]), (.int .i64 (at_))] w0 (fun v w' => v = (.int .i64 (r)) ∧ Below w0.heap.size w0 w') := by
  unfold impl_JumpEnd at hq
  refine con_body (l := [(0, (.agg #[(.int .i64 (f.params)), (.int .i64 (f.slots)), v1])), (1, (.int .i64 (at_)))]) Try.func9 rfl Try.ntmps9 (Args.get ⟨rfl, rfl, trivial⟩) rfl ?_
  intro a hf
  have hm := Mem.start w0
  refine wp_seq ?_
  refine wp_region_lit ?_
  refine st_ef hf rfl rfl rfl (e_box hf hm rfl rfl rfl) ?_
  clear hf a; rintro _ w0_1 a ⟨b0_1, rfl, hm⟩ hf
  refine st_y hf rfl rfl rfl (y_assign rfl rfl) ?_
  clear hf a; intro a hf
  refine st_end ?_
  refine x_then_n ?_
  refine wp_seq ?_
  refine wp_seq ?_
  obtain ⟨s0_1, hq0_1, hq⟩ := bnd hq
  refine code_cut (K := fun a w => Fr 20 [(1, (.int .i64 (at_))), (2, (.pointer (some ⟨b0_1, 0, none⟩))), (16, (.bool (s0_1)))] a ∧ Mem w0 (hp w0) w [blk b0_1 [(.int .i64 (f.params)), (.int .i64 (f.slots)), v1] 29]) ?_ ?_
  ·
    refine wp_region_lit ?_
    refine st_y hf rfl rfl rfl (y_loadN (cs := [(.int .i64 (f.params)), (.int .i64 (f.slots)), v1]) Try.isAgg29 Try.sizeOf29 rfl rfl (hm.blk_at 0 rfl)) ?_
    clear hf a; intro a hf
    obtain ⟨r1_1, hx1_1, hq0_1⟩ := bnd hq0_1
    refine st_ef hf rfl rfl rfl (e_call hf rfl Try.call26 rfl (impl_peepable_ok _ f v1 (hm.now h1) _ hx1_1)) ?_
    clear hf a; rintro _ w1_1 a ⟨rfl, hB⟩ hf
    replace hm := hm.below' hB; clear hB
    refine st_y hf rfl rfl rfl (y_not rfl rfl) ?_
    clear hf a; intro a hf
    refine st_y hf rfl rfl rfl (y_move rfl rfl) ?_
    clear hf a; intro a hf
    rcases bcases (!(r1_1)) with h1_1 | h1_1
    ·
      replace hq0_1 := (ite_t h1_1).symm.trans hq0_1
      have h1_2 := bnot_t' h1_1
      refine st_no hf rfl rfl (lk_b rfl h1_1) rfl rfl rfl ?_
      clear hf a; intro a hf
      refine st_no hf rfl rfl (lk_b rfl h1_1) rfl rfl rfl ?_
      clear hf a; intro a hf
      refine st_no hf rfl rfl (lk_b rfl h1_1) rfl rfl rfl ?_
      clear hf a; intro a hf
      refine st_no hf rfl rfl (lk_b rfl h1_1) rfl rfl rfl ?_
      clear hf a; intro a hf
      refine st_no hf rfl rfl (lk_b rfl h1_1) rfl rfl rfl ?_
      clear hf a; intro a hf
      refine st_no hf rfl rfl (lk_b rfl h1_1) rfl rfl rfl ?_
      clear hf a; intro a hf
      refine st_no hf rfl rfl (lk_b rfl h1_1) rfl rfl rfl ?_
      clear hf a; intro a hf
      refine st_y hf rfl rfl rfl (y_pick_t rfl (ev_b rfl h1_1) rfl) ?_
      clear hf a; intro a hf
      refine st_end ?_
      refine x_then_n ?_
      obtain rfl := Option.some.inj hq0_1
      exact ⟨hf.sub ⟨rfl, rfl, rfl, trivial⟩, hm.pick [0] (by decide) rfl⟩
    ·
      replace hq0_1 := (ite_f h1_1).symm.trans hq0_1
      have h1_3 := bnot_f' h1_1
      refine st_yg hf rfl rfl (lk_b rfl h1_1) rfl rfl (y_move rfl rfl) ?_
      clear hf a; intro a hf
      refine st_yg hf rfl rfl (lk_b rfl h1_1) rfl rfl (y_fieldAddr fo_29_2 rfl rfl) ?_
      clear hf a; intro a hf
      refine st_yg hf rfl rfl (lk_b rfl h1_1) rfl rfl (y_load1 Try.isAgg27 rfl rfl (hm.blk_cell 0 rfl rfl)) ?_
      clear hf a; intro a hf
      obtain ⟨p1_1, c1_1, he, hl1_1⟩ := ro_slice (hm.now h1)
      subst he
      refine st_yg hf rfl rfl (lk_b rfl h1_1) rfl rfl (y_len_slice st_27.und rfl rfl) ?_
      clear hf a; intro a hf
      refine st_yg hf rfl rfl (lk_b rfl h1_1) rfl rfl (y_sub64 rfl rfl rfl (by omega) (by omega)) ?_
      clear hf a; intro a hf
      obtain ⟨r1_2, hx1_2, hq0_1⟩ := bnd hq0_1
      refine st_efg hf rfl rfl (lk_b rfl h1_1) rfl rfl (e_call hf rfl Try.call27 rfl (impl_within_ok _ at_ 0 (((f.ins.length : Int)) - 1) _ hx1_2)) ?_
      clear hf a; rintro _ w1_2 a ⟨rfl, hB⟩ hf
      replace hm := hm.below' hB; clear hB
      refine st_yg hf rfl rfl (lk_b rfl h1_1) rfl rfl (y_not rfl rfl) ?_
      clear hf a; intro a hf
      refine st_y hf rfl rfl rfl (y_pick_f rfl (ev_b rfl h1_1) rfl) ?_
      clear hf a; intro a hf
      refine st_end ?_
      refine x_then_n ?_
      obtain rfl := Option.some.inj hq0_1
      exact ⟨hf.sub ⟨rfl, rfl, rfl, trivial⟩, hm.pick [0] (by decide) rfl⟩
  ·
    clear hf hm
    rintro a w ⟨hf, hm⟩
    refine x_then_n ?_
    rcases bcases (s0_1) with h0_1 | h0_1
    ·
      replace hq := (ite_t h0_1).symm.trans hq
      refine cond_t hf rfl h0_1 ?_
      refine wp_seq ?_
      refine wp_region_lit ?_
      refine st_y hf rfl rfl rfl (y_assign rfl rfl) ?_
      clear hf a; intro a hf
      refine st_end ?_
      refine x_then_n ?_
      refine wp_ret ?_
      refine x_then_ret ?_
      obtain rfl := Option.some.inj hq
      refine ret_tmp hf Try.results9 rfl ?_
      exact ⟨rfl, hm.below⟩
    ·
      replace hq := (ite_f h0_1).symm.trans hq
      refine cond_f hf rfl h0_1 ?_
      refine wp_skip ?_
      refine x_then_n ?_
      refine wp_seq ?_
      refine wp_region_lit ?_
      refine st_y hf rfl rfl rfl (y_loadN (cs := [(.int .i64 (f.params)), (.int .i64 (f.slots)), v1]) Try.isAgg29 Try.sizeOf29 rfl rfl (hm.blk_at 0 rfl)) ?_
      clear hf a; intro a hf
      refine st_y hf rfl rfl rfl (y_move rfl rfl) ?_
      clear hf a; intro a hf
      obtain ⟨r0_1, hx0_1, hq⟩ := bnd hq
      refine st_ef hf rfl rfl rfl (e_call hf rfl Try.call28 rfl (impl_jumpEnd_ok _ f v1 (hm.now h1) at_ _ hx0_1)) ?_
      clear hf a; rintro _ w0_2 a ⟨rfl, hB⟩ hf
      replace hm := hm.below' hB; clear hB
      refine st_y hf rfl rfl rfl (y_assign rfl rfl) ?_
      clear hf a; intro a hf
      refine st_end ?_
      refine x_then_n ?_
      refine wp_ret ?_
      obtain rfl := Option.some.inj hq
      refine ret_tmp hf Try.results9 rfl ?_
      exact ⟨rfl, hm.below⟩

theorem laws_eqMins_ok (w0 : World) (a_ : Mins) (b_ : Mins) (r : Bool) (hq : laws_eqMins a_ b_ = some r) :
    Con Try.prog 45 [(.agg #[(.int .i64 (a_.op)), (.int .i64 (a_.a_)), (.int .i64 (a_.b)), (.int .i64 (a_.c)), (.int .i64 (a_.n_))]), (.agg #[(.int .i64 (b_.op)), (.int .i64 (b_.a_)), (.int .i64 (b_.b)), (.int .i64 (b_.c)), (.int .i64 (b_.n_))])] w0 (fun v w' => v = (.bool (r)) ∧ Below w0.heap.size w0 w') := by
  unfold laws_eqMins at hq
  refine con_body (l := [(0, (.agg #[(.int .i64 (a_.op)), (.int .i64 (a_.a_)), (.int .i64 (a_.b)), (.int .i64 (a_.c)), (.int .i64 (a_.n_))])), (1, (.agg #[(.int .i64 (b_.op)), (.int .i64 (b_.a_)), (.int .i64 (b_.b)), (.int .i64 (b_.c)), (.int .i64 (b_.n_))]))]) Try.func45 rfl Try.ntmps45 (Args.get ⟨rfl, rfl, trivial⟩) rfl ?_
  intro a hf
  have hm := Mem.start w0
  refine wp_seq ?_
  refine wp_region_lit ?_
  refine st_ef hf rfl rfl rfl (e_box hf hm rfl rfl rfl) ?_
  clear hf a; rintro _ w0_1 a ⟨b0_1, rfl, hm⟩ hf
  refine st_ef hf rfl rfl rfl (e_box hf hm rfl rfl rfl) ?_
  clear hf a; rintro _ w0_2 a ⟨b0_2, rfl, hm⟩ hf
  refine st_y hf rfl rfl rfl (y_assign rfl rfl) ?_
  clear hf a; intro a hf
  refine st_end ?_
  refine x_then_n ?_
  refine wp_seq ?_
  refine wp_seq ?_
  refine wp_region_lit ?_
  refine st_y hf rfl rfl rfl (y_fieldAddr fo_50_0 rfl rfl) ?_
  clear hf a; intro a hf
  refine st_y hf rfl rfl rfl (y_load1 Try.isAgg3 rfl rfl (hm.blk_cell 1 rfl rfl)) ?_
  clear hf a; intro a hf
  refine st_y hf rfl rfl rfl (y_fieldAddr fo_50_0 rfl rfl) ?_
  clear hf a; intro a hf
  refine st_y hf rfl rfl rfl (y_load1 Try.isAgg3 rfl rfl (hm.blk_cell 0 rfl rfl)) ?_
  clear hf a; intro a hf
  refine st_y hf rfl rfl rfl (y_neq rfl rfl rfl) ?_
  clear hf a; intro a hf
  refine st_end ?_
  refine x_then_n ?_
  rcases bcases (decide (a_.op ≠ b_.op)) with h0_1 | h0_1
  ·
    replace hq := (ite_t h0_1).symm.trans hq
    have h0_2 := of_decide_eq_true h0_1
    refine cond_t hf rfl h0_1 ?_
    refine wp_seq ?_
    refine wp_region_lit ?_
    refine st_y hf rfl rfl rfl (y_assign rfl rfl) ?_
    clear hf a; intro a hf
    refine st_end ?_
    refine x_then_n ?_
    refine wp_ret ?_
    refine x_then_ret ?_
    obtain rfl := Option.some.inj hq
    refine ret_tmp hf Try.results45 rfl ?_
    exact ⟨rfl, hm.below⟩
  ·
    replace hq := (ite_f h0_1).symm.trans hq
    have h0_3 := of_decide_eq_false h0_1
    refine cond_f hf rfl h0_1 ?_
    refine wp_skip ?_
    refine x_then_n ?_
    refine wp_seq ?_
    refine wp_seq ?_
    refine wp_region_lit ?_
    refine st_y hf rfl rfl rfl (y_fieldAddr fo_50_1 rfl rfl) ?_
    clear hf a; intro a hf
    refine st_y hf rfl rfl rfl (y_load1 Try.isAgg3 rfl rfl (hm.blk_cell 1 rfl rfl)) ?_
    clear hf a; intro a hf
    refine st_y hf rfl rfl rfl (y_fieldAddr fo_50_1 rfl rfl) ?_
    clear hf a; intro a hf
    refine st_y hf rfl rfl rfl (y_load1 Try.isAgg3 rfl rfl (hm.blk_cell 0 rfl rfl)) ?_
    clear hf a; intro a hf
    refine st_y hf rfl rfl rfl (y_neq rfl rfl rfl) ?_
    clear hf a; intro a hf
    refine st_end ?_
    refine x_then_n ?_
    rcases bcases (decide (a_.a_ ≠ b_.a_)) with h0_4 | h0_4
    ·
      replace hq := (ite_t h0_4).symm.trans hq
      have h0_5 := of_decide_eq_true h0_4
      refine cond_t hf rfl h0_4 ?_
      refine wp_seq ?_
      refine wp_region_lit ?_
      refine st_y hf rfl rfl rfl (y_assign rfl rfl) ?_
      clear hf a; intro a hf
      refine st_end ?_
      refine x_then_n ?_
      refine wp_ret ?_
      refine x_then_ret ?_
      obtain rfl := Option.some.inj hq
      refine ret_tmp hf Try.results45 rfl ?_
      exact ⟨rfl, hm.below⟩
    ·
      replace hq := (ite_f h0_4).symm.trans hq
      have h0_6 := of_decide_eq_false h0_4
      refine cond_f hf rfl h0_4 ?_
      refine wp_skip ?_
      refine x_then_n ?_
      refine wp_seq ?_
      refine wp_seq ?_
      refine wp_region_lit ?_
      refine st_y hf rfl rfl rfl (y_fieldAddr fo_50_2 rfl rfl) ?_
      clear hf a; intro a hf
      refine st_y hf rfl rfl rfl (y_load1 Try.isAgg3 rfl rfl (hm.blk_cell 1 rfl rfl)) ?_
      clear hf a; intro a hf
      refine st_y hf rfl rfl rfl (y_fieldAddr fo_50_2 rfl rfl) ?_
      clear hf a; intro a hf
      refine st_y hf rfl rfl rfl (y_load1 Try.isAgg3 rfl rfl (hm.blk_cell 0 rfl rfl)) ?_
      clear hf a; intro a hf
      refine st_y hf rfl rfl rfl (y_neq rfl rfl rfl) ?_
      clear hf a; intro a hf
      refine st_end ?_
      refine x_then_n ?_
      rcases bcases (decide (a_.b ≠ b_.b)) with h0_7 | h0_7
      ·
        replace hq := (ite_t h0_7).symm.trans hq
        have h0_8 := of_decide_eq_true h0_7
        refine cond_t hf rfl h0_7 ?_
        refine wp_seq ?_
        refine wp_region_lit ?_
        refine st_y hf rfl rfl rfl (y_assign rfl rfl) ?_
        clear hf a; intro a hf
        refine st_end ?_
        refine x_then_n ?_
        refine wp_ret ?_
        refine x_then_ret ?_
        obtain rfl := Option.some.inj hq
        refine ret_tmp hf Try.results45 rfl ?_
        exact ⟨rfl, hm.below⟩
      ·
        replace hq := (ite_f h0_7).symm.trans hq
        have h0_9 := of_decide_eq_false h0_7
        refine cond_f hf rfl h0_7 ?_
        refine wp_skip ?_
        refine x_then_n ?_
        refine wp_seq ?_
        refine wp_seq ?_
        refine wp_region_lit ?_
        refine st_y hf rfl rfl rfl (y_fieldAddr fo_50_3 rfl rfl) ?_
        clear hf a; intro a hf
        refine st_y hf rfl rfl rfl (y_load1 Try.isAgg3 rfl rfl (hm.blk_cell 1 rfl rfl)) ?_
        clear hf a; intro a hf
        refine st_y hf rfl rfl rfl (y_fieldAddr fo_50_3 rfl rfl) ?_
        clear hf a; intro a hf
        refine st_y hf rfl rfl rfl (y_load1 Try.isAgg3 rfl rfl (hm.blk_cell 0 rfl rfl)) ?_
        clear hf a; intro a hf
        refine st_y hf rfl rfl rfl (y_neq rfl rfl rfl) ?_
        clear hf a; intro a hf
        refine st_end ?_
        refine x_then_n ?_
        rcases bcases (decide (a_.c ≠ b_.c)) with h0_10 | h0_10
        ·
          replace hq := (ite_t h0_10).symm.trans hq
          have h0_11 := of_decide_eq_true h0_10
          refine cond_t hf rfl h0_10 ?_
          refine wp_seq ?_
          refine wp_region_lit ?_
          refine st_y hf rfl rfl rfl (y_assign rfl rfl) ?_
          clear hf a; intro a hf
          refine st_end ?_
          refine x_then_n ?_
          refine wp_ret ?_
          refine x_then_ret ?_
          obtain rfl := Option.some.inj hq
          refine ret_tmp hf Try.results45 rfl ?_
          exact ⟨rfl, hm.below⟩
        ·
          replace hq := (ite_f h0_10).symm.trans hq
          have h0_12 := of_decide_eq_false h0_10
          refine cond_f hf rfl h0_10 ?_
          refine wp_skip ?_
          refine x_then_n ?_
          refine wp_seq ?_
          refine wp_seq ?_
          refine wp_region_lit ?_
          refine st_y hf rfl rfl rfl (y_fieldAddr fo_50_4 rfl rfl) ?_
          clear hf a; intro a hf
          refine st_y hf rfl rfl rfl (y_load1 Try.isAgg3 rfl rfl (hm.blk_cell 1 rfl rfl)) ?_
          clear hf a; intro a hf
          refine st_y hf rfl rfl rfl (y_fieldAddr fo_50_4 rfl rfl) ?_
          clear hf a; intro a hf
          refine st_y hf rfl rfl rfl (y_load1 Try.isAgg3 rfl rfl (hm.blk_cell 0 rfl rfl)) ?_
          clear hf a; intro a hf
          refine st_y hf rfl rfl rfl (y_neq rfl rfl rfl) ?_
          clear hf a; intro a hf
          refine st_end ?_
          refine x_then_n ?_
          rcases bcases (decide (a_.n_ ≠ b_.n_)) with h0_13 | h0_13
          ·
            replace hq := (ite_t h0_13).symm.trans hq
            have h0_14 := of_decide_eq_true h0_13
            refine cond_t hf rfl h0_13 ?_
            refine wp_seq ?_
            refine wp_region_lit ?_
            refine st_y hf rfl rfl rfl (y_assign rfl rfl) ?_
            clear hf a; intro a hf
            refine st_end ?_
            refine x_then_n ?_
            refine wp_ret ?_
            refine x_then_ret ?_
            obtain rfl := Option.some.inj hq
            refine ret_tmp hf Try.results45 rfl ?_
            exact ⟨rfl, hm.below⟩
          ·
            replace hq := (ite_f h0_13).symm.trans hq
            have h0_15 := of_decide_eq_false h0_13
            refine cond_f hf rfl h0_13 ?_
            refine wp_skip ?_
            refine x_then_n ?_
            refine wp_seq ?_
            refine wp_region_lit ?_
            refine st_y hf rfl rfl rfl (y_assign rfl rfl) ?_
            clear hf a; intro a hf
            refine st_end ?_
            refine x_then_n ?_
            refine wp_ret ?_
            obtain rfl := Option.some.inj hq
            refine ret_tmp hf Try.results45 rfl ?_
            exact ⟨rfl, hm.below⟩

theorem laws_eqMinsS_ok (w0 : World) (a_ : List Mins) (v1 : Value) (h1 : GT.rep (hp w0) [v1] a_) (b_ : List Mins) (v2 : Value) (h2 : GT.rep (hp w0) [v2] b_) (r : Bool) (hq : laws_eqMinsS a_ b_ = some r) :
    Con Try.prog 29 [v1, v2] w0 (fun v w' => v = (.bool (r)) ∧ Below w0.heap.size w0 w') := by
  unfold laws_eqMinsS at hq
  refine con_body (l := [(0, v1), (1, v2)]) Try.func29 rfl Try.ntmps29 (Args.get ⟨rfl, rfl, trivial⟩) rfl ?_
  intro a hf
  have hm := Mem.start w0
  refine wp_seq ?_
  refine wp_region_lit ?_
  refine st_y hf rfl rfl rfl (y_assign rfl rfl) ?_
  clear hf a; intro a hf
  refine st_end ?_
  refine x_then_n ?_
  refine wp_seq ?_
  refine wp_seq ?_
  refine wp_region_lit ?_
  refine st_y hf rfl rfl rfl (y_move rfl rfl) ?_
  clear hf a; intro a hf
  obtain ⟨p0_1, c0_1, he, hl0_1⟩ := ro_slice (hm.now h1)
  subst he
  refine st_y hf rfl rfl rfl (y_len_slice st_27.und rfl rfl) ?_
  clear hf a; intro a hf
  refine st_y hf rfl rfl rfl (y_move rfl rfl) ?_
  clear hf a; intro a hf
  obtain ⟨p0_2, c0_2, he, hl0_2⟩ := ro_slice (hm.now h2)
  subst he
  refine st_y hf rfl rfl rfl (y_len_slice st_27.und rfl rfl) ?_
  clear hf a; intro a hf
  refine st_y hf rfl rfl rfl (y_neq rfl rfl rfl) ?_
  clear hf a; intro a hf
  refine st_end ?_
  refine x_then_n ?_
  rcases bcases (decide (((a_.length : Int)) ≠ ((b_.length : Int)))) with h0_1 | h0_1
  ·
    replace hq := (ite_t h0_1).symm.trans hq
    have h0_2 := of_decide_eq_true h0_1
    refine cond_t hf rfl h0_1 ?_
    refine wp_seq ?_
    refine wp_region_lit ?_
    refine st_y hf rfl rfl rfl (y_assign rfl rfl) ?_
    clear hf a; intro a hf
    refine st_end ?_
    refine x_then_n ?_
    refine wp_ret ?_
    refine x_then_ret ?_
    obtain rfl := Option.some.inj hq
    refine ret_tmp hf Try.results29 rfl ?_
    exact ⟨rfl, hm.below⟩
  ·
    replace hq := (ite_f h0_1).symm.trans hq
    have h0_3 := of_decide_eq_false h0_1
    refine cond_f hf rfl h0_1 ?_
    refine wp_skip ?_
    refine x_then_n ?_
    refine wp_seq ?_
    refine wp_seq ?_
    refine wp_region_lit ?_
    refine st_y hf rfl rfl rfl (y_assign rfl rfl) ?_
    clear hf a; intro a hf
    refine st_end ?_
    refine x_then_n ?_
    refine wp_block ?_
    obtain ⟨r0_1, hl0_3, hq⟩ := bnd hq
    refine wp_forN _ (fun i1_1 xs1_1 a w => Fr 27 [(0, (.slice p0_1 a_.length c0_1)), (1, (.slice p0_2 b_.length c0_2)), (5, (.int .i64 (i1_1)))] a ∧ Mem w0 (hp w0) w []) (0) ((a_.length : Int)) hl0_3 ?_ ?_ ?_
    ·
      exact ⟨hf.sub ⟨rfl, rfl, rfl, trivial⟩, hm.pick [] (by decide) rfl⟩
    ·
      clear hf hm
      rintro i1_1 xs1_1 a w ⟨hf, hm⟩ hi1_1 hi1_2 q0_1 hb0_1 ho0_1
      refine wp_seq ?_
      refine wp_seq ?_
      refine wp_region_lit ?_
      refine st_y hf rfl rfl rfl (y_move rfl rfl) ?_
      clear hf a; intro a hf
      refine st_y hf rfl rfl rfl (y_move rfl rfl) ?_
      clear hf a; intro a hf
      refine st_y hf rfl rfl rfl (y_len_slice st_27.und rfl rfl) ?_
      clear hf a; intro a hf
      refine st_y hf rfl rfl rfl (y_lss rfl rfl rfl) ?_
      clear hf a; intro a hf
      refine st_end ?_
      refine x_then_n ?_
      refine cond_t hf rfl (decide_eq_true (by omega)) ?_
      refine wp_skip ?_
      refine x_then_n ?_
      refine wp_seq ?_
      refine wp_block ?_
      refine wp_seq ?_
      refine wp_draw [(true, 0), (true, 1), (true, 2), (true, 3), (true, 4), (true, 5), (true, 6), (true, 7), (false, 8), (true, 9)] [0, 1, 2, 3, 4, 5, 6, 7, 8, 9] (fun w => Mem w0 (hp w0) w []) (by kernel_rfl) (by kernel_rfl) (fun _ _ _ h => h.2) ?_
      replace hm := hm.drew
      have hS : Mem w0 (hp w0) _ [] := hm
      refine sd_y hf rfl rfl rfl rfl hS (fun w hm => y_move rfl rfl) ?_
      clear hf a; intro a hf
      refine sd_y hf rfl rfl rfl rfl hS (fun w hm => y_move rfl rfl) ?_
      clear hf a; intro a hf
      obtain ⟨x1_1, hx1_1, hb0_1⟩ := bnd hb0_1
      obtain ⟨h1_1, hx1_2⟩ := getI_some.1 hx1_1
      obtain ⟨b1_1, o1_1, c1_1, he⟩ := idx_form h1 hx1_2
      simp only [Value.slice.injEq] at he; obtain ⟨rfl, _, rfl⟩ := he
      refine sd_y hf rfl rfl rfl rfl hS (fun w hm => y_indexAddr st_27 rfl rfl rfl h1_1 (idx_lt hx1_2)) ?_
      clear hf a; intro a hf
      refine sd_y hf rfl rfl rfl rfl hS (fun w hm => y_loadN (cs := [(.int .i64 (x1_1.op)), (.int .i64 (x1_1.a_)), (.int .i64 (x1_1.b)), (.int .i64 (x1_1.c)), (.int .i64 (x1_1.n_))]) Try.isAgg50 Try.sizeOf50 rfl rfl (flat_cells (cs := [(.int .i64 (x1_1.op)), (.int .i64 (x1_1.a_)), (.int .i64 (x1_1.b)), (.int .i64 (x1_1.c)), (.int .i64 (x1_1.n_))]) (hm.now h1) hx1_2 rfl)) ?_
      clear hf a; intro a hf
      refine sd_y hf rfl rfl rfl rfl hS (fun w hm => y_move rfl rfl) ?_
      clear hf a; intro a hf
      refine sd_y hf rfl rfl rfl rfl hS (fun w hm => y_move rfl rfl) ?_
      clear hf a; intro a hf
      obtain ⟨x1_2, hx1_3, hb0_1⟩ := bnd hb0_1
      obtain ⟨h1_2, hx1_4⟩ := getI_some.1 hx1_3
      obtain ⟨b1_2, o1_2, c1_2, he⟩ := idx_form h2 hx1_4
      simp only [Value.slice.injEq] at he; obtain ⟨rfl, _, rfl⟩ := he
      refine sd_y hf rfl rfl rfl rfl hS (fun w hm => y_indexAddr st_27 rfl rfl rfl h1_2 (idx_lt hx1_4)) ?_
      clear hf a; intro a hf
      refine sd_y hf rfl rfl rfl rfl hS (fun w hm => y_loadN (cs := [(.int .i64 (x1_2.op)), (.int .i64 (x1_2.a_)), (.int .i64 (x1_2.b)), (.int .i64 (x1_2.c)), (.int .i64 (x1_2.n_))]) Try.isAgg50 Try.sizeOf50 rfl rfl (flat_cells (cs := [(.int .i64 (x1_2.op)), (.int .i64 (x1_2.a_)), (.int .i64 (x1_2.b)), (.int .i64 (x1_2.c)), (.int .i64 (x1_2.n_))]) (hm.now h2) hx1_4 rfl)) ?_
      clear hf a; intro a hf
      obtain ⟨r1_1, hx1_5, hb0_1⟩ := bnd hb0_1
      refine sd_ef hf rfl rfl rfl rfl (e_call hf rfl Try.call45 rfl (laws_eqMins_ok _ x1_1 x1_2 _ hx1_5)) ?_
      clear hf a; rintro _ w1_1 a ⟨rfl, hB⟩ hf
      replace hm := hm.below' hB; clear hB
      clear hS
      have hS : Mem w0 (hp w0) _ [] := hm.pick [] (by decide) rfl
      refine ⟨fun _ => hS, ?_⟩
      refine sd_y hf rfl rfl rfl rfl hS (fun w hm => y_not rfl rfl) ?_
      clear hf a; intro a hf
      clear hS; refine sd_end ?_
      refine x_then_n ?_
      rcases bcases (!(r1_1)) with h1_3 | h1_3
      ·
        replace hb0_1 := (ite_t h1_3).symm.trans hb0_1
        have h1_4 := bnot_t' h1_3
        refine cond_t hf rfl h1_3 ?_
        refine wp_seq ?_
        refine wp_region_lit ?_
        refine st_y hf rfl rfl rfl (y_assign rfl rfl) ?_
        clear hf a; intro a hf
        refine st_end ?_
        refine x_then_n ?_
        refine wp_ret ?_
        refine x_blk_ret ?_
        refine x_then_ret ?_
        refine x_then_ret ?_
        refine x_blk_ret ?_
        refine x_then_ret ?_
        obtain rfl := Option.some.inj hb0_1
        obtain rfl := ho0_1 _ rfl
        replace hq := sum_r hq
        obtain rfl := Option.some.inj hq
        refine ret_tmp hf Try.results29 rfl ?_
        exact ⟨rfl, hm.below⟩
      ·
        replace hb0_1 := (ite_f h1_3).symm.trans hb0_1
        have h1_5 := bnot_f' h1_3
        refine cond_f hf rfl h1_3 ?_
        refine wp_skip ?_
        refine x_blk_n ?_
        refine x_then_n ?_
        refine wp_region_lit ?_
        refine st_y hf rfl rfl rfl (y_move rfl rfl) ?_
        clear hf a; intro a hf
        refine st_y hf rfl rfl rfl (y_add64 rfl rfl rfl (by omega) (by omega)) ?_
        clear hf a; intro a hf
        refine st_y hf rfl rfl rfl (y_assign rfl rfl) ?_
        clear hf a; intro a hf
        refine st_end ?_
        refine x_then_n ?_
        obtain rfl := Option.some.inj hb0_1
        exact ⟨_, rfl, hf.sub ⟨rfl, rfl, rfl, trivial⟩, hm.pick [] (by decide) rfl⟩
    ·
      clear hf hm
      rintro i1_1 xs1_1 a w ⟨hf, hm⟩ hi0_1 hi0_2 rfl
      replace hq := sum_l hq
      refine wp_seq ?_
      refine wp_seq ?_
      refine wp_region_lit ?_
      refine st_y hf rfl rfl rfl (y_move rfl rfl) ?_
      clear hf a; intro a hf
      refine st_y hf rfl rfl rfl (y_move rfl rfl) ?_
      clear hf a; intro a hf
      refine st_y hf rfl rfl rfl (y_len_slice st_27.und rfl rfl) ?_
      clear hf a; intro a hf
      refine st_y hf rfl rfl rfl (y_lss rfl rfl rfl) ?_
      clear hf a; intro a hf
      refine st_end ?_
      refine x_then_n ?_
      refine cond_f hf rfl (decide_eq_false (by omega)) ?_
      refine wp_exit ?_
      refine x_then_exit ?_
      refine x_then_exit ?_
      refine x_blk_hit ?_
      refine x_then_n ?_
      refine wp_seq ?_
      refine wp_region_lit ?_
      refine st_y hf rfl rfl rfl (y_assign rfl rfl) ?_
      clear hf a; intro a hf
      refine st_end ?_
      refine x_then_n ?_
      refine wp_ret ?_
      obtain rfl := Option.some.inj hq
      refine ret_tmp hf Try.results29 rfl ?_
      exact ⟨rfl, hm.below⟩

theorem laws_eqMfn_ok (w0 : World) (a_ : Mfn) (v1 : Value) (h1 : GT.rep (hp w0) [v1] a_.ins) (b_ : Mfn) (v2 : Value) (h2 : GT.rep (hp w0) [v2] b_.ins) (r : Bool) (hq : laws_eqMfn a_ b_ = some r) :
    Con Try.prog 10 [(.agg #[(.int .i64 (a_.params)), (.int .i64 (a_.slots)), v1]), (.agg #[(.int .i64 (b_.params)), (.int .i64 (b_.slots)), v2])] w0 (fun v w' => v = (.bool (r)) ∧ Below w0.heap.size w0 w') := by
  unfold laws_eqMfn at hq
  refine con_body (l := [(0, (.agg #[(.int .i64 (a_.params)), (.int .i64 (a_.slots)), v1])), (1, (.agg #[(.int .i64 (b_.params)), (.int .i64 (b_.slots)), v2]))]) Try.func10 rfl Try.ntmps10 (Args.get ⟨rfl, rfl, trivial⟩) rfl ?_
  intro a hf
  have hm := Mem.start w0
  refine wp_seq ?_
  refine wp_region_lit ?_
  refine st_ef hf rfl rfl rfl (e_box hf hm rfl rfl rfl) ?_
  clear hf a; rintro _ w0_1 a ⟨b0_1, rfl, hm⟩ hf
  refine st_ef hf rfl rfl rfl (e_box hf hm rfl rfl rfl) ?_
  clear hf a; rintro _ w0_2 a ⟨b0_2, rfl, hm⟩ hf
  refine st_y hf rfl rfl rfl (y_assign rfl rfl) ?_
  clear hf a; intro a hf
  refine st_end ?_
  refine x_then_n ?_
  refine wp_seq ?_
  refine wp_seq ?_
  refine wp_region_lit ?_
  refine st_y hf rfl rfl rfl (y_fieldAddr fo_29_0 rfl rfl) ?_
  clear hf a; intro a hf
  refine st_y hf rfl rfl rfl (y_load1 Try.isAgg3 rfl rfl (hm.blk_cell 1 rfl rfl)) ?_
  clear hf a; intro a hf
  refine st_y hf rfl rfl rfl (y_fieldAddr fo_29_0 rfl rfl) ?_
  clear hf a; intro a hf
  refine st_y hf rfl rfl rfl (y_load1 Try.isAgg3 rfl rfl (hm.blk_cell 0 rfl rfl)) ?_
  clear hf a; intro a hf
  refine st_y hf rfl rfl rfl (y_neq rfl rfl rfl) ?_
  clear hf a; intro a hf
  refine st_end ?_
  refine x_then_n ?_
  rcases bcases (decide (a_.params ≠ b_.params)) with h0_1 | h0_1
  ·
    replace hq := (ite_t h0_1).symm.trans hq
    have h0_2 := of_decide_eq_true h0_1
    refine cond_t hf rfl h0_1 ?_
    refine wp_seq ?_
    refine wp_region_lit ?_
    refine st_y hf rfl rfl rfl (y_assign rfl rfl) ?_
    clear hf a; intro a hf
    refine st_end ?_
    refine x_then_n ?_
    refine wp_ret ?_
    refine x_then_ret ?_
    obtain rfl := Option.some.inj hq
    refine ret_tmp hf Try.results10 rfl ?_
    exact ⟨rfl, hm.below⟩
  ·
    replace hq := (ite_f h0_1).symm.trans hq
    have h0_3 := of_decide_eq_false h0_1
    refine cond_f hf rfl h0_1 ?_
    refine wp_skip ?_
    refine x_then_n ?_
    refine wp_seq ?_
    refine wp_seq ?_
    refine wp_region_lit ?_
    refine st_y hf rfl rfl rfl (y_fieldAddr fo_29_1 rfl rfl) ?_
    clear hf a; intro a hf
    refine st_y hf rfl rfl rfl (y_load1 Try.isAgg3 rfl rfl (hm.blk_cell 1 rfl rfl)) ?_
    clear hf a; intro a hf
    refine st_y hf rfl rfl rfl (y_fieldAddr fo_29_1 rfl rfl) ?_
    clear hf a; intro a hf
    refine st_y hf rfl rfl rfl (y_load1 Try.isAgg3 rfl rfl (hm.blk_cell 0 rfl rfl)) ?_
    clear hf a; intro a hf
    refine st_y hf rfl rfl rfl (y_neq rfl rfl rfl) ?_
    clear hf a; intro a hf
    refine st_end ?_
    refine x_then_n ?_
    rcases bcases (decide (a_.slots ≠ b_.slots)) with h0_4 | h0_4
    ·
      replace hq := (ite_t h0_4).symm.trans hq
      have h0_5 := of_decide_eq_true h0_4
      refine cond_t hf rfl h0_4 ?_
      refine wp_seq ?_
      refine wp_region_lit ?_
      refine st_y hf rfl rfl rfl (y_assign rfl rfl) ?_
      clear hf a; intro a hf
      refine st_end ?_
      refine x_then_n ?_
      refine wp_ret ?_
      refine x_then_ret ?_
      obtain rfl := Option.some.inj hq
      refine ret_tmp hf Try.results10 rfl ?_
      exact ⟨rfl, hm.below⟩
    ·
      replace hq := (ite_f h0_4).symm.trans hq
      have h0_6 := of_decide_eq_false h0_4
      refine cond_f hf rfl h0_4 ?_
      refine wp_skip ?_
      refine x_then_n ?_
      refine wp_seq ?_
      refine wp_seq ?_
      refine wp_region_lit ?_
      refine st_y hf rfl rfl rfl (y_fieldAddr fo_29_2 rfl rfl) ?_
      clear hf a; intro a hf
      refine st_y hf rfl rfl rfl (y_load1 Try.isAgg27 rfl rfl (hm.blk_cell 1 rfl rfl)) ?_
      clear hf a; intro a hf
      refine st_y hf rfl rfl rfl (y_fieldAddr fo_29_2 rfl rfl) ?_
      clear hf a; intro a hf
      refine st_y hf rfl rfl rfl (y_load1 Try.isAgg27 rfl rfl (hm.blk_cell 0 rfl rfl)) ?_
      clear hf a; intro a hf
      obtain ⟨r0_1, hx0_1, hq⟩ := bnd hq
      refine st_ef hf rfl rfl rfl (e_call hf rfl Try.call29 rfl (laws_eqMinsS_ok _ a_.ins v1 (hm.now h1) b_.ins v2 (hm.now h2) _ hx0_1)) ?_
      clear hf a; rintro _ w0_3 a ⟨rfl, hB⟩ hf
      replace hm := hm.below' hB; clear hB
      refine st_y hf rfl rfl rfl (y_not rfl rfl) ?_
      clear hf a; intro a hf
      refine st_end ?_
      refine x_then_n ?_
      rcases bcases (!(r0_1)) with h0_7 | h0_7
      ·
        replace hq := (ite_t h0_7).symm.trans hq
        have h0_8 := bnot_t' h0_7
        refine cond_t hf rfl h0_7 ?_
        refine wp_seq ?_
        refine wp_region_lit ?_
        refine st_y hf rfl rfl rfl (y_assign rfl rfl) ?_
        clear hf a; intro a hf
        refine st_end ?_
        refine x_then_n ?_
        refine wp_ret ?_
        refine x_then_ret ?_
        obtain rfl := Option.some.inj hq
        refine ret_tmp hf Try.results10 rfl ?_
        exact ⟨rfl, hm.below⟩
      ·
        replace hq := (ite_f h0_7).symm.trans hq
        have h0_9 := bnot_f' h0_7
        refine cond_f hf rfl h0_7 ?_
        refine wp_skip ?_
        refine x_then_n ?_
        refine wp_seq ?_
        refine wp_region_lit ?_
        refine st_y hf rfl rfl rfl (y_assign rfl rfl) ?_
        clear hf a; intro a hf
        refine st_end ?_
        refine x_then_n ?_
        refine wp_ret ?_
        obtain rfl := Option.some.inj hq
        refine ret_tmp hf Try.results10 rfl ?_
        exact ⟨rfl, hm.below⟩

theorem laws_FnExactJumpEnd_ok (w0 : World) (aF : Mfn) (v1 : Value) (h1 : GT.rep (hp w0) [v1] aF.ins) (aAt : Int) (r : Bool) (hq : laws_FnExactJumpEnd aF aAt = some r) :
    Con Try.prog 3 [(.agg #[(.int .i64 (aF.params)), (.int .i64 (aF.slots)), v1]), (.int .i64 (aAt))] w0 (fun v w' => v = (.bool (r)) ∧ Below w0.heap.size w0 w') := by
  unfold laws_FnExactJumpEnd at hq
  refine con_body (l := [(0, (.agg #[(.int .i64 (aF.params)), (.int .i64 (aF.slots)), v1])), (1, (.int .i64 (aAt)))]) Try.func3 rfl Try.ntmps3 (Args.get ⟨rfl, rfl, trivial⟩) rfl ?_
  intro a hf
  have hm := Mem.start w0
  refine wp_seq ?_
  refine wp_region_lit ?_
  refine st_ef hf rfl rfl rfl (e_box hf hm rfl rfl rfl) ?_
  clear hf a; rintro _ w0_1 a ⟨b0_1, rfl, hm⟩ hf
  refine st_y hf rfl rfl rfl (y_assign rfl rfl) ?_
  clear hf a; intro a hf
  refine st_end ?_
  refine x_then_n ?_
  refine wp_seq ?_
  refine wp_region_lit ?_
  refine st_y hf rfl rfl rfl (y_assign rfl rfl) ?_
  clear hf a; intro a hf
  refine st_end ?_
  refine x_then_n ?_
  refine wp_seq ?_
  refine wp_region_lit ?_
  refine st_y hf rfl rfl rfl (y_loadN (cs := [(.int .i64 (aF.params)), (.int .i64 (aF.slots)), v1]) Try.isAgg24 Try.sizeOf24 rfl rfl (hm.blk_at 0 rfl)) ?_
  clear hf a; intro a hf
  refine st_y hf rfl rfl rfl (y_move rfl rfl) ?_
  clear hf a; intro a hf
  obtain ⟨r0_1, hx0_1, hq⟩ := bnd hq
  refine st_ef hf rfl rfl rfl (e_call hf rfl Try.call6 rfl (laws_szMfn_ok _ aF v1 (hm.now h1) 1048576 _ hx0_1)) ?_
  clear hf a; rintro _ w0_2 a ⟨rfl, hB⟩ hf
  replace hm := hm.below' hB; clear hB
  refine st_y hf rfl rfl rfl (y_assign rfl rfl) ?_
  clear hf a; intro a hf
  refine st_end ?_
  refine x_then_n ?_
  refine wp_seq ?_
  refine wp_seq ?_
  refine wp_region_lit ?_
  refine st_y hf rfl rfl rfl (y_move rfl rfl) ?_
  clear hf a; intro a hf
  refine st_y hf rfl rfl rfl (y_lss rfl rfl rfl) ?_
  clear hf a; intro a hf
  refine st_end ?_
  refine x_then_n ?_
  rcases bcases (decide (r0_1 < 0)) with h0_1 | h0_1
  ·
    replace hq := (ite_t h0_1).symm.trans hq
    have h0_2 := of_decide_eq_true h0_1
    refine cond_t hf rfl h0_1 ?_
    refine wp_seq ?_
    refine wp_region_lit ?_
    refine st_y hf rfl rfl rfl (y_assign rfl rfl) ?_
    clear hf a; intro a hf
    refine st_end ?_
    refine x_then_n ?_
    refine wp_ret ?_
    refine x_then_ret ?_
    obtain rfl := Option.some.inj hq
    refine ret_tmp hf Try.results3 rfl ?_
    exact ⟨rfl, hm.below⟩
  ·
    replace hq := (ite_f h0_1).symm.trans hq
    have h0_3 := of_decide_eq_false h0_1
    refine cond_f hf rfl h0_1 ?_
    refine wp_skip ?_
    refine x_then_n ?_
    refine wp_seq ?_
    refine wp_region_lit ?_
    refine st_y hf rfl rfl rfl (y_loadN (cs := [(.int .i64 (aF.params)), (.int .i64 (aF.slots)), v1]) Try.isAgg24 Try.sizeOf24 rfl rfl (hm.blk_at 0 rfl)) ?_
    clear hf a; intro a hf
    obtain ⟨r0_2, hx0_2, hq⟩ := bnd hq
    refine st_ef hf rfl rfl rfl (e_call hf rfl Try.call8 rfl (laws_toMfn_ok _ aF v1 (hm.now h1) _ hx0_2)) ?_
    clear hf a; rintro _ w0_3 a ⟨v0_1, rfl, hB⟩ hf
    replace hm := hm.fresh hB; clear hB
    refine st_y hf rfl rfl rfl (y_move rfl rfl) ?_
    clear hf a; intro a hf
    obtain ⟨r0_3, hx0_3, hq⟩ := bnd hq
    refine st_ef hf rfl rfl rfl (e_call hf rfl Try.call7 rfl (spec_JumpEnd_ok _ r0_2 v0_1 (hm.ow_rep 0 rfl) aAt _ hx0_3)) ?_
    clear hf a; rintro _ w0_4 a ⟨rfl, hB⟩ hf
    replace hm := hm.below' hB; clear hB
    refine st_y hf rfl rfl rfl (y_assign rfl rfl) ?_
    clear hf a; intro a hf
    refine st_end ?_
    refine x_then_n ?_
    refine wp_seq ?_
    refine wp_region_lit ?_
    refine st_y hf rfl rfl rfl (y_loadN (cs := [(.int .i64 (aF.params)), (.int .i64 (aF.slots)), v1]) Try.isAgg24 Try.sizeOf24 rfl rfl (hm.blk_at 1 rfl)) ?_
    clear hf a; intro a hf
    obtain ⟨r0_4, hx0_4, hq⟩ := bnd hq
    refine st_ef hf rfl rfl rfl (e_call hf rfl Try.call8 rfl (laws_toMfn_ok _ aF v1 (hm.now h1) _ hx0_4)) ?_
    clear hf a; rintro _ w0_5 a ⟨v0_2, rfl, hB⟩ hf
    replace hm := hm.fresh hB; clear hB
    refine st_ef hf rfl rfl rfl (e_alloc hm Try.zeroValue29 rfl rfl) ?_
    clear hf a; rintro _ w0_6 a ⟨b0_2, rfl, hm⟩ hf
    refine st_ef0 hf rfl rfl (e_storeN 0 hf hm rfl Try.sizeOf29 rfl rfl rfl (one_cons rfl (one_cons rfl (one_cons (rep_one (hm.ow_rep 1 rfl)) one_nil))) rfl rfl) ?_
    clear hf a; rintro _ w0_7 a hm hf
    refine st_end ?_
    refine x_then_n ?_
    refine wp_seq ?_
    refine wp_region_lit ?_
    refine st_y hf rfl rfl rfl (y_loadN (cs := [(.int .i64 (r0_4.params)), (.int .i64 (r0_4.slots)), v0_2]) Try.isAgg29 Try.sizeOf29 rfl rfl (hm.blk_at 0 rfl)) ?_
    clear hf a; intro a hf
    refine st_y hf rfl rfl rfl (y_move rfl rfl) ?_
    clear hf a; intro a hf
    obtain ⟨r0_5, hx0_5, hq⟩ := bnd hq
    refine st_ef hf rfl rfl rfl (e_call hf rfl Try.call9 rfl (impl_JumpEnd_ok _ r0_4 v0_2 (hm.ow_rep 1 rfl) aAt _ hx0_5)) ?_
    clear hf a; rintro _ w0_8 a ⟨rfl, hB⟩ hf
    replace hm := hm.below' hB; clear hB
    refine st_y hf rfl rfl rfl (y_assign rfl rfl) ?_
    clear hf a; intro a hf
    refine st_end ?_
    refine x_then_n ?_
    refine wp_seq ?_
    refine wp_seq ?_
    refine wp_region_lit ?_
    refine st_y hf rfl rfl rfl (y_move rfl rfl) ?_
    clear hf a; intro a hf
    refine st_y hf rfl rfl rfl (y_move rfl rfl) ?_
    clear hf a; intro a hf
    refine st_y hf rfl rfl rfl (y_neq rfl rfl rfl) ?_
    clear hf a; intro a hf
    refine st_end ?_
    refine x_then_n ?_
    rcases bcases (decide (r0_5 ≠ r0_3)) with h0_4 | h0_4
    ·
      replace hq := (ite_t h0_4).symm.trans hq
      have h0_5 := of_decide_eq_true h0_4
      refine cond_t hf rfl h0_4 ?_
      refine wp_seq ?_
      refine wp_region_lit ?_
      refine st_y hf rfl rfl rfl (y_assign rfl rfl) ?_
      clear hf a; intro a hf
      refine st_end ?_
      refine x_then_n ?_
      refine wp_ret ?_
      refine x_then_ret ?_
      obtain rfl := Option.some.inj hq
      refine ret_tmp hf Try.results3 rfl ?_
      exact ⟨rfl, hm.below⟩
    ·
      replace hq := (ite_f h0_4).symm.trans hq
      have h0_6 := of_decide_eq_false h0_4
      refine cond_f hf rfl h0_4 ?_
      refine wp_skip ?_
      refine x_then_n ?_
      refine wp_seq ?_
      refine wp_seq ?_
      refine wp_draw [(true, 0), (true, 1), (false, 2), (false, 3), (true, 4)] [0, 1, 2, 3, 4] (fun w => Mem w0 (hp w0) w [blk b0_2 [(.int .i64 (r0_4.params)), (.int .i64 (r0_4.slots)), v0_2] 29, ow [v0_2] r0_4.ins, ow [v0_1] r0_2.ins, blk b0_1 [(.int .i64 (aF.params)), (.int .i64 (aF.slots)), v1] 24]) (by kernel_rfl) (by kernel_rfl) (fun _ _ _ h => h.2) ?_
      replace hm := hm.drew
      have hS : Mem w0 (hp w0) _ [blk b0_2 [(.int .i64 (r0_4.params)), (.int .i64 (r0_4.slots)), v0_2] 29, ow [v0_2] r0_4.ins, ow [v0_1] r0_2.ins, blk b0_1 [(.int .i64 (aF.params)), (.int .i64 (aF.slots)), v1] 24] := hm
      refine sd_y hf rfl rfl rfl rfl hS (fun w hm => y_loadN (cs := [(.int .i64 (r0_4.params)), (.int .i64 (r0_4.slots)), v0_2]) Try.isAgg29 Try.sizeOf29 rfl rfl (hm.blk_at 0 rfl)) ?_
      clear hf a; intro a hf
      refine sd_y hf rfl rfl rfl rfl hS (fun w hm => y_loadN (cs := [(.int .i64 (aF.params)), (.int .i64 (aF.slots)), v1]) Try.isAgg24 Try.sizeOf24 rfl rfl (hm.blk_at 3 rfl)) ?_
      clear hf a; intro a hf
      obtain ⟨r0_6, hx0_6, hq⟩ := bnd hq
      refine sd_ef hf rfl rfl rfl rfl (e_call hf rfl Try.call8 rfl (laws_toMfn_ok _ aF v1 (hm.now h1) _ hx0_6)) ?_
      clear hf a; rintro _ w0_9 a ⟨v0_3, rfl, hB⟩ hf
      replace hm := hm.fresh hB; clear hB
      clear hS
      have hS : Mem w0 (hp w0) _ [blk b0_2 [(.int .i64 (r0_4.params)), (.int .i64 (r0_4.slots)), v0_2] 29, ow [v0_2] r0_4.ins, ow [v0_1] r0_2.ins, blk b0_1 [(.int .i64 (aF.params)), (.int .i64 (aF.slots)), v1] 24] := hm.pick [1, 2, 3, 4] (by decide) rfl
      refine ⟨fun _ => hS, ?_⟩
      obtain ⟨r0_7, hx0_7, hq⟩ := bnd hq
      refine sd_ef hf rfl rfl rfl rfl (e_call hf rfl Try.call10 rfl (laws_eqMfn_ok _ r0_4 v0_2 (hm.ow_rep 2 rfl) r0_6 v0_3 (hm.ow_rep 0 rfl) _ hx0_7)) ?_
      clear hf a; rintro _ w0_10 a ⟨rfl, hB⟩ hf
      replace hm := hm.below' hB; clear hB
      clear hS
      have hS : Mem w0 (hp w0) _ [blk b0_2 [(.int .i64 (r0_4.params)), (.int .i64 (r0_4.slots)), v0_2] 29, ow [v0_2] r0_4.ins, ow [v0_1] r0_2.ins, blk b0_1 [(.int .i64 (aF.params)), (.int .i64 (aF.slots)), v1] 24] := hm.pick [1, 2, 3, 4] (by decide) rfl
      refine ⟨fun _ => hS, ?_⟩
      refine sd_y hf rfl rfl rfl rfl hS (fun w hm => y_not rfl rfl) ?_
      clear hf a; intro a hf
      clear hS; refine sd_end ?_
      refine x_then_n ?_
      rcases bcases (!(r0_7)) with h0_7 | h0_7
      ·
        replace hq := (ite_t h0_7).symm.trans hq
        have h0_8 := bnot_t' h0_7
        refine cond_t hf rfl h0_7 ?_
        refine wp_seq ?_
        refine wp_region_lit ?_
        refine st_y hf rfl rfl rfl (y_assign rfl rfl) ?_
        clear hf a; intro a hf
        refine st_end ?_
        refine x_then_n ?_
        refine wp_ret ?_
        refine x_then_ret ?_
        obtain rfl := Option.some.inj hq
        refine ret_tmp hf Try.results3 rfl ?_
        exact ⟨rfl, hm.below⟩
      ·
        replace hq := (ite_f h0_7).symm.trans hq
        have h0_9 := bnot_f' h0_7
        refine cond_f hf rfl h0_7 ?_
        refine wp_skip ?_
        refine x_then_n ?_
        refine wp_seq ?_
        refine wp_region_lit ?_
        refine st_y hf rfl rfl rfl (y_assign rfl rfl) ?_
        clear hf a; intro a hf
        refine st_end ?_
        refine x_then_n ?_
        refine wp_ret ?_
        obtain rfl := Option.some.inj hq
        refine ret_tmp hf Try.results3 rfl ?_
        exact ⟨rfl, hm.below⟩

end Go.Proofs.Ytmhjfaoefcdelaa
