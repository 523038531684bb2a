/- A part of the proof of FnEncodeMinsCardSaid. -/
import Derived.Test.YtmhjfaoefcdelaaDoorTwModels
import Derived.Test.YtmhjfaoefcdelaaDoorChecked
namespace Go.Proofs.YtmhjfaoefcdelaaDoor
open Go Go.Wk Go.RowKit
set_option maxRecDepth 4000
set_option maxHeartbeats 4000000

theorem fo_27_0 : FieldOff Tryd.prog 27 0 0 := by have h := FieldOff.mk (k := 0) Tryd.underlying27 rfl Tryd.sizeOf3; exact h
theorem fo_27_1 : FieldOff Tryd.prog 27 1 1 := by have h := FieldOff.mk (k := 1) Tryd.underlying27 rfl Tryd.sizeOf3; exact h
theorem fo_27_2 : FieldOff Tryd.prog 27 2 2 := by have h := FieldOff.mk (k := 2) Tryd.underlying27 rfl Tryd.sizeOf3; exact h
theorem fo_27_3 : FieldOff Tryd.prog 27 3 3 := by have h := FieldOff.mk (k := 3) Tryd.underlying27 rfl Tryd.sizeOf3; exact h
theorem fo_27_4 : FieldOff Tryd.prog 27 4 4 := by have h := FieldOff.mk (k := 4) Tryd.underlying27 rfl Tryd.sizeOf3; exact h
theorem fo_35_0 : FieldOff Tryd.prog 35 0 0 := by have h := FieldOff.mk (k := 0) Tryd.underlying35 rfl Tryd.sizeOf3; exact h
theorem fo_35_1 : FieldOff Tryd.prog 35 1 1 := by have h := FieldOff.mk (k := 1) Tryd.underlying35 rfl Tryd.sizeOf3; exact h
theorem fo_35_2 : FieldOff Tryd.prog 35 2 2 := by have h := FieldOff.mk (k := 2) Tryd.underlying35 rfl Tryd.sizeOf33; exact h
theorem fo_62_1 : FieldOff Tryd.prog 62 1 1 := by have h := FieldOff.mk (k := 1) Tryd.underlying62 rfl Tryd.sizeOf3; exact h
theorem fo_70_0 : FieldOff Tryd.prog 70 0 0 := by have h := FieldOff.mk (k := 0) Tryd.underlying70 rfl Tryd.sizeOf35; exact h
theorem fo_70_1 : FieldOff Tryd.prog 70 1 3 := by have h := FieldOff.mk (k := 1) Tryd.underlying70 rfl Tryd.sizeOf68; exact h
theorem fo_70_2 : FieldOff Tryd.prog 70 2 4 := by have h := FieldOff.mk (k := 2) Tryd.underlying70 rfl Tryd.sizeOf46; exact h
theorem fo_70_3 : FieldOff Tryd.prog 70 3 5 := by have h := FieldOff.mk (k := 3) Tryd.underlying70 rfl Tryd.sizeOf46; exact h
theorem fo_70_4 : FieldOff Tryd.prog 70 4 6 := by have h := FieldOff.mk (k := 4) Tryd.underlying70 rfl Tryd.sizeOf3; exact h
theorem fo_99_0 : FieldOff Tryd.prog 99 0 0 := by have h := FieldOff.mk (k := 0) Tryd.underlying99 rfl Tryd.sizeOf97; exact h
theorem fo_110_0 : FieldOff Tryd.prog 110 0 0 := by have h := FieldOff.mk (k := 0) Tryd.underlying110 rfl Tryd.sizeOf24; exact h
theorem fo_110_1 : FieldOff Tryd.prog 110 1 1 := by have h := FieldOff.mk (k := 1) Tryd.underlying110 rfl Tryd.sizeOf3; exact h
theorem st_24 : SliceTy Tryd.prog 24 5 1 := ⟨Tryd.underlying24, Tryd.sizeOf5⟩
theorem st_33 : SliceTy Tryd.prog 33 27 5 := ⟨Tryd.underlying33, Tryd.sizeOf27⟩
theorem st_46 : SliceTy Tryd.prog 46 3 1 := ⟨Tryd.underlying46, Tryd.sizeOf3⟩
theorem st_68 : SliceTy Tryd.prog 68 4 1 := ⟨Tryd.underlying68, Tryd.sizeOf4⟩
theorem st_89 : SliceTy Tryd.prog 89 9 1 := ⟨Tryd.underlying89, Tryd.sizeOf9⟩
theorem st_97 : SliceTy Tryd.prog 97 35 3 := ⟨Tryd.underlying97, Tryd.sizeOf35⟩
theorem et_24 : ElemTy Tryd.prog 24 5 1 (.int .u8 (((0 : UInt8)).toNat : Int)) := ⟨Tryd.underlying24, ⟨_, (by kernel_rfl : Tryd.prog.info? 5 = some Tryd.t5), rfl, by decide, rfl⟩, rfl, by decide⟩
theorem et_33 : ElemTy Tryd.prog 33 27 5 (.agg #[(.int .i64 (0)), (.int .i64 (0)), (.int .i64 (0)), (.int .i64 (0)), (.int .i64 (0))]) := ⟨Tryd.underlying33, ⟨_, (by kernel_rfl : Tryd.prog.info? 27 = some Tryd.t27), rfl, by decide, rfl⟩, rfl, by decide⟩
theorem et_46 : ElemTy Tryd.prog 46 3 1 (.int .i64 (0)) := ⟨Tryd.underlying46, ⟨_, (by kernel_rfl : Tryd.prog.info? 3 = some Tryd.t3), rfl, by decide, rfl⟩, rfl, by decide⟩
theorem et_68 : ElemTy Tryd.prog 68 4 1 (.bool (false)) := ⟨Tryd.underlying68, ⟨_, (by kernel_rfl : Tryd.prog.info? 4 = some Tryd.t4), rfl, by decide, rfl⟩, rfl, by decide⟩
theorem et_89 : ElemTy Tryd.prog 89 9 1 (.string ⟨((mkS [])).b.toArray⟩) := ⟨Tryd.underlying89, ⟨_, (by kernel_rfl : Tryd.prog.info? 9 = some Tryd.t9), rfl, by decide, rfl⟩, rfl, by decide⟩
theorem et_97 : ElemTy Tryd.prog 97 35 3 (.agg #[(.int .i64 (0)), (.int .i64 (0)), (.slice none 0 0)]) := ⟨Tryd.underlying97, ⟨_, (by kernel_rfl : Tryd.prog.info? 35 = some Tryd.t35), rfl, by decide, rfl⟩, rfl, by decide⟩

theorem spec_l30Open_ok (w0 : World) (hz : Heap) (hle0 : Heap.le hz (hp w0)) (code : List UInt8) (v1 : Value) (h1 : GT.rep hz [v1] code) (r : l30Rd) (hq : spec_l30Open code = some r) :
    Con Tryd.prog 66 [v1] w0 (fun v w' => ∃ (b1 : Nat) (x2 : Value) (hz2 : Heap), v = (.pointer (some ⟨b1, 0, none⟩)) ∧ Heap.le hz hz2 ∧ GT.rep hz2 [x2] r.b ∧ Mem w0 hz2 w' [junk w0 hz, blk b1 [x2, (.int .i64 (r.p))] 110]) := by
  unfold spec_l30Open at hq
  refine con_body (l := [(0, v1)]) Tryd.func66 rfl Tryd.ntmps66 (Args.get ⟨rfl, trivial⟩) rfl ?_
  intro a hf
  have hm := Mem.startA hle0
  refine wp_seq ?_
  refine wp_region_lit ?_
  refine st_y hf rfl rfl rfl (y_assign rfl rfl) ?_
  clear hf a; intro a hf
  refine st_end ?_
  refine x_then_n ?_
  refine wp_seq ?_
  refine wp_seq ?_
  refine wp_region_lit ?_
  refine st_y hf rfl rfl rfl (y_move rfl rfl) ?_
  clear hf a; intro a hf
  obtain ⟨p0_1, c0_1, he, hl0_1⟩ := ro_slice h1
  subst he
  refine st_y hf rfl rfl rfl (y_len_slice st_24.und rfl rfl) ?_
  clear hf a; intro a hf
  refine st_y hf rfl rfl rfl (y_gtr rfl rfl rfl) ?_
  clear hf a; intro a hf
  refine st_end ?_
  refine x_then_n ?_
  obtain ⟨s0_1, hq0_1, hq⟩ := bnd hq
  refine code_cut (K := fun a w => ∃ (v0_1 : Value), GT.rep hz [v0_1] (s0_1) ∧ Fr 11 [(0, v0_1)] a ∧ Mem w0 hz w [junk w0 hz]) ?_ ?_
  ·
    rcases bcases (decide (2000 < ((code.length : Int)))) with h1_1 | h1_1
    ·
      replace hq0_1 := (ite_t h1_1).symm.trans hq0_1
      have h1_2 := of_decide_eq_true h1_1
      refine cond_t hf rfl h1_1 ?_
      refine wp_region_lit ?_
      refine st_y hf rfl rfl rfl (y_move rfl rfl) ?_
      clear hf a; intro a hf
      obtain ⟨x1_1, hx1_1, hq0_1⟩ := bnd hq0_1
      obtain ⟨h1_3, h1_3e⟩ := subM_some.1 hx1_1
      obtain ⟨v1_1, hy1_1, h1_4⟩ : ∃ nv, nv = subV (GT.sz (UInt8)) (.slice p0_1 code.length c0_1) (0 : Int).toNat (2000 : Int).toNat ∧ GT.rep hz [nv] x1_1 := ⟨_, rfl, by rw [← h1_3e]; exact rep_subV h1 (by omega) (by omega)⟩
      refine st_y hf rfl rfl rfl (yl_eq hy1_1 (y_slcH (α := UInt8) st_24 h1 rfl rfl rfl h1_3 _)) ?_
      clear hf a; intro a hf
      refine st_y hf rfl rfl rfl (y_assign rfl rfl) ?_
      clear hf a; intro a hf
      refine st_end ?_
      refine x_then_n ?_
      obtain rfl := Option.some.inj hq0_1
      exact ⟨v1_1, h1_4, hf.sub ⟨rfl, trivial⟩, hm.pick [0] (by decide) rfl⟩
    ·
      replace hq0_1 := (ite_f h1_1).symm.trans hq0_1
      have h1_5 := of_decide_eq_false h1_1
      refine cond_f hf rfl h1_1 ?_
      refine wp_skip ?_
      refine x_then_n ?_
      obtain rfl := Option.some.inj hq0_1
      exact ⟨(.slice p0_1 code.length c0_1), h1, hf.sub ⟨rfl, trivial⟩, hm.pick [0] (by decide) rfl⟩
  ·
    clear hf hm
    rintro a w ⟨v0_1, h0_1, hf, hm⟩
    refine x_then_n ?_
    refine wp_seq ?_
    refine wp_region_lit ?_
    refine st_y hf rfl rfl rfl (y_move rfl rfl) ?_
    clear hf a; intro a hf
    obtain ⟨p0_2, c0_2, he, hl0_2⟩ := ro_slice h0_1
    subst he
    refine st_y hf rfl rfl rfl (y_build (vs := [(0, (.slice p0_2 s0_1.length c0_2))]) (cs := #[(.slice p0_2 s0_1.length c0_2), (.int .i64 (0))]) rfl rfl (by kernel_rfl)) ?_
    clear hf a; intro a hf
    refine st_ef hf rfl rfl rfl (e_box hf hm rfl rfl rfl) ?_
    clear hf a; rintro _ w0_1 a ⟨b0_1, rfl, hm⟩ hf
    refine st_y hf rfl rfl rfl (y_assign rfl rfl) ?_
    clear hf a; intro a hf
    refine st_end ?_
    refine x_then_n ?_
    refine wp_ret ?_
    obtain rfl := Option.some.inj hq
    refine ret_tmp hf Tryd.results66 rfl ?_
    exact ⟨b0_1, (.slice p0_2 s0_1.length c0_2), hz, rfl, (Heap.le_refl _), h0_1, hm.pick [1, 0] (by decide) rfl⟩

theorem pspec_l30Rd__pick_ok (w0 : World) (hz : Heap) (r_ : l30Rd) (bp0 : Nat) (v1p : Value) (h1p : GT.rep hz [v1p] r_.b) (n_ : Int) (hm0 : Mem w0 hz w0 [blk bp0 [v1p, (.int .i64 (r_.p))] 110]) (r : Int × l30Rd) (hq : pspec_l30Rd__pick r_ n_ = some r) :
    Con Tryd.prog 68 [(.pointer (some ⟨bp0, 0, none⟩)), (.int .i64 (n_))] w0 (fun v w' => v = (.int .i64 (r.1)) ∧ Mem w0 hz w' [blk bp0 [v1p, (.int .i64 (r.2.p))] 110]) := by
  unfold pspec_l30Rd__pick at hq
  refine con_body (l := [(0, (.pointer (some ⟨bp0, 0, none⟩))), (1, (.int .i64 (n_)))]) Tryd.func68 rfl Tryd.ntmps68 (Args.get ⟨rfl, rfl, trivial⟩) rfl ?_
  intro a hf
  have hm := hm0
  refine wp_seq ?_
  refine wp_region_lit ?_
  refine st_y hf rfl rfl rfl (y_assign rfl rfl) ?_
  clear hf a; intro a hf
  refine st_end ?_
  refine x_then_n ?_
  refine wp_seq ?_
  refine wp_region_lit ?_
  refine st_y hf rfl rfl rfl (y_move rfl rfl) ?_
  clear hf a; intro a hf
  refine st_y hf rfl rfl rfl (y_move rfl rfl) ?_
  clear hf a; intro a hf
  refine st_y hf rfl rfl rfl (y_nilptr rfl rfl) ?_
  clear hf a; intro a hf
  refine st_y hf rfl rfl rfl (y_fieldAddr fo_110_1 rfl rfl) ?_
  clear hf a; intro a hf
  refine st_y hf rfl rfl rfl (y_load1 Tryd.isAgg3 rfl rfl (hm.blk_cell 0 rfl rfl)) ?_
  clear hf a; intro a hf
  refine st_y hf rfl rfl rfl (y_addw rfl rfl rfl) ?_
  clear hf a; intro a hf
  refine st_y hf rfl rfl rfl (y_nilptr rfl rfl) ?_
  clear hf a; intro a hf
  refine st_y hf rfl rfl rfl (y_fieldAddr fo_110_1 rfl rfl) ?_
  clear hf a; intro a hf
  refine st_ef0 hf rfl rfl (e_store1 0 hf hm rfl Tryd.sizeOf3 rfl rfl rfl rfl rfl) ?_
  clear hf a; rintro _ w0_1 a hm hf
  refine st_end ?_
  refine x_then_n ?_
  refine wp_seq ?_
  refine wp_seq ?_
  obtain ⟨s0_1, hq0_1, hq⟩ := bnd hq
  refine code_cut (K := fun a w => Fr 99 [(0, (.pointer (some ⟨bp0, 0, none⟩))), (1, (.int .i64 (n_))), (24, (.bool (s0_1)))] a ∧ Mem w0 hz w [blk bp0 [v1p, (.int .i64 (w64 (r_.p + 1)))] 110]) ?_ ?_
  ·
    refine wp_region_lit ?_
    refine st_y hf rfl rfl rfl (y_move rfl rfl) ?_
    clear hf a; intro a hf
    refine st_y hf rfl rfl rfl (y_lss rfl rfl rfl) ?_
    clear hf a; intro a hf
    refine st_y hf rfl rfl rfl (y_move rfl rfl) ?_
    clear hf a; intro a hf
    rcases bcases (decide (n_ < 1)) with h1_1 | h1_1
    ·
      replace hq0_1 := (ite_t h1_1).symm.trans hq0_1
      have h1_2 := of_decide_eq_true h1_1
      refine st_no hf rfl rfl (lk_b rfl h1_1) rfl rfl rfl ?_
      clear hf a; intro a hf
      refine st_no hf rfl rfl (lk_b rfl h1_1) rfl rfl rfl ?_
      clear hf a; intro a hf
      refine st_no hf rfl rfl (lk_b rfl h1_1) rfl rfl rfl ?_
      clear hf a; intro a hf
      refine st_no hf rfl rfl (lk_b rfl h1_1) rfl rfl rfl ?_
      clear hf a; intro a hf
      refine st_no hf rfl rfl (lk_b rfl h1_1) rfl rfl rfl ?_
      clear hf a; intro a hf
      refine st_no hf rfl rfl (lk_b rfl h1_1) rfl rfl rfl ?_
      clear hf a; intro a hf
      refine st_y hf rfl rfl rfl (y_pick_t rfl (ev_b rfl h1_1) rfl) ?_
      clear hf a; intro a hf
      refine st_end ?_
      refine x_then_n ?_
      obtain rfl := Option.some.inj hq0_1
      exact ⟨hf.sub ⟨rfl, rfl, rfl, trivial⟩, hm.pick [0] (by decide) rfl⟩
    ·
      replace hq0_1 := (ite_f h1_1).symm.trans hq0_1
      have h1_3 := of_decide_eq_false h1_1
      refine st_yg hf rfl rfl (lk_b rfl h1_1) rfl rfl (y_move rfl rfl) ?_
      clear hf a; intro a hf
      refine st_yg hf rfl rfl (lk_b rfl h1_1) rfl rfl (y_nilptr rfl rfl) ?_
      clear hf a; intro a hf
      refine st_yg hf rfl rfl (lk_b rfl h1_1) rfl rfl (y_fieldAddr fo_110_0 rfl rfl) ?_
      clear hf a; intro a hf
      refine st_yg hf rfl rfl (lk_b rfl h1_1) rfl rfl (y_load1 Tryd.isAgg24 rfl rfl (hm.blk_cell 0 rfl rfl)) ?_
      clear hf a; intro a hf
      obtain ⟨p1_1, c1_1, he, hl1_1⟩ := ro_slice h1p
      subst he
      refine st_yg hf rfl rfl (lk_b rfl h1_1) rfl rfl (y_len_slice st_24.und rfl rfl) ?_
      clear hf a; intro a hf
      refine st_yg hf rfl rfl (lk_b rfl h1_1) rfl rfl (y_eql rfl rfl rfl) ?_
      clear hf a; intro a hf
      refine st_y hf rfl rfl rfl (y_pick_f rfl (ev_b rfl h1_1) rfl) ?_
      clear hf a; intro a hf
      refine st_end ?_
      refine x_then_n ?_
      obtain rfl := Option.some.inj hq0_1
      exact ⟨hf.sub ⟨rfl, rfl, rfl, trivial⟩, hm.pick [0] (by decide) rfl⟩
  ·
    clear hf hm
    rintro a w ⟨hf, hm⟩
    refine x_then_n ?_
    rcases bcases (s0_1) with h0_1 | h0_1
    ·
      replace hq := (ite_t h0_1).symm.trans hq
      refine cond_t hf rfl h0_1 ?_
      refine wp_seq ?_
      refine wp_region_lit ?_
      refine st_y hf rfl rfl rfl (y_assign rfl rfl) ?_
      clear hf a; intro a hf
      refine st_end ?_
      refine x_then_n ?_
      refine wp_ret ?_
      refine x_then_ret ?_
      obtain rfl := Option.some.inj hq
      refine ret_tmp hf Tryd.results68 rfl ?_
      exact ⟨rfl, hm.pick [0] (by decide) rfl⟩
    ·
      replace hq := (ite_f h0_1).symm.trans hq
      refine cond_f hf rfl h0_1 ?_
      refine wp_skip ?_
      refine x_then_n ?_
      refine wp_seq ?_
      refine wp_region_lit ?_
      refine st_y hf rfl rfl rfl (y_move rfl rfl) ?_
      clear hf a; intro a hf
      refine st_y hf rfl rfl rfl (y_nilptr rfl rfl) ?_
      clear hf a; intro a hf
      refine st_y hf rfl rfl rfl (y_fieldAddr fo_110_1 rfl rfl) ?_
      clear hf a; intro a hf
      refine st_y hf rfl rfl rfl (y_load1 Tryd.isAgg3 rfl rfl (hm.blk_cell 0 rfl rfl)) ?_
      clear hf a; intro a hf
      refine st_y hf rfl rfl rfl (y_subw rfl rfl rfl) ?_
      clear hf a; intro a hf
      refine st_y hf rfl rfl rfl (y_assign rfl rfl) ?_
      clear hf a; intro a hf
      refine st_end ?_
      refine x_then_n ?_
      refine wp_seq ?_
      refine wp_seq ?_
      refine wp_region_lit ?_
      refine st_y hf rfl rfl rfl (y_move rfl rfl) ?_
      clear hf a; intro a hf
      refine st_y hf rfl rfl rfl (y_move rfl rfl) ?_
      clear hf a; intro a hf
      refine st_y hf rfl rfl rfl (y_nilptr rfl rfl) ?_
      clear hf a; intro a hf
      refine st_y hf rfl rfl rfl (y_fieldAddr fo_110_0 rfl rfl) ?_
      clear hf a; intro a hf
      refine st_y hf rfl rfl rfl (y_load1 Tryd.isAgg24 rfl rfl (hm.blk_cell 0 rfl rfl)) ?_
      clear hf a; intro a hf
      obtain ⟨p0_1, c0_1, he, hl0_1⟩ := ro_slice h1p
      subst he
      refine st_y hf rfl rfl rfl (y_len_slice st_24.und rfl rfl) ?_
      clear hf a; intro a hf
      refine st_y hf rfl rfl rfl (y_lss rfl rfl rfl) ?_
      clear hf a; intro a hf
      refine st_end ?_
      refine x_then_n ?_
      rcases bcases (decide ((w64 ((w64 (r_.p + 1)) - 1)) < ((r_.b.length : Int)))) with h0_2 | h0_2
      ·
        replace hq := (ite_t h0_2).symm.trans hq
        have h0_3 := of_decide_eq_true h0_2
        refine cond_t hf rfl h0_2 ?_
        refine wp_seq ?_
        refine wp_region_lit ?_
        refine st_y hf rfl rfl rfl (y_move rfl rfl) ?_
        clear hf a; intro a hf
        refine st_y hf rfl rfl rfl (y_nilptr rfl rfl) ?_
        clear hf a; intro a hf
        refine st_y hf rfl rfl rfl (y_fieldAddr fo_110_0 rfl rfl) ?_
        clear hf a; intro a hf
        refine st_y hf rfl rfl rfl (y_load1 Tryd.isAgg24 rfl rfl (hm.blk_cell 0 rfl rfl)) ?_
        clear hf a; intro a hf
        refine st_y hf rfl rfl rfl (y_move rfl rfl) ?_
        clear hf a; intro a hf
        obtain ⟨x0_1, hx0_1, hq⟩ := bnd hq
        obtain ⟨h0_4, hx0_2⟩ := getI_some.1 hx0_1
        obtain ⟨b0_1, o0_1, c0_2, he⟩ := idx_form h1p hx0_2
        simp only [Value.slice.injEq, Option.some.injEq] at he; obtain ⟨rfl, _, rfl⟩ := he
        refine st_y hf rfl rfl rfl (y_indexAddr st_24 rfl rfl rfl h0_4 (idx_lt hx0_2)) ?_
        clear hf a; intro a hf
        refine st_y hf rfl rfl rfl (y_load1 Tryd.isAgg5 rfl rfl ((flat_cells (cs := [(.int .u8 ((x0_1).toNat : Int))]) (hm.now h1p) hx0_2 rfl).cell (j := 0) rfl)) ?_
        clear hf a; intro a hf
        refine st_y hf rfl rfl rfl (y_conv64 (b := x0_1) Tryd.underlying5 Tryd.underlying3 rfl rfl) ?_
        clear hf a; intro a hf
        have hu0_1 := UInt8.toNat_lt (x0_1)
        refine st_y hf rfl rfl rfl (y_move rfl rfl) ?_
        clear hf a; intro a hf
        obtain ⟨q0_1, hx0_3, hq⟩ := bnd hq
        obtain ⟨h0_5, rfl⟩ := remM_some.1 hx0_3
        refine st_y hf rfl rfl rfl (y_rem rfl rfl rfl h0_5) ?_
        clear hf a; intro a hf
        refine st_y hf rfl rfl rfl (y_assign rfl rfl) ?_
        clear hf a; intro a hf
        refine st_end ?_
        refine x_then_n ?_
        refine wp_ret ?_
        refine x_then_ret ?_
        obtain rfl := Option.some.inj hq
        refine ret_tmp hf Tryd.results68 rfl ?_
        exact ⟨rfl, hm.pick [0] (by decide) rfl⟩
      ·
        replace hq := (ite_f h0_2).symm.trans hq
        have h0_6 := of_decide_eq_false h0_2
        refine cond_f hf rfl h0_2 ?_
        refine wp_skip ?_
        refine x_then_n ?_
        refine wp_seq ?_
        refine wp_tree (.p 0 (.p 1 (.p 2 (.p 4 (.p 5 (.p 6 (.p 7 (.p 15 (.p 16 (.p 17 (.p 19 (.p 20 (.p 21 (.p 22 (.p 23 (.p 24 (.p 33 (.p 34 (.p 36 (.p 37 (.p 38 (.p 39 (.q 3 (.q 8 (.p 9 (.p 10 (.p 11 (.q 12 (.p 13 (.p 14 (.q 18 (.q 25 (.p 26 (.p 27 (.p 28 (.q 29 (.p 30 (.p 31 (.p 32 (.p 35 (.e 40 (.p 41 (.p 42 (.p 43 (.p 44 (.p 45 .fin))))) .nil))))))))))))))))))))))))))))))))))))))))) [3, 8, 12, 18, 25, 29, 40] [0, 1, 2, 4, 5, 6, 7, 9, 10, 11, 13, 14, 15, 16, 17, 19, 20, 21, 22, 23, 24, 26, 27, 28, 30, 31, 32, 33, 34, 35, 36, 37, 38, 39, 41, 42, 43, 44, 45] (fun w => Mem w0 hz w [blk bp0 [(.slice p0_1 r_.b.length c0_1), (.int .i64 (w64 (r_.p + 1)))] 110]) (by kernel_rfl) (by kernel_rfl) (fun _ _ _ h => h.2) ?_
        replace hm := hm.drew
        have hS : Mem w0 hz _ [blk bp0 [(.slice p0_1 r_.b.length c0_1), (.int .i64 (w64 (r_.p + 1)))] 110] := hm.pick [0] (by decide) rfl
        refine td_p hf rfl rfl rfl rfl (fun w => y_move rfl rfl) ?_
        clear hf a; intro a hf
        refine td_p hf rfl rfl rfl rfl (fun w => y_nilptr rfl rfl) ?_
        clear hf a; intro a hf
        refine td_p hf rfl rfl rfl rfl (fun w => y_fieldAddr fo_110_0 rfl rfl) ?_
        clear hf a; intro a hf
        refine td_p hf rfl rfl rfl rfl (fun w => y_move rfl rfl) ?_
        clear hf a; intro a hf
        refine td_p hf rfl rfl rfl rfl (fun w => y_move rfl rfl) ?_
        clear hf a; intro a hf
        refine td_p hf rfl rfl rfl rfl (fun w => y_nilptr rfl rfl) ?_
        clear hf a; intro a hf
        refine td_p hf rfl rfl rfl rfl (fun w => y_fieldAddr fo_110_0 rfl rfl) ?_
        clear hf a; intro a hf
        refine td_p hf rfl rfl rfl rfl (fun w => y_move rfl rfl) ?_
        clear hf a; intro a hf
        refine td_p hf rfl rfl rfl rfl (fun w => y_nilptr rfl rfl) ?_
        clear hf a; intro a hf
        refine td_p hf rfl rfl rfl rfl (fun w => y_fieldAddr fo_110_0 rfl rfl) ?_
        clear hf a; intro a hf
        refine td_p hf rfl rfl rfl rfl (fun w => y_move rfl rfl) ?_
        clear hf a; intro a hf
        refine td_p hf rfl rfl rfl rfl (fun w => y_mulw rfl rfl rfl) ?_
        clear hf a; intro a hf
        refine td_p hf rfl rfl rfl rfl (fun w => y_addw rfl rfl rfl) ?_
        clear hf a; intro a hf
        refine td_p hf rfl rfl rfl rfl (fun w => y_move rfl rfl) ?_
        clear hf a; intro a hf
        refine td_p hf rfl rfl rfl rfl (fun w => y_nilptr rfl rfl) ?_
        clear hf a; intro a hf
        refine td_p hf rfl rfl rfl rfl (fun w => y_fieldAddr fo_110_0 rfl rfl) ?_
        clear hf a; intro a hf
        refine td_p hf rfl rfl rfl rfl (fun w => y_move rfl rfl) ?_
        clear hf a; intro a hf
        refine td_p hf rfl rfl rfl rfl (fun w => y_mulw rfl rfl rfl) ?_
        clear hf a; intro a hf
        refine td_p hf rfl rfl rfl rfl (fun w => y_move rfl rfl) ?_
        clear hf a; intro a hf
        refine td_p hf rfl rfl rfl rfl (fun w => y_move rfl rfl) ?_
        clear hf a; intro a hf
        refine td_p hf rfl rfl rfl rfl (fun w => y_nilptr rfl rfl) ?_
        clear hf a; intro a hf
        refine td_p hf rfl rfl rfl rfl (fun w => y_fieldAddr fo_110_0 rfl rfl) ?_
        clear hf a; intro a hf
        refine td_y hf rfl rfl rfl rfl hS (fun w hm => y_load1 Tryd.isAgg24 rfl rfl (hm.blk_cell 0 rfl rfl)) ?_
        clear hf a; intro a hf
        refine td_y hf rfl rfl rfl rfl hS (fun w hm => y_load1 Tryd.isAgg24 rfl rfl (hm.blk_cell 0 rfl rfl)) ?_
        clear hf a; intro a hf
        refine td_p hf rfl rfl rfl rfl (fun w => y_len_slice st_24.und rfl rfl) ?_
        clear hf a; intro a hf
        obtain ⟨q0_2, hx0_4, hq⟩ := bnd hq
        obtain ⟨h0_7, rfl⟩ := remM_some.1 hx0_4
        refine td_p hf rfl rfl rfl rfl (fun w => y_rem rfl rfl rfl h0_7) ?_
        clear hf a; intro a hf
        obtain ⟨x0_2, hx0_5, hq⟩ := bnd hq
        obtain ⟨h0_8, hx0_6⟩ := getI_some.1 hx0_5
        obtain ⟨b0_2, o0_2, c0_3, he⟩ := idx_form h1p hx0_6
        simp only [Value.slice.injEq, Option.some.injEq] at he; obtain ⟨rfl, _, rfl⟩ := he
        refine td_p hf rfl rfl rfl rfl (fun w => y_indexAddr st_24 rfl rfl rfl h0_8 (idx_lt hx0_6)) ?_
        clear hf a; intro a hf
        refine td_y hf rfl rfl rfl rfl hS (fun w hm => y_load1 Tryd.isAgg5 rfl rfl ((flat_cells (cs := [(.int .u8 ((x0_2).toNat : Int))]) (hm.now h1p) hx0_6 rfl).cell (j := 0) rfl)) ?_
        clear hf a; intro a hf
        refine td_p hf rfl rfl rfl rfl (fun w => y_conv64 (b := x0_2) Tryd.underlying5 Tryd.underlying3 rfl rfl) ?_
        clear hf a; intro a hf
        have hu0_2 := UInt8.toNat_lt (x0_2)
        refine td_p hf rfl rfl rfl rfl (fun w => y_mulw rfl rfl rfl) ?_
        clear hf a; intro a hf
        refine td_y hf rfl rfl rfl rfl hS (fun w hm => y_load1 Tryd.isAgg24 rfl rfl (hm.blk_cell 0 rfl rfl)) ?_
        clear hf a; intro a hf
        refine td_y hf rfl rfl rfl rfl hS (fun w hm => y_load1 Tryd.isAgg24 rfl rfl (hm.blk_cell 0 rfl rfl)) ?_
        clear hf a; intro a hf
        refine td_p hf rfl rfl rfl rfl (fun w => y_len_slice st_24.und rfl rfl) ?_
        clear hf a; intro a hf
        obtain ⟨q0_3, hx0_7, hq⟩ := bnd hq
        obtain ⟨h0_9, rfl⟩ := remM_some.1 hx0_7
        refine td_p hf rfl rfl rfl rfl (fun w => y_rem rfl rfl rfl h0_9) ?_
        clear hf a; intro a hf
        obtain ⟨x0_3, hx0_8, hq⟩ := bnd hq
        obtain ⟨h0_10, hx0_9⟩ := getI_some.1 hx0_8
        refine td_p hf rfl rfl rfl rfl (fun w => y_indexAddr st_24 rfl rfl rfl h0_10 (idx_lt hx0_9)) ?_
        clear hf a; intro a hf
        refine td_y hf rfl rfl rfl rfl hS (fun w hm => y_load1 Tryd.isAgg5 rfl rfl ((flat_cells (cs := [(.int .u8 ((x0_3).toNat : Int))]) (hm.now h1p) hx0_9 rfl).cell (j := 0) rfl)) ?_
        clear hf a; intro a hf
        refine td_p hf rfl rfl rfl rfl (fun w => y_conv64 (b := x0_3) Tryd.underlying5 Tryd.underlying3 rfl rfl) ?_
        clear hf a; intro a hf
        have hu0_3 := UInt8.toNat_lt (x0_3)
        refine td_p hf rfl rfl rfl rfl (fun w => y_mulw rfl rfl rfl) ?_
        clear hf a; intro a hf
        refine td_p hf rfl rfl rfl rfl (fun w => y_addw rfl rfl rfl) ?_
        clear hf a; intro a hf
        refine td_p hf rfl rfl rfl rfl (fun w => y_addw rfl rfl rfl) ?_
        clear hf a; intro a hf
        refine te_one ?_
        refine td_ef hf rfl rfl rfl rfl (ef_y hf (y_load1 Tryd.isAgg24 rfl rfl (hm.blk_cell 0 rfl rfl))) ?_
        clear hf a; rintro _ _ a ⟨rfl, rfl⟩ hf
        refine ⟨fun _ => hS, ?_⟩
        refine td_p hf rfl rfl rfl rfl (fun w => y_len_slice st_24.und rfl rfl) ?_
        clear hf a; intro a hf
        obtain ⟨q0_4, hx0_10, hq⟩ := bnd hq
        obtain ⟨h0_11, rfl⟩ := quoM_some.1 hx0_10
        refine td_p hf rfl rfl rfl rfl (fun w => y_quo rfl rfl rfl h0_11) ?_
        clear hf a; intro a hf
        refine td_p hf rfl rfl rfl rfl (fun w => y_mulw rfl rfl rfl) ?_
        clear hf a; intro a hf
        refine td_p hf rfl rfl rfl rfl (fun w => y_addw rfl rfl rfl) ?_
        clear hf a; intro a hf
        refine td_p hf rfl rfl rfl rfl (fun w => y_assign rfl rfl) ?_
        clear hf a; intro a hf
        clear hS; refine td_end ?_
        refine x_then_n ?_
        refine wp_seq ?_
        refine wp_region_lit ?_
        refine st_y hf rfl rfl rfl (y_move rfl rfl) ?_
        clear hf a; intro a hf
        refine st_y hf rfl rfl rfl (y_move rfl rfl) ?_
        clear hf a; intro a hf
        refine st_y hf rfl rfl rfl (y_quo rfl rfl rfl (by decide)) ?_
        clear hf a; intro a hf
        refine st_y hf rfl rfl rfl (y_xork rfl rfl rfl) ?_
        clear hf a; intro a hf
        refine st_y hf rfl rfl rfl (y_assign rfl rfl) ?_
        clear hf a; intro a hf
        refine st_end ?_
        refine x_then_n ?_
        refine wp_seq ?_
        refine wp_region_lit ?_
        refine st_y hf rfl rfl rfl (y_move rfl rfl) ?_
        clear hf a; intro a hf
        refine st_y hf rfl rfl rfl (y_move rfl rfl) ?_
        clear hf a; intro a hf
        obtain ⟨q0_5, hx0_11, hq⟩ := bnd hq
        obtain ⟨h0_12, rfl⟩ := remM_some.1 hx0_11
        refine st_y hf rfl rfl rfl (y_rem rfl rfl rfl h0_12) ?_
        clear hf a; intro a hf
        refine st_y hf rfl rfl rfl (y_assign rfl rfl) ?_
        clear hf a; intro a hf
        refine st_end ?_
        refine x_then_n ?_
        refine wp_ret ?_
        obtain rfl := Option.some.inj hq
        refine ret_tmp hf Tryd.results68 rfl ?_
        exact ⟨rfl, hm.pick [0] (by decide) rfl⟩

theorem pspec_l30Rd__num_ok (w0 : World) (hz : Heap) (r_ : l30Rd) (bp0 : Nat) (v1p : Value) (h1p : GT.rep hz [v1p] r_.b) (list : List Int) (v2 : Value) (h2 : GT.rep hz [v2] list) (hm0 : Mem w0 hz w0 [blk bp0 [v1p, (.int .i64 (r_.p))] 110]) (r : Int × l30Rd) (hq : pspec_l30Rd__num r_ list = some r) :
    Con Tryd.prog 78 [(.pointer (some ⟨bp0, 0, none⟩)), v2] w0 (fun v w' => v = (.int .i64 (r.1)) ∧ Mem w0 hz w' [blk bp0 [v1p, (.int .i64 (r.2.p))] 110]) := by
  unfold pspec_l30Rd__num at hq
  refine con_body (l := [(0, (.pointer (some ⟨bp0, 0, none⟩))), (1, v2)]) Tryd.func78 rfl Tryd.ntmps78 (Args.get ⟨rfl, rfl, trivial⟩) rfl ?_
  intro a hf
  have hm := hm0
  refine wp_seq ?_
  refine wp_region_lit ?_
  refine st_y hf rfl rfl rfl (y_assign rfl rfl) ?_
  clear hf a; intro a hf
  refine st_end ?_
  refine x_then_n ?_
  refine wp_seq ?_
  refine wp_region_lit ?_
  refine st_y hf rfl rfl rfl (y_move rfl rfl) ?_
  clear hf a; intro a hf
  refine st_y hf rfl rfl rfl (y_move rfl rfl) ?_
  clear hf a; intro a hf
  refine st_y hf rfl rfl rfl (y_move rfl rfl) ?_
  clear hf a; intro a hf
  obtain ⟨p0_1, c0_1, he, hl0_1⟩ := ro_slice h2
  subst he
  refine st_y hf rfl rfl rfl (y_len_slice st_46.und rfl rfl) ?_
  clear hf a; intro a hf
  obtain ⟨r0_1, hx0_1, hq⟩ := bnd hq
  obtain ⟨hz0_1, hle, hm1, hsub, hk0_1⟩ := hm.take2 (L1 := [blk bp0 [v1p, (.int .i64 (r_.p))] 110]) (L2 := []) [0] [] (by decide) rfl rfl
  refine st_ef hf rfl rfl rfl (e_call hf rfl Tryd.call68 rfl (pspec_l30Rd__pick_ok _ hz0_1 r_ bp0 v1p (GT.mono hle h1p) (list.length : Int) hm1  _ hx0_1)) ?_
  clear hf a; rintro v0_1 w0_1 a ho0_1 hf
  obtain ⟨rfl, hB⟩ := ho0_1
  replace hm := hk0_1 _ _ hB; clear hB
  obtain ⟨x0_1, hx0_2, hq⟩ := bnd hq
  obtain ⟨h0_1, hx0_3⟩ := getI_some.1 hx0_2
  obtain ⟨b0_1, o0_1, c0_2, he⟩ := idx_form h2 hx0_3
  simp only [Value.slice.injEq, Option.some.injEq] at he; obtain ⟨rfl, _, rfl⟩ := he
  refine st_y hf rfl rfl rfl (y_indexAddr st_46 rfl rfl rfl h0_1 (idx_lt hx0_3)) ?_
  clear hf a; intro a hf
  refine st_y hf rfl rfl rfl (y_load1 Tryd.isAgg3 rfl rfl ((flat_cells (cs := [(.int .i64 (x0_1))]) (hm.now h2) hx0_3 rfl).cell (j := 0) rfl)) ?_
  clear hf a; intro a hf
  refine st_y hf rfl rfl rfl (y_assign rfl rfl) ?_
  clear hf a; intro a hf
  refine st_end ?_
  refine x_then_n ?_
  refine wp_ret ?_
  obtain rfl := Option.some.inj hq
  refine ret_tmp hf Tryd.results78 rfl ?_
  exact ⟨rfl, hm.pick [0] (by decide) rfl⟩

theorem spec_l1In_ok (w0 : World) (n_ : Int) (low : Int) (high : Int) (r : Bool) (hq : spec_l1In n_ low high = some r) :
    Con Tryd.prog 39 [(.int .i64 (n_)), (.int .i64 (low)), (.int .i64 (high))] w0 (fun v w' => v = (.bool (r)) ∧ Below w0.heap.size w0 w') := by
  unfold spec_l1In at hq
  refine con_body (l := [(0, (.int .i64 (n_))), (1, (.int .i64 (low))), (2, (.int .i64 (high)))]) Tryd.func39 rfl Tryd.ntmps39 (Args.get ⟨rfl, rfl, rfl, trivial⟩) rfl ?_
  intro a hf
  have hm := Mem.start w0
  refine wp_seq ?_
  refine wp_region_lit ?_
  refine st_y hf rfl rfl rfl (y_assign rfl rfl) ?_
  clear hf a; intro a hf
  refine st_end ?_
  refine x_then_n ?_
  refine wp_seq ?_
  obtain ⟨s0_1, hq0_1, hq⟩ := bnd hq
  refine code_cut (K := fun a w => Fr 15 [(6, (.bool (s0_1)))] a ∧ Mem w0 (hp w0) w []) ?_ ?_
  ·
    refine wp_region_lit ?_
    refine st_y hf rfl rfl rfl (y_move rfl rfl) ?_
    clear hf a; intro a hf
    refine st_y hf rfl rfl rfl (y_move rfl rfl) ?_
    clear hf a; intro a hf
    refine st_y hf rfl rfl rfl (y_geq rfl rfl rfl) ?_
    clear hf a; intro a hf
    refine st_y hf rfl rfl rfl (y_move rfl rfl) ?_
    clear hf a; intro a hf
    rcases bcases (decide (low ≤ n_)) with h1_1 | h1_1
    ·
      replace hq0_1 := (ite_t h1_1).symm.trans hq0_1
      have h1_2 := of_decide_eq_true h1_1
      refine st_yg hf rfl rfl (lk_b rfl h1_1) rfl rfl (y_move rfl rfl) ?_
      clear hf a; intro a hf
      refine st_yg hf rfl rfl (lk_b rfl h1_1) rfl rfl (y_move rfl rfl) ?_
      clear hf a; intro a hf
      refine st_yg hf rfl rfl (lk_b rfl h1_1) rfl rfl (y_leq rfl rfl rfl) ?_
      clear hf a; intro a hf
      refine st_y hf rfl rfl rfl (y_pick_t rfl (ev_b rfl h1_1) rfl) ?_
      clear hf a; intro a hf
      refine st_y hf rfl rfl rfl (y_assign rfl rfl) ?_
      clear hf a; intro a hf
      refine st_end ?_
      refine x_then_n ?_
      obtain rfl := Option.some.inj hq0_1
      exact ⟨hf.sub ⟨rfl, trivial⟩, hm.pick [] (by decide) rfl⟩
    ·
      replace hq0_1 := (ite_f h1_1).symm.trans hq0_1
      have h1_3 := of_decide_eq_false h1_1
      refine st_no hf rfl rfl (lk_b rfl h1_1) rfl rfl rfl ?_
      clear hf a; intro a hf
      refine st_no hf rfl rfl (lk_b rfl h1_1) rfl rfl rfl ?_
      clear hf a; intro a hf
      refine st_no hf rfl rfl (lk_b rfl h1_1) rfl rfl rfl ?_
      clear hf a; intro a hf
      refine st_y hf rfl rfl rfl (y_pick_f rfl (ev_b rfl h1_1) rfl) ?_
      clear hf a; intro a hf
      refine st_y hf rfl rfl rfl (y_assign rfl rfl) ?_
      clear hf a; intro a hf
      refine st_end ?_
      refine x_then_n ?_
      obtain rfl := Option.some.inj hq0_1
      exact ⟨hf.sub ⟨rfl, trivial⟩, hm.pick [] (by decide) rfl⟩
  ·
    clear hf hm
    rintro a w ⟨hf, hm⟩
    refine x_then_n ?_
    refine wp_ret ?_
    obtain rfl := Option.some.inj hq
    refine ret_tmp hf Tryd.results39 rfl ?_
    exact ⟨rfl, hm.below⟩

theorem spec_l22Word_ok (w0 : World) (op : Int) (r : Str × Str) (hq : spec_l22Word op = some r) :
    Con Tryd.prog 36 [(.int .i64 (op))] w0 (fun v w' => v = (.tuple #[(.string ⟨(r.1).b.toArray⟩), (.string ⟨(r.2).b.toArray⟩)]) ∧ Below w0.heap.size w0 w') := by
  unfold spec_l22Word at hq
  refine con_body (l := [(0, (.int .i64 (op)))]) Tryd.func36 rfl Tryd.ntmps36 (Args.get ⟨rfl, trivial⟩) rfl ?_
  intro a hf
  have hm := Mem.start w0
  refine wp_seq ?_
  refine wp_region_lit ?_
  refine st_y hf rfl rfl rfl (y_assign rfl rfl) ?_
  clear hf a; intro a hf
  refine st_y hf rfl rfl rfl (y_assign rfl rfl) ?_
  clear hf a; intro a hf
  refine st_end ?_
  refine x_then_n ?_
  refine wp_seq ?_
  refine wp_region_lit ?_
  refine st_ef hf rfl rfl rfl (e_build (vs := #[(0, (.string ⟨((mkS [])).b.toArray⟩)), (1, (.string ⟨((mkS [115, 101, 116])).b.toArray⟩)), (2, (.string ⟨((mkS [109, 111, 118, 101])).b.toArray⟩)), (3, (.string ⟨((mkS [97, 100, 100])).b.toArray⟩)), (4, (.string ⟨((mkS [115, 117, 98])).b.toArray⟩)), (5, (.string ⟨((mkS [109, 117, 108])).b.toArray⟩)), (6, (.string ⟨((mkS [100, 105, 118])).b.toArray⟩)), (7, (.string ⟨((mkS [114, 101, 109])).b.toArray⟩)), (8, (.string ⟨((mkS [108, 101, 115, 115])).b.toArray⟩)), (9, (.string ⟨((mkS [115, 97, 109, 101])).b.toArray⟩)), (10, (.string ⟨((mkS [110, 111, 116])).b.toArray⟩)), (11, (.string ⟨((mkS [108, 111, 97, 100])).b.toArray⟩)), (12, (.string ⟨((mkS [115, 116, 111, 114, 101])).b.toArray⟩)), (13, (.string ⟨((mkS [115, 97, 121])).b.toArray⟩)), (14, (.string ⟨((mkS [99, 97, 108, 108])).b.toArray⟩)), (15, (.string ⟨((mkS [107, 101, 101, 112])).b.toArray⟩)), (16, (.string ⟨((mkS [116, 97, 107, 101])).b.toArray⟩)), (17, (.string ⟨((mkS [103, 105, 118, 101])).b.toArray⟩)), (18, (.string ⟨((mkS [102, 101, 116, 99, 104])).b.toArray⟩)), (19, (.string ⟨((mkS [114, 101, 115, 117, 108, 116])).b.toArray⟩)), (20, (.string ⟨((mkS [106, 117, 109, 112])).b.toArray⟩)), (21, (.string ⟨((mkS [98, 114, 97, 110, 99, 104])).b.toArray⟩)), (22, (.string ⟨((mkS [98, 97, 99, 107])).b.toArray⟩))]) (cs := [(.string ⟨((mkS [])).b.toArray⟩), (.string ⟨((mkS [115, 101, 116])).b.toArray⟩), (.string ⟨((mkS [109, 111, 118, 101])).b.toArray⟩), (.string ⟨((mkS [97, 100, 100])).b.toArray⟩), (.string ⟨((mkS [115, 117, 98])).b.toArray⟩), (.string ⟨((mkS [109, 117, 108])).b.toArray⟩), (.string ⟨((mkS [100, 105, 118])).b.toArray⟩), (.string ⟨((mkS [114, 101, 109])).b.toArray⟩), (.string ⟨((mkS [108, 101, 115, 115])).b.toArray⟩), (.string ⟨((mkS [115, 97, 109, 101])).b.toArray⟩), (.string ⟨((mkS [110, 111, 116])).b.toArray⟩), (.string ⟨((mkS [108, 111, 97, 100])).b.toArray⟩), (.string ⟨((mkS [115, 116, 111, 114, 101])).b.toArray⟩), (.string ⟨((mkS [115, 97, 121])).b.toArray⟩), (.string ⟨((mkS [99, 97, 108, 108])).b.toArray⟩), (.string ⟨((mkS [107, 101, 101, 112])).b.toArray⟩), (.string ⟨((mkS [116, 97, 107, 101])).b.toArray⟩), (.string ⟨((mkS [103, 105, 118, 101])).b.toArray⟩), (.string ⟨((mkS [102, 101, 116, 99, 104])).b.toArray⟩), (.string ⟨((mkS [114, 101, 115, 117, 108, 116])).b.toArray⟩), (.string ⟨((mkS [106, 117, 109, 112])).b.toArray⟩), (.string ⟨((mkS [98, 114, 97, 110, 99, 104])).b.toArray⟩), (.string ⟨((mkS [98, 97, 99, 107])).b.toArray⟩)]) et_89 hf hm rfl rfl (by kernel_rfl) rfl rfl) ?_
  clear hf a; rintro _ w0_1 a ⟨b0_1, rfl, hm⟩ hf
  replace hm := hm.lit (xs := ([(mkS []), (mkS [115, 101, 116]), (mkS [109, 111, 118, 101]), (mkS [97, 100, 100]), (mkS [115, 117, 98]), (mkS [109, 117, 108]), (mkS [100, 105, 118]), (mkS [114, 101, 109]), (mkS [108, 101, 115, 115]), (mkS [115, 97, 109, 101]), (mkS [110, 111, 116]), (mkS [108, 111, 97, 100]), (mkS [115, 116, 111, 114, 101]), (mkS [115, 97, 121]), (mkS [99, 97, 108, 108]), (mkS [107, 101, 101, 112]), (mkS [116, 97, 107, 101]), (mkS [103, 105, 118, 101]), (mkS [102, 101, 116, 99, 104]), (mkS [114, 101, 115, 117, 108, 116]), (mkS [106, 117, 109, 112]), (mkS [98, 114, 97, 110, 99, 104]), (mkS [98, 97, 99, 107])] : List Str)) 0 rfl rfl rfl rfl
  refine st_y hf rfl rfl rfl (y_assign rfl rfl) ?_
  clear hf a; intro a hf
  refine st_end ?_
  refine x_then_n ?_
  refine wp_seq ?_
  refine wp_region_lit ?_
  refine st_ef hf rfl rfl rfl (e_build (vs := #[(0, (.string ⟨((mkS [])).b.toArray⟩)), (1, (.string ⟨((mkS [65, 78])).b.toArray⟩)), (2, (.string ⟨((mkS [65, 66])).b.toArray⟩)), (3, (.string ⟨((mkS [65, 66, 67])).b.toArray⟩)), (4, (.string ⟨((mkS [65, 66, 67])).b.toArray⟩)), (5, (.string ⟨((mkS [65, 66, 67])).b.toArray⟩)), (6, (.string ⟨((mkS [65, 66, 67])).b.toArray⟩)), (7, (.string ⟨((mkS [65, 66, 67])).b.toArray⟩)), (8, (.string ⟨((mkS [65, 66, 67])).b.toArray⟩)), (9, (.string ⟨((mkS [65, 66, 67])).b.toArray⟩)), (10, (.string ⟨((mkS [65, 66])).b.toArray⟩)), (11, (.string ⟨((mkS [65, 66])).b.toArray⟩)), (12, (.string ⟨((mkS [65, 66])).b.toArray⟩)), (13, (.string ⟨((mkS [65])).b.toArray⟩)), (14, (.string ⟨((mkS [78])).b.toArray⟩)), (15, (.string ⟨((mkS [65, 78])).b.toArray⟩)), (16, (.string ⟨((mkS [65, 78])).b.toArray⟩)), (17, (.string ⟨((mkS [65, 78])).b.toArray⟩)), (18, (.string ⟨((mkS [65, 78])).b.toArray⟩)), (19, (.string ⟨((mkS [65])).b.toArray⟩)), (20, (.string ⟨((mkS [78])).b.toArray⟩)), (21, (.string ⟨((mkS [65, 78])).b.toArray⟩)), (22, (.string ⟨((mkS [65])).b.toArray⟩))]) (cs := [(.string ⟨((mkS [])).b.toArray⟩), (.string ⟨((mkS [65, 78])).b.toArray⟩), (.string ⟨((mkS [65, 66])).b.toArray⟩), (.string ⟨((mkS [65, 66, 67])).b.toArray⟩), (.string ⟨((mkS [65, 66, 67])).b.toArray⟩), (.string ⟨((mkS [65, 66, 67])).b.toArray⟩), (.string ⟨((mkS [65, 66, 67])).b.toArray⟩), (.string ⟨((mkS [65, 66, 67])).b.toArray⟩), (.string ⟨((mkS [65, 66, 67])).b.toArray⟩), (.string ⟨((mkS [65, 66, 67])).b.toArray⟩), (.string ⟨((mkS [65, 66])).b.toArray⟩), (.string ⟨((mkS [65, 66])).b.toArray⟩), (.string ⟨((mkS [65, 66])).b.toArray⟩), (.string ⟨((mkS [65])).b.toArray⟩), (.string ⟨((mkS [78])).b.toArray⟩), (.string ⟨((mkS [65, 78])).b.toArray⟩), (.string ⟨((mkS [65, 78])).b.toArray⟩), (.string ⟨((mkS [65, 78])).b.toArray⟩), (.string ⟨((mkS [65, 78])).b.toArray⟩), (.string ⟨((mkS [65])).b.toArray⟩), (.string ⟨((mkS [78])).b.toArray⟩), (.string ⟨((mkS [65, 78])).b.toArray⟩), (.string ⟨((mkS [65])).b.toArray⟩)]) et_89 hf hm rfl rfl (by kernel_rfl) rfl rfl) ?_
  clear hf a; rintro _ w0_2 a ⟨b0_2, rfl, hm⟩ hf
  replace hm := hm.lit (xs := ([(mkS []), (mkS [65, 78]), (mkS [65, 66]), (mkS [65, 66, 67]), (mkS [65, 66, 67]), (mkS [65, 66, 67]), (mkS [65, 66, 67]), (mkS [65, 66, 67]), (mkS [65, 66, 67]), (mkS [65, 66, 67]), (mkS [65, 66]), (mkS [65, 66]), (mkS [65, 66]), (mkS [65]), (mkS [78]), (mkS [65, 78]), (mkS [65, 78]), (mkS [65, 78]), (mkS [65, 78]), (mkS [65]), (mkS [78]), (mkS [65, 78]), (mkS [65])] : List Str)) 0 rfl rfl rfl rfl
  refine st_y hf rfl rfl rfl (y_assign rfl rfl) ?_
  clear hf a; intro a hf
  refine st_end ?_
  refine x_then_n ?_
  refine wp_seq ?_
  refine wp_seq ?_
  refine wp_region_lit ?_
  refine st_y hf rfl rfl rfl (y_move rfl rfl) ?_
  clear hf a; intro a hf
  obtain ⟨r0_1, hx0_1, hq⟩ := bnd hq
  refine st_ef hf rfl rfl rfl (e_call hf rfl Tryd.call39 rfl (spec_l1In_ok _ op 1 22 _ hx0_1)) ?_
  clear hf a; rintro v0_1 w0_3 a ho0_1 hf
  obtain ⟨rfl, hB⟩ := ho0_1
  replace hm := hm.below' hB; clear hB
  refine st_y hf rfl rfl rfl (y_not rfl rfl) ?_
  clear hf a; intro a hf
  refine st_end ?_
  refine x_then_n ?_
  rcases bcases (!(r0_1)) with h0_1 | h0_1
  ·
    replace hq := (ite_t h0_1).symm.trans hq
    have h0_2 := bnot_t' h0_1
    refine cond_t hf rfl h0_1 ?_
    refine wp_seq ?_
    refine wp_region_lit ?_
    refine st_y hf rfl rfl rfl (y_assign rfl rfl) ?_
    clear hf a; intro a hf
    refine st_y hf rfl rfl rfl (y_assign rfl rfl) ?_
    clear hf a; intro a hf
    refine st_end ?_
    refine x_then_n ?_
    refine wp_ret ?_
    refine x_then_ret ?_
    obtain rfl := Option.some.inj hq
    refine ret_tmp2 hf Tryd.results36 rfl rfl ?_
    exact ⟨rfl, hm.below⟩
  ·
    replace hq := (ite_f h0_1).symm.trans hq
    have h0_3 := bnot_f' h0_1
    refine cond_f hf rfl h0_1 ?_
    refine wp_skip ?_
    refine x_then_n ?_
    refine wp_seq ?_
    refine wp_tree (.p 0 (.p 1 (.p 2 (.p 4 (.p 5 (.p 6 (.q 3 (.p 8 (.e 7 (.p 9 .fin) .nil))))))))) [7] [0, 1, 2, 4, 5, 6, 8, 9] (fun w => Mem w0 (hp w0) w [ow [(.slice (some ⟨b0_2, 0, none⟩) 23 23)] ([(mkS []), (mkS [65, 78]), (mkS [65, 66]), (mkS [65, 66, 67]), (mkS [65, 66, 67]), (mkS [65, 66, 67]), (mkS [65, 66, 67]), (mkS [65, 66, 67]), (mkS [65, 66, 67]), (mkS [65, 66, 67]), (mkS [65, 66]), (mkS [65, 66]), (mkS [65, 66]), (mkS [65]), (mkS [78]), (mkS [65, 78]), (mkS [65, 78]), (mkS [65, 78]), (mkS [65, 78]), (mkS [65]), (mkS [78]), (mkS [65, 78]), (mkS [65])] : List Str), ow [(.slice (some ⟨b0_1, 0, none⟩) 23 23)] ([(mkS []), (mkS [115, 101, 116]), (mkS [109, 111, 118, 101]), (mkS [97, 100, 100]), (mkS [115, 117, 98]), (mkS [109, 117, 108]), (mkS [100, 105, 118]), (mkS [114, 101, 109]), (mkS [108, 101, 115, 115]), (mkS [115, 97, 109, 101]), (mkS [110, 111, 116]), (mkS [108, 111, 97, 100]), (mkS [115, 116, 111, 114, 101]), (mkS [115, 97, 121]), (mkS [99, 97, 108, 108]), (mkS [107, 101, 101, 112]), (mkS [116, 97, 107, 101]), (mkS [103, 105, 118, 101]), (mkS [102, 101, 116, 99, 104]), (mkS [114, 101, 115, 117, 108, 116]), (mkS [106, 117, 109, 112]), (mkS [98, 114, 97, 110, 99, 104]), (mkS [98, 97, 99, 107])] : List Str)]) (by kernel_rfl) (by kernel_rfl) (fun _ _ _ h => h.2) ?_
    replace hm := hm.drew
    have hS : Mem w0 (hp w0) _ [ow [(.slice (some ⟨b0_2, 0, none⟩) 23 23)] ([(mkS []), (mkS [65, 78]), (mkS [65, 66]), (mkS [65, 66, 67]), (mkS [65, 66, 67]), (mkS [65, 66, 67]), (mkS [65, 66, 67]), (mkS [65, 66, 67]), (mkS [65, 66, 67]), (mkS [65, 66, 67]), (mkS [65, 66]), (mkS [65, 66]), (mkS [65, 66]), (mkS [65]), (mkS [78]), (mkS [65, 78]), (mkS [65, 78]), (mkS [65, 78]), (mkS [65, 78]), (mkS [65]), (mkS [78]), (mkS [65, 78]), (mkS [65])] : List Str), ow [(.slice (some ⟨b0_1, 0, none⟩) 23 23)] ([(mkS []), (mkS [115, 101, 116]), (mkS [109, 111, 118, 101]), (mkS [97, 100, 100]), (mkS [115, 117, 98]), (mkS [109, 117, 108]), (mkS [100, 105, 118]), (mkS [114, 101, 109]), (mkS [108, 101, 115, 115]), (mkS [115, 97, 109, 101]), (mkS [110, 111, 116]), (mkS [108, 111, 97, 100]), (mkS [115, 116, 111, 114, 101]), (mkS [115, 97, 121]), (mkS [99, 97, 108, 108]), (mkS [107, 101, 101, 112]), (mkS [116, 97, 107, 101]), (mkS [103, 105, 118, 101]), (mkS [102, 101, 116, 99, 104]), (mkS [114, 101, 115, 117, 108, 116]), (mkS [106, 117, 109, 112]), (mkS [98, 114, 97, 110, 99, 104]), (mkS [98, 97, 99, 107])] : List Str)] := hm.pick [0, 1] (by decide) rfl
    refine td_p hf rfl rfl rfl rfl (fun w => y_move rfl rfl) ?_
    clear hf a; intro a hf
    refine td_p hf rfl rfl rfl rfl (fun w => y_move rfl rfl) ?_
    clear hf a; intro a hf
    obtain ⟨x0_1, hx0_2, hq⟩ := bnd hq
    obtain ⟨h0_4, hx0_3⟩ := getI_some.1 hx0_2
    have hL0_1 := rep_slice_len (hm.ow_rep 1 rfl)
    refine td_p hf rfl rfl rfl rfl (fun w => y_indexAddr st_89 rfl rfl rfl h0_4 (idx_lt2 hx0_3 hL0_1)) ?_
    clear hf a; intro a hf
    refine td_p hf rfl rfl rfl rfl (fun w => y_move rfl rfl) ?_
    clear hf a; intro a hf
    refine td_p hf rfl rfl rfl rfl (fun w => y_move rfl rfl) ?_
    clear hf a; intro a hf
    obtain ⟨x0_2, hx0_4, hq⟩ := bnd hq
    obtain ⟨h0_5, hx0_5⟩ := getI_some.1 hx0_4
    have hL0_2 := rep_slice_len (hm.ow_rep 0 rfl)
    refine td_p hf rfl rfl rfl rfl (fun w => y_indexAddr st_89 rfl rfl rfl h0_5 (idx_lt2 hx0_5 hL0_2)) ?_
    clear hf a; intro a hf
    refine td_y hf rfl rfl rfl rfl hS (fun w hm => y_load1 Tryd.isAgg9 rfl rfl ((flat_cells (cs := [(.string ⟨(x0_1).b.toArray⟩)]) (hm.ow_rep 1 rfl) hx0_3 rfl).cell (j := 0) rfl)) ?_
    clear hf a; intro a hf
    refine td_p hf rfl rfl rfl rfl (fun w => y_assign rfl rfl) ?_
    clear hf a; intro a hf
    refine te_one ?_
    refine td_ef hf rfl rfl rfl rfl (ef_y hf (y_load1 Tryd.isAgg9 rfl rfl ((flat_cells (cs := [(.string ⟨(x0_2).b.toArray⟩)]) (hm.ow_rep 0 rfl) hx0_5 rfl).cell (j := 0) rfl))) ?_
    clear hf a; rintro _ _ a ⟨rfl, rfl⟩ hf
    refine ⟨fun _ => hS, ?_⟩
    refine td_p hf rfl rfl rfl rfl (fun w => y_assign rfl rfl) ?_
    clear hf a; intro a hf
    clear hS; refine td_end ?_
    refine x_then_n ?_
    refine wp_ret ?_
    obtain rfl := Option.some.inj hq
    refine ret_tmp2 hf Tryd.results36 rfl rfl ?_
    exact ⟨rfl, hm.below⟩

theorem spec_l22Some_ok (w0 : World) (hz : Heap) (r_ : l30Rd) (bp0 : Nat) (v1p : Value) (h1p : GT.rep hz [v1p] r_.b) (k_ : Int) (f : Mfn) (v2 : Value) (h2 : GT.rep hz [v2] f.ins) (n_ : Int) (hm0 : Mem w0 hz w0 [blk bp0 [v1p, (.int .i64 (r_.p))] 110]) (r : Mins × l30Rd) (hq : spec_l22Some r_ k_ f n_ = some r) :
    Con Tryd.prog 84 [(.pointer (some ⟨bp0, 0, none⟩)), (.int .i64 (k_)), (.agg #[(.int .i64 (f.params)), (.int .i64 (f.slots)), v2]), (.int .i64 (n_))] w0 (fun v w' => v = (.agg #[(.int .i64 (r.1.op)), (.int .i64 (r.1.a_)), (.int .i64 (r.1.b)), (.int .i64 (r.1.c)), (.int .i64 (r.1.n_))]) ∧ Mem w0 hz w' [blk bp0 [v1p, (.int .i64 (r.2.p))] 110]) := by
  unfold spec_l22Some at hq
  refine con_body (l := [(0, (.pointer (some ⟨bp0, 0, none⟩))), (1, (.int .i64 (k_))), (2, (.agg #[(.int .i64 (f.params)), (.int .i64 (f.slots)), v2])), (3, (.int .i64 (n_)))]) Tryd.func84 rfl Tryd.ntmps84 (Args.get ⟨rfl, rfl, rfl, rfl, trivial⟩) rfl ?_
  intro a hf
  have hm := hm0
  refine wp_seq ?_
  refine wp_region_lit ?_
  refine st_ef hf rfl rfl rfl (e_box hf hm rfl rfl rfl) ?_
  clear hf a; rintro _ w0_1 a ⟨b0_1, rfl, hm⟩ hf
  refine st_ef hf rfl rfl rfl (e_alloc hm Tryd.zeroValue27 rfl rfl) ?_
  clear hf a; rintro _ w0_2 a ⟨b0_2, rfl, hm⟩ hf
  refine st_end ?_
  refine x_then_n ?_
  refine wp_seq ?_
  refine wp_region_lit ?_
  refine st_y hf rfl rfl rfl (y_move rfl rfl) ?_
  clear hf a; intro a hf
  refine st_ef hf rfl rfl rfl (e_build (vs := #[(0, (.int .i64 (1))), (1, (.int .i64 (1))), (2, (.int .i64 (2))), (3, (.int .i64 (3))), (4, (.int .i64 (4))), (5, (.int .i64 (5))), (6, (.int .i64 (8))), (7, (.int .i64 (9))), (8, (.int .i64 (10))), (9, (.int .i64 (13))), (10, (.int .i64 (21))), (11, (.int .i64 (6))), (12, (.int .i64 (7))), (13, (.int .i64 (11))), (14, (.int .i64 (12))), (15, (.int .i64 (14))), (16, (.int .i64 (15))), (17, (.int .i64 (16))), (18, (.int .i64 (17))), (19, (.int .i64 (18))), (20, (.int .i64 (19))), (21, (.int .i64 (20))), (22, (.int .i64 (22)))]) (cs := [(.int .i64 (1)), (.int .i64 (1)), (.int .i64 (2)), (.int .i64 (3)), (.int .i64 (4)), (.int .i64 (5)), (.int .i64 (8)), (.int .i64 (9)), (.int .i64 (10)), (.int .i64 (13)), (.int .i64 (21)), (.int .i64 (6)), (.int .i64 (7)), (.int .i64 (11)), (.int .i64 (12)), (.int .i64 (14)), (.int .i64 (15)), (.int .i64 (16)), (.int .i64 (17)), (.int .i64 (18)), (.int .i64 (19)), (.int .i64 (20)), (.int .i64 (22))]) et_46 hf hm rfl rfl (by kernel_rfl) rfl rfl) ?_
  clear hf a; rintro _ w0_3 a ⟨b0_3, rfl, hm⟩ hf
  replace hm := hm.lit (xs := ([1, 1, 2, 3, 4, 5, 8, 9, 10, 13, 21, 6, 7, 11, 12, 14, 15, 16, 17, 18, 19, 20, 22] : List Int)) 0 rfl rfl rfl rfl
  obtain ⟨r0_1, hx0_1, hq⟩ := bnd hq
  obtain ⟨hz0_1, hle, hm1, hsub, hk0_1⟩ := hm.take2 (L1 := [blk bp0 [v1p, (.int .i64 (r_.p))] 110]) (L2 := [ow [(.slice (some ⟨b0_3, 0, none⟩) 23 23)] ([1, 1, 2, 3, 4, 5, 8, 9, 10, 13, 21, 6, 7, 11, 12, 14, 15, 16, 17, 18, 19, 20, 22] : List Int), blk b0_2 [(.int .i64 (0)), (.int .i64 (0)), (.int .i64 (0)), (.int .i64 (0)), (.int .i64 (0))] 27, blk b0_1 [(.int .i64 (f.params)), (.int .i64 (f.slots)), v2] 35]) [3] [0, 1, 2] (by decide) rfl rfl
  refine st_ef hf rfl rfl rfl (e_call hf rfl Tryd.call78 rfl (pspec_l30Rd__num_ok _ hz0_1 r_ bp0 v1p (GT.mono hle h1p) ([1, 1, 2, 3, 4, 5, 8, 9, 10, 13, 21, 6, 7, 11, 12, 14, 15, 16, 17, 18, 19, 20, 22] : List Int) (.slice (some ⟨b0_3, 0, none⟩) 23 23) (fz_ow (hsub 0 _ rfl)) hm1  _ hx0_1)) ?_
  clear hf a; rintro v0_1 w0_4 a ho0_1 hf
  obtain ⟨rfl, hB⟩ := ho0_1
  replace hm := hk0_1 _ _ hB; clear hB
  refine st_y hf rfl rfl rfl (y_build (vs := [(0, (.int .i64 (r0_1.1)))]) (cs := #[(.int .i64 (r0_1.1)), (.int .i64 (0)), (.int .i64 (0)), (.int .i64 (0)), (.int .i64 (0))]) rfl rfl (by kernel_rfl)) ?_
  clear hf a; intro a hf
  refine st_ef hf rfl rfl rfl (e_alloc hm Tryd.zeroValue27 rfl rfl) ?_
  clear hf a; rintro _ w0_5 a ⟨b0_4, rfl, hm⟩ hf
  refine st_ef0 hf rfl rfl (e_storeN 0 hf hm rfl Tryd.sizeOf27 rfl rfl rfl (one_cons rfl (one_cons rfl (one_cons rfl (one_cons rfl (one_cons rfl one_nil))))) rfl rfl) ?_
  clear hf a; rintro _ w0_6 a hm hf
  refine st_end ?_
  refine x_then_n ?_
  refine wp_seq ?_
  refine wp_region_lit ?_
  refine st_y hf rfl rfl rfl (y_fieldAddr fo_27_0 rfl rfl) ?_
  clear hf a; intro a hf
  refine st_y hf rfl rfl rfl (y_load1 Tryd.isAgg3 rfl rfl (hm.blk_cell 0 rfl rfl)) ?_
  clear hf a; intro a hf
  obtain ⟨r0_2, hx0_2, hq⟩ := bnd hq
  refine st_ef hf rfl rfl rfl (e_call hf rfl Tryd.call36 rfl (spec_l22Word_ok _ r0_1.1 _ hx0_2)) ?_
  clear hf a; rintro v0_2 w0_7 a ho0_2 hf
  obtain ⟨rfl, hB⟩ := ho0_2
  replace hm := hm.below' hB; clear hB
  refine st_y hf rfl rfl rfl (y_move rfl rfl) ?_
  clear hf a; intro a hf
  refine st_y hf rfl rfl rfl (y_extract rfl rfl rfl) ?_
  clear hf a; intro a hf
  refine st_y hf rfl rfl rfl (y_extract rfl rfl rfl) ?_
  clear hf a; intro a hf
  refine st_y hf rfl rfl rfl (y_assign rfl rfl) ?_
  clear hf a; intro a hf
  refine st_y hf rfl rfl rfl (y_assign rfl rfl) ?_
  clear hf a; intro a hf
  refine st_end ?_
  refine x_then_n ?_
  refine wp_seq ?_
  refine wp_seq ?_
  refine wp_region_lit ?_
  refine st_y hf rfl rfl rfl (y_assign rfl rfl) ?_
  clear hf a; intro a hf
  refine st_end ?_
  refine x_then_n ?_
  refine wp_block ?_
  obtain ⟨r0_3, hl0_1, hq⟩ := bnd hq
  refine wp_forN _ (fun i1_1 xs1_1 a w => Fr 109 [(0, (.pointer (some ⟨bp0, 0, none⟩))), (1, (.int .i64 (k_))), (3, (.int .i64 (n_))), (6, (.pointer (some ⟨b0_1, 0, none⟩))), (8, (.pointer (some ⟨b0_2, 0, none⟩))), (9, (.pointer (some ⟨b0_4, 0, none⟩))), (11, (.string ⟨(r0_2.2).b.toArray⟩)), (12, (.int .i64 (i1_1)))] a ∧ Mem w0 hz w [blk bp0 [v1p, (.int .i64 (xs1_1.1))] 110, blk b0_1 [(.int .i64 (f.params)), (.int .i64 (f.slots)), v2] 35, blk b0_2 [(.int .i64 (0)), (.int .i64 (0)), (.int .i64 (0)), (.int .i64 (0)), (.int .i64 (0))] 27, blk b0_4 [(.int .i64 (r0_1.1)), (.int .i64 (xs1_1.2.1)), (.int .i64 (xs1_1.2.2.1)), (.int .i64 (xs1_1.2.2.2)), (.int .i64 (0))] 27]) (0) (((r0_2.2).b.length : Int)) hl0_1 ?_ ?_ ?_
  ·
    exact ⟨hf.sub ⟨rfl, rfl, rfl, rfl, rfl, rfl, rfl, rfl, trivial⟩, hm.pick [1, 4, 3, 0] (by decide) rfl⟩
  ·
    clear hf hm
    rintro i1_1 xs1_1 a w ⟨hf, hm⟩ hi1_1 hi1_2 q0_1 hb0_1 ho0_3
    refine wp_seq ?_
    refine wp_seq ?_
    refine wp_region_lit ?_
    refine st_y hf rfl rfl rfl (y_move rfl rfl) ?_
    clear hf a; intro a hf
    refine st_y hf rfl rfl rfl (y_move rfl rfl) ?_
    clear hf a; intro a hf
    refine st_y hf rfl rfl rfl (y_len_str (p := r0_2.2) Tryd.underlying9 rfl rfl) ?_
    clear hf a; intro a hf
    have hl1_1 := (r0_2.2).h
    refine st_y hf rfl rfl rfl (y_lss rfl rfl rfl) ?_
    clear hf a; intro a hf
    refine st_end ?_
    refine x_then_n ?_
    refine cond_t hf rfl (decide_eq_true (by omega)) ?_
    refine wp_skip ?_
    refine x_then_n ?_
    refine wp_seq ?_
    refine wp_block ?_
    refine wp_seq ?_
    refine wp_region_lit ?_
    refine st_y hf rfl rfl rfl (y_move rfl rfl) ?_
    clear hf a; intro a hf
    refine st_y hf rfl rfl rfl (y_move rfl rfl) ?_
    clear hf a; intro a hf
    refine st_ef hf rfl rfl rfl (e_build (vs := #[(0, (.int .i64 (4))), (1, (.int .i64 (8))), (2, (.int .i64 (2)))]) (cs := [(.int .i64 (4)), (.int .i64 (8)), (.int .i64 (2))]) et_46 hf hm rfl rfl (by kernel_rfl) rfl rfl) ?_
    clear hf a; rintro _ w1_1 a ⟨b1_1, rfl, hm⟩ hf
    replace hm := hm.lit (xs := ([4, 8, 2] : List Int)) 0 rfl rfl rfl rfl
    obtain ⟨r1_1, hx1_1, hb0_1⟩ := bnd hb0_1
    obtain ⟨hz1_1, hle, hm1, hsub, hk1_1⟩ := hm.take2 (L1 := [blk bp0 [v1p, (.int .i64 (xs1_1.1))] 110]) (L2 := [ow [(.slice (some ⟨b1_1, 0, none⟩) 3 3)] ([4, 8, 2] : List Int), blk b0_1 [(.int .i64 (f.params)), (.int .i64 (f.slots)), v2] 35, blk b0_2 [(.int .i64 (0)), (.int .i64 (0)), (.int .i64 (0)), (.int .i64 (0)), (.int .i64 (0))] 27, blk b0_4 [(.int .i64 (r0_1.1)), (.int .i64 (xs1_1.2.1)), (.int .i64 (xs1_1.2.2.1)), (.int .i64 (xs1_1.2.2.2)), (.int .i64 (0))] 27]) [1] [0, 2, 3, 4] (by decide) rfl rfl
    refine st_ef hf rfl rfl rfl (e_call hf rfl Tryd.call78 rfl (pspec_l30Rd__num_ok _ hz1_1 (⟨r_.b, xs1_1.1⟩ : l30Rd) bp0 v1p (GT.mono hle h1p) ([4, 8, 2] : List Int) (.slice (some ⟨b1_1, 0, none⟩) 3 3) (fz_ow (hsub 0 _ rfl)) hm1  _ hx1_1)) ?_
    clear hf a; rintro v1_1 w1_2 a ho1_1 hf
    obtain ⟨rfl, hB⟩ := ho1_1
    replace hm := hk1_1 _ _ hB; clear hB
    obtain ⟨r1_2, hx1_2, hb0_1⟩ := bnd hb0_1
    obtain ⟨hz1_3, hle, hm1, hsub, hk1_2⟩ := hm.take2 (L1 := [blk bp0 [v1p, (.int .i64 (r1_1.2.p))] 110]) (L2 := [ow [(.slice (some ⟨b1_1, 0, none⟩) 3 3)] ([4, 8, 2] : List Int), blk b0_1 [(.int .i64 (f.params)), (.int .i64 (f.slots)), v2] 35, blk b0_2 [(.int .i64 (0)), (.int .i64 (0)), (.int .i64 (0)), (.int .i64 (0)), (.int .i64 (0))] 27, blk b0_4 [(.int .i64 (r0_1.1)), (.int .i64 (xs1_1.2.1)), (.int .i64 (xs1_1.2.2.1)), (.int .i64 (xs1_1.2.2.2)), (.int .i64 (0))] 27]) [0] [1, 2, 3, 4] (by decide) rfl rfl
    refine st_ef hf rfl rfl rfl (e_call hf rfl Tryd.call68 rfl (pspec_l30Rd__pick_ok _ hz1_3 (⟨r_.b, r1_1.2.p⟩ : l30Rd) bp0 v1p (GT.mono hle h1p) r1_1.1 hm1  _ hx1_2)) ?_
    clear hf a; rintro v1_2 w1_3 a ho1_2 hf
    obtain ⟨rfl, hB⟩ := ho1_2
    replace hm := hk1_2 _ _ hB; clear hB
    refine st_y hf rfl rfl rfl (y_assign rfl rfl) ?_
    clear hf a; intro a hf
    refine st_end ?_
    refine x_then_n ?_
    refine wp_seq ?_
    refine wp_region_lit ?_
    refine st_y hf rfl rfl rfl (y_move rfl rfl) ?_
    clear hf a; intro a hf
    refine st_y hf rfl rfl rfl (y_move rfl rfl) ?_
    clear hf a; intro a hf
    obtain ⟨x1_1, hx1_3, hb0_1⟩ := bnd hb0_1
    obtain ⟨h1_1, hx1_4⟩ := getI_some.1 hx1_3
    refine st_y hf rfl rfl rfl (y_idx_str (p := r0_2.2) Tryd.underlying9 rfl rfl rfl h1_1 hx1_4) ?_
    clear hf a; intro a hf
    refine st_end ?_
    refine x_then_n ?_
    obtain ⟨s1_1, hq1_1, hb0_1⟩ := bnd hb0_1
    refine code_cut (K := fun a w => Fr 109 [(0, (.pointer (some ⟨bp0, 0, none⟩))), (1, (.int .i64 (k_))), (3, (.int .i64 (n_))), (6, (.pointer (some ⟨b0_1, 0, none⟩))), (8, (.pointer (some ⟨b0_2, 0, none⟩))), (9, (.pointer (some ⟨b0_4, 0, none⟩))), (11, (.string ⟨(r0_2.2).b.toArray⟩)), (12, (.int .i64 (i1_1)))] a ∧ Mem w0 hz w [blk bp0 [v1p, (.int .i64 (r1_2.2.p))] 110, blk b0_1 [(.int .i64 (f.params)), (.int .i64 (f.slots)), v2] 35, blk b0_2 [(.int .i64 (0)), (.int .i64 (0)), (.int .i64 (0)), (.int .i64 (0)), (.int .i64 (0))] 27, blk b0_4 [(.int .i64 (r0_1.1)), (.int .i64 (s1_1.1)), (.int .i64 (s1_1.2.1)), (.int .i64 (s1_1.2.2)), (.int .i64 (0))] 27]) ?_ ?_
    ·
      refine wp_block ?_
      refine wp_seq ?_
      refine wp_region_lit ?_
      refine st_y hf rfl rfl rfl (y_eql8 (b := x1_1) (c := (65 : UInt8)) rfl rfl rfl) ?_
      clear hf a; intro a hf
      refine st_y hf rfl rfl rfl (y_assign rfl rfl) ?_
      clear hf a; intro a hf
      refine st_end ?_
      refine x_then_n ?_
      obtain ⟨s2_1, hq2_1, hq1_1⟩ := bnd hq1_1
      refine code_cut (K := fun a w => Fr 109 [(0, (.pointer (some ⟨bp0, 0, none⟩))), (1, (.int .i64 (k_))), (3, (.int .i64 (n_))), (6, (.pointer (some ⟨b0_1, 0, none⟩))), (8, (.pointer (some ⟨b0_2, 0, none⟩))), (9, (.pointer (some ⟨b0_4, 0, none⟩))), (11, (.string ⟨(r0_2.2).b.toArray⟩)), (12, (.int .i64 (i1_1)))] a ∧ Mem w0 hz w [blk bp0 [v1p, (.int .i64 (r1_2.2.p))] 110, blk b0_1 [(.int .i64 (f.params)), (.int .i64 (f.slots)), v2] 35, blk b0_2 [(.int .i64 (0)), (.int .i64 (0)), (.int .i64 (0)), (.int .i64 (0)), (.int .i64 (0))] 27, blk b0_4 [(.int .i64 (r0_1.1)), (.int .i64 (s2_1.1)), (.int .i64 (s2_1.2.1)), (.int .i64 (s2_1.2.2)), (.int .i64 (0))] 27]) ?_ ?_
      ·
        rcases bcases (decide (x1_1 = (65 : UInt8))) with h3_1 | h3_1
        ·
          replace hq2_1 := (ite_t h3_1).symm.trans hq2_1
          have h3_2 := of_decide_eq_true h3_1
          refine cond_t hf rfl h3_1 ?_
          refine wp_region_lit ?_
          refine st_y hf rfl rfl rfl (y_move rfl rfl) ?_
          clear hf a; intro a hf
          refine st_y hf rfl rfl rfl (y_fieldAddr fo_27_1 rfl rfl) ?_
          clear hf a; intro a hf
          refine st_ef0 hf rfl rfl (e_store1 4 hf hm rfl Tryd.sizeOf3 rfl rfl rfl rfl rfl) ?_
          clear hf a; rintro _ w3_1 a hm hf
          refine st_end ?_
          refine x_then_n ?_
          obtain rfl := Option.some.inj hq2_1
          exact ⟨hf.sub ⟨rfl, rfl, rfl, rfl, rfl, rfl, rfl, rfl, trivial⟩, hm.pick [0, 2, 3, 4] (by decide) rfl⟩
        ·
          replace hq2_1 := (ite_f h3_1).symm.trans hq2_1
          have h3_3 := of_decide_eq_false h3_1
          refine cond_f hf rfl h3_1 ?_
          refine wp_seq ?_
          refine wp_region_lit ?_
          refine st_y hf rfl rfl rfl (y_eql8 (b := x1_1) (c := (66 : UInt8)) rfl rfl rfl) ?_
          clear hf a; intro a hf
          refine st_y hf rfl rfl rfl (y_assign rfl rfl) ?_
          clear hf a; intro a hf
          refine st_end ?_
          refine x_then_n ?_
          obtain ⟨s3_1, hq3_1, hq2_1⟩ := bnd hq2_1
          refine code_cut (K := fun a w => Fr 109 [(0, (.pointer (some ⟨bp0, 0, none⟩))), (1, (.int .i64 (k_))), (3, (.int .i64 (n_))), (6, (.pointer (some ⟨b0_1, 0, none⟩))), (8, (.pointer (some ⟨b0_2, 0, none⟩))), (9, (.pointer (some ⟨b0_4, 0, none⟩))), (11, (.string ⟨(r0_2.2).b.toArray⟩)), (12, (.int .i64 (i1_1)))] a ∧ Mem w0 hz w [blk bp0 [v1p, (.int .i64 (r1_2.2.p))] 110, blk b0_1 [(.int .i64 (f.params)), (.int .i64 (f.slots)), v2] 35, blk b0_2 [(.int .i64 (0)), (.int .i64 (0)), (.int .i64 (0)), (.int .i64 (0)), (.int .i64 (0))] 27, blk b0_4 [(.int .i64 (r0_1.1)), (.int .i64 (xs1_1.2.1)), (.int .i64 (s3_1.1)), (.int .i64 (s3_1.2)), (.int .i64 (0))] 27]) ?_ ?_
          ·
            rcases bcases (decide (x1_1 = (66 : UInt8))) with h4_1 | h4_1
            ·
              replace hq3_1 := (ite_t h4_1).symm.trans hq3_1
              have h4_2 := of_decide_eq_true h4_1
              refine cond_t hf rfl h4_1 ?_
              refine wp_region_lit ?_
              refine st_y hf rfl rfl rfl (y_move rfl rfl) ?_
              clear hf a; intro a hf
              refine st_y hf rfl rfl rfl (y_fieldAddr fo_27_2 rfl rfl) ?_
              clear hf a; intro a hf
              refine st_ef0 hf rfl rfl (e_store1 4 hf hm rfl Tryd.sizeOf3 rfl rfl rfl rfl rfl) ?_
              clear hf a; rintro _ w4_1 a hm hf
              refine st_end ?_
              refine x_then_n ?_
              obtain rfl := Option.some.inj hq3_1
              exact ⟨hf.sub ⟨rfl, rfl, rfl, rfl, rfl, rfl, rfl, rfl, trivial⟩, hm.pick [0, 2, 3, 4] (by decide) rfl⟩
            ·
              replace hq3_1 := (ite_f h4_1).symm.trans hq3_1
              have h4_3 := of_decide_eq_false h4_1
              refine cond_f hf rfl h4_1 ?_
              refine wp_seq ?_
              refine wp_region_lit ?_
              refine st_y hf rfl rfl rfl (y_eql8 (b := x1_1) (c := (67 : UInt8)) rfl rfl rfl) ?_
              clear hf a; intro a hf
              refine st_y hf rfl rfl rfl (y_assign rfl rfl) ?_
              clear hf a; intro a hf
              refine st_end ?_
              refine x_then_n ?_
              obtain ⟨s4_1, hq4_1, hq3_1⟩ := bnd hq3_1
              refine code_cut (K := fun a w => Fr 109 [(0, (.pointer (some ⟨bp0, 0, none⟩))), (1, (.int .i64 (k_))), (3, (.int .i64 (n_))), (6, (.pointer (some ⟨b0_1, 0, none⟩))), (8, (.pointer (some ⟨b0_2, 0, none⟩))), (9, (.pointer (some ⟨b0_4, 0, none⟩))), (11, (.string ⟨(r0_2.2).b.toArray⟩)), (12, (.int .i64 (i1_1)))] a ∧ Mem w0 hz w [blk bp0 [v1p, (.int .i64 (r1_2.2.p))] 110, blk b0_1 [(.int .i64 (f.params)), (.int .i64 (f.slots)), v2] 35, blk b0_2 [(.int .i64 (0)), (.int .i64 (0)), (.int .i64 (0)), (.int .i64 (0)), (.int .i64 (0))] 27, blk b0_4 [(.int .i64 (r0_1.1)), (.int .i64 (xs1_1.2.1)), (.int .i64 (xs1_1.2.2.1)), (.int .i64 (s4_1)), (.int .i64 (0))] 27]) ?_ ?_
              ·
                rcases bcases (decide (x1_1 = (67 : UInt8))) with h5_1 | h5_1
                ·
                  replace hq4_1 := (ite_t h5_1).symm.trans hq4_1
                  have h5_2 := of_decide_eq_true h5_1
                  refine cond_t hf rfl h5_1 ?_
                  refine wp_region_lit ?_
                  refine st_y hf rfl rfl rfl (y_move rfl rfl) ?_
                  clear hf a; intro a hf
                  refine st_y hf rfl rfl rfl (y_fieldAddr fo_27_3 rfl rfl) ?_
                  clear hf a; intro a hf
                  refine st_ef0 hf rfl rfl (e_store1 4 hf hm rfl Tryd.sizeOf3 rfl rfl rfl rfl rfl) ?_
                  clear hf a; rintro _ w5_1 a hm hf
                  refine st_end ?_
                  refine x_then_n ?_
                  obtain rfl := Option.some.inj hq4_1
                  exact ⟨hf.sub ⟨rfl, rfl, rfl, rfl, rfl, rfl, rfl, rfl, trivial⟩, hm.pick [0, 2, 3, 4] (by decide) rfl⟩
                ·
                  replace hq4_1 := (ite_f h5_1).symm.trans hq4_1
                  have h5_3 := of_decide_eq_false h5_1
                  refine cond_f hf rfl h5_1 ?_
                  refine wp_skip ?_
                  refine x_then_n ?_
                  obtain rfl := Option.some.inj hq4_1
                  exact ⟨hf.sub ⟨rfl, rfl, rfl, rfl, rfl, rfl, rfl, rfl, trivial⟩, hm.pick [0, 2, 3, 4] (by decide) rfl⟩
              ·
                clear hf hm
                rintro a w ⟨hf, hm⟩
                refine x_then_n ?_
                obtain rfl := Option.some.inj hq3_1
                exact ⟨hf.sub ⟨rfl, rfl, rfl, rfl, rfl, rfl, rfl, rfl, trivial⟩, hm.pick [0, 1, 2, 3] (by decide) rfl⟩
          ·
            clear hf hm
            rintro a w ⟨hf, hm⟩
            refine x_then_n ?_
            obtain rfl := Option.some.inj hq2_1
            exact ⟨hf.sub ⟨rfl, rfl, rfl, rfl, rfl, rfl, rfl, rfl, trivial⟩, hm.pick [0, 1, 2, 3] (by decide) rfl⟩
      ·
        clear hf hm
        rintro a w ⟨hf, hm⟩
        refine x_blk_n ?_
        refine x_then_n ?_
        obtain rfl := Option.some.inj hq1_1
        exact ⟨hf.sub ⟨rfl, rfl, rfl, rfl, rfl, rfl, rfl, rfl, trivial⟩, hm.pick [0, 1, 2, 3] (by decide) rfl⟩
    ·
      clear hf hm
      rintro a w ⟨hf, hm⟩
      refine x_blk_n ?_
      refine x_then_n ?_
      refine wp_region_lit ?_
      refine st_y hf rfl rfl rfl (y_move rfl rfl) ?_
      clear hf a; intro a hf
      refine st_y hf rfl rfl rfl (y_add64 rfl rfl rfl (by omega) (by omega)) ?_
      clear hf a; intro a hf
      refine st_y hf rfl rfl rfl (y_assign rfl rfl) ?_
      clear hf a; intro a hf
      refine st_end ?_
      refine x_then_n ?_
      obtain rfl := Option.some.inj hb0_1
      exact ⟨_, rfl, hf.sub ⟨rfl, rfl, rfl, rfl, rfl, rfl, rfl, rfl, trivial⟩, hm.pick [0, 1, 2, 3] (by decide) rfl⟩
  ·
    clear hf hm
    rintro i0_1 xs0_1 a w ⟨hf, hm⟩ hi0_1 hi0_2 rfl
    replace hq := sum_l hq
    refine wp_seq ?_
    refine wp_seq ?_
    refine wp_region_lit ?_
    refine st_y hf rfl rfl rfl (y_move rfl rfl) ?_
    clear hf a; intro a hf
    refine st_y hf rfl rfl rfl (y_move rfl rfl) ?_
    clear hf a; intro a hf
    refine st_y hf rfl rfl rfl (y_len_str (p := r0_2.2) Tryd.underlying9 rfl rfl) ?_
    clear hf a; intro a hf
    have hl0_2 := (r0_2.2).h
    refine st_y hf rfl rfl rfl (y_lss rfl rfl rfl) ?_
    clear hf a; intro a hf
    refine st_end ?_
    refine x_then_n ?_
    refine cond_f hf rfl (decide_eq_false (by omega)) ?_
    refine wp_exit ?_
    refine x_then_exit ?_
    refine x_then_exit ?_
    refine x_blk_hit ?_
    refine x_then_n ?_
    refine wp_seq ?_
    refine wp_region_lit ?_
    refine st_y hf rfl rfl rfl (y_assign rfl rfl) ?_
    clear hf a; intro a hf
    refine st_end ?_
    refine x_then_n ?_
    refine wp_seq ?_
    refine wp_seq ?_
    refine wp_region_lit ?_
    refine st_y hf rfl rfl rfl (y_fieldAddr fo_27_0 rfl rfl) ?_
    clear hf a; intro a hf
    refine st_y hf rfl rfl rfl (y_load1 Tryd.isAgg3 rfl rfl (hm.blk_cell 3 rfl rfl)) ?_
    clear hf a; intro a hf
    refine st_end ?_
    refine x_then_n ?_
    obtain ⟨s0_1, hq0_1, hq⟩ := bnd hq
    refine code_cut (K := fun a w => Fr 109 [(0, (.pointer (some ⟨bp0, 0, none⟩))), (8, (.pointer (some ⟨b0_2, 0, none⟩))), (9, (.pointer (some ⟨b0_4, 0, none⟩))), (14, (.int .i64 (s0_1.2.2)))] a ∧ Mem w0 hz w [blk bp0 [v1p, (.int .i64 (s0_1.1))] 110, blk b0_2 [(.int .i64 (0)), (.int .i64 (0)), (.int .i64 (0)), (.int .i64 (0)), (.int .i64 (0))] 27, blk b0_4 [(.int .i64 (r0_1.1)), (.int .i64 (xs0_1.2.1)), (.int .i64 (xs0_1.2.2.1)), (.int .i64 (xs0_1.2.2.2)), (.int .i64 (s0_1.2.1))] 27]) ?_ ?_
    ·
      refine wp_block ?_
      refine wp_seq ?_
      refine wp_region_lit ?_
      refine st_y hf rfl rfl rfl (y_eql rfl rfl rfl) ?_
      clear hf a; intro a hf
      refine st_y hf rfl rfl rfl (y_assign rfl rfl) ?_
      clear hf a; intro a hf
      refine st_end ?_
      refine x_then_n ?_
      obtain ⟨s1_2, hq1_2, hq0_1⟩ := bnd hq0_1
      refine code_cut (K := fun a w => Fr 109 [(0, (.pointer (some ⟨bp0, 0, none⟩))), (8, (.pointer (some ⟨b0_2, 0, none⟩))), (9, (.pointer (some ⟨b0_4, 0, none⟩))), (14, (.int .i64 (s1_2.2.2)))] a ∧ Mem w0 hz w [blk bp0 [v1p, (.int .i64 (s1_2.1))] 110, blk b0_2 [(.int .i64 (0)), (.int .i64 (0)), (.int .i64 (0)), (.int .i64 (0)), (.int .i64 (0))] 27, blk b0_4 [(.int .i64 (r0_1.1)), (.int .i64 (xs0_1.2.1)), (.int .i64 (xs0_1.2.2.1)), (.int .i64 (xs0_1.2.2.2)), (.int .i64 (s1_2.2.1))] 27]) ?_ ?_
      ·
        rcases bcases (decide (r0_1.1 = 1)) with h2_1 | h2_1
        ·
          replace hq1_2 := (ite_t h2_1).symm.trans hq1_2
          have h2_2 := of_decide_eq_true h2_1
          refine cond_t hf rfl h2_1 ?_
          refine wp_region_lit ?_
          refine st_y hf rfl rfl rfl (y_move rfl rfl) ?_
          clear hf a; intro a hf
          refine st_ef hf rfl rfl rfl (e_build (vs := #[(0, (.int .i64 (0))), (1, (.int .i64 (1))), (2, (.int .i64 (2))), (3, (.int .i64 (3))), (4, (.int .i64 (15))), (5, (.int .i64 (16))), (6, (.int .i64 (255)))]) (cs := [(.int .i64 (0)), (.int .i64 (1)), (.int .i64 (2)), (.int .i64 (3)), (.int .i64 (15)), (.int .i64 (16)), (.int .i64 (255))]) et_46 hf hm rfl rfl (by kernel_rfl) rfl rfl) ?_
          clear hf a; rintro _ w2_1 a ⟨b2_1, rfl, hm⟩ hf
          replace hm := hm.lit (xs := ([0, 1, 2, 3, 15, 16, 255] : List Int)) 0 rfl rfl rfl rfl
          obtain ⟨r2_1, hx2_1, hq1_2⟩ := bnd hq1_2
          obtain ⟨hz2_1, hle, hm1, hsub, hk2_1⟩ := hm.take2 (L1 := [blk bp0 [v1p, (.int .i64 (xs0_1.1))] 110]) (L2 := [ow [(.slice (some ⟨b2_1, 0, none⟩) 7 7)] ([0, 1, 2, 3, 15, 16, 255] : List Int), blk b0_1 [(.int .i64 (f.params)), (.int .i64 (f.slots)), v2] 35, blk b0_2 [(.int .i64 (0)), (.int .i64 (0)), (.int .i64 (0)), (.int .i64 (0)), (.int .i64 (0))] 27, blk b0_4 [(.int .i64 (r0_1.1)), (.int .i64 (xs0_1.2.1)), (.int .i64 (xs0_1.2.2.1)), (.int .i64 (xs0_1.2.2.2)), (.int .i64 (0))] 27]) [1] [0, 2, 3, 4] (by decide) rfl rfl
          refine st_ef hf rfl rfl rfl (e_call hf rfl Tryd.call78 rfl (pspec_l30Rd__num_ok _ hz2_1 (⟨r_.b, xs0_1.1⟩ : l30Rd) bp0 v1p (GT.mono hle h1p) ([0, 1, 2, 3, 15, 16, 255] : List Int) (.slice (some ⟨b2_1, 0, none⟩) 7 7) (fz_ow (hsub 0 _ rfl)) hm1  _ hx2_1)) ?_
          clear hf a; rintro v2_1 w2_2 a ho2_1 hf
          obtain ⟨rfl, hB⟩ := ho2_1
          replace hm := hk2_1 _ _ hB; clear hB
          refine st_y hf rfl rfl rfl (y_fieldAddr fo_27_4 rfl rfl) ?_
          clear hf a; intro a hf
          refine st_ef0 hf rfl rfl (e_store1 4 hf hm rfl Tryd.sizeOf3 rfl rfl rfl rfl rfl) ?_
          clear hf a; rintro _ w2_3 a hm hf
          refine st_end ?_
          refine x_then_n ?_
          obtain rfl := Option.some.inj hq1_2
          exact ⟨hf.sub ⟨rfl, rfl, rfl, rfl, trivial⟩, hm.pick [0, 3, 4] (by decide) rfl⟩
        ·
          replace hq1_2 := (ite_f h2_1).symm.trans hq1_2
          have h2_3 := of_decide_eq_false h2_1
          refine cond_f hf rfl h2_1 ?_
          refine wp_seq ?_
          refine wp_region_lit ?_
          refine st_y hf rfl rfl rfl (y_eql rfl rfl rfl) ?_
          clear hf a; intro a hf
          refine st_y hf rfl rfl rfl (y_assign rfl rfl) ?_
          clear hf a; intro a hf
          refine st_end ?_
          refine x_then_n ?_
          obtain ⟨s2_2, hq2_2, hq1_2⟩ := bnd hq1_2
          refine code_cut (K := fun a w => Fr 109 [(0, (.pointer (some ⟨bp0, 0, none⟩))), (8, (.pointer (some ⟨b0_2, 0, none⟩))), (9, (.pointer (some ⟨b0_4, 0, none⟩))), (14, (.int .i64 (s2_2)))] a ∧ Mem w0 hz w [blk bp0 [v1p, (.int .i64 (xs0_1.1))] 110, blk b0_2 [(.int .i64 (0)), (.int .i64 (0)), (.int .i64 (0)), (.int .i64 (0)), (.int .i64 (0))] 27, blk b0_4 [(.int .i64 (r0_1.1)), (.int .i64 (xs0_1.2.1)), (.int .i64 (xs0_1.2.2.1)), (.int .i64 (xs0_1.2.2.2)), (.int .i64 (0))] 27]) ?_ ?_
          ·
            rcases bcases (decide (r0_1.1 = 14)) with h3_4 | h3_4
            ·
              replace hq2_2 := (ite_t h3_4).symm.trans hq2_2
              have h3_5 := of_decide_eq_true h3_4
              refine cond_t hf rfl h3_4 ?_
              refine wp_region_lit ?_
              refine st_y hf rfl rfl rfl (y_move rfl rfl) ?_
              clear hf a; intro a hf
              refine st_y hf rfl rfl rfl (y_assign rfl rfl) ?_
              clear hf a; intro a hf
              refine st_end ?_
              refine x_then_n ?_
              obtain rfl := Option.some.inj hq2_2
              exact ⟨hf.sub ⟨rfl, rfl, rfl, rfl, trivial⟩, hm.pick [0, 2, 3] (by decide) rfl⟩
            ·
              replace hq2_2 := (ite_f h3_4).symm.trans hq2_2
              have h3_6 := of_decide_eq_false h3_4
              refine cond_f hf rfl h3_4 ?_
              refine wp_seq ?_
              refine wp_seq ?_
              refine wp_region_lit ?_
              refine st_y hf rfl rfl rfl (y_eql rfl rfl rfl) ?_
              clear hf a; intro a hf
              refine st_y hf rfl rfl rfl (y_assign rfl rfl) ?_
              clear hf a; intro a hf
              refine st_end ?_
              refine x_then_n ?_
              obtain ⟨s3_2, hq3_2, hq2_2⟩ := bnd hq2_2
              refine code_cut (K := fun a w => Fr 109 [(0, (.pointer (some ⟨bp0, 0, none⟩))), (3, (.int .i64 (n_))), (6, (.pointer (some ⟨b0_1, 0, none⟩))), (8, (.pointer (some ⟨b0_2, 0, none⟩))), (9, (.pointer (some ⟨b0_4, 0, none⟩))), (14, (.int .i64 (0))), (52, (.int .i64 (r0_1.1))), (62, (.bool (s3_2)))] a ∧ Mem w0 hz w [blk bp0 [v1p, (.int .i64 (xs0_1.1))] 110, blk b0_1 [(.int .i64 (f.params)), (.int .i64 (f.slots)), v2] 35, blk b0_2 [(.int .i64 (0)), (.int .i64 (0)), (.int .i64 (0)), (.int .i64 (0)), (.int .i64 (0))] 27, blk b0_4 [(.int .i64 (r0_1.1)), (.int .i64 (xs0_1.2.1)), (.int .i64 (xs0_1.2.2.1)), (.int .i64 (xs0_1.2.2.2)), (.int .i64 (0))] 27]) ?_ ?_
              ·
                rcases bcases (decide (r0_1.1 = 15)) with h4_4 | h4_4
                ·
                  replace hq3_2 := (ite_t h4_4).symm.trans hq3_2
                  have h4_5 := of_decide_eq_true h4_4
                  refine cond_t hf rfl h4_4 ?_
                  refine wp_skip ?_
                  refine x_then_n ?_
                  obtain rfl := Option.some.inj hq3_2
                  exact ⟨hf.sub ⟨rfl, rfl, rfl, rfl, rfl, rfl, rfl, rfl, trivial⟩, hm.pick [0, 1, 2, 3] (by decide) rfl⟩
                ·
                  replace hq3_2 := (ite_f h4_4).symm.trans hq3_2
                  have h4_6 := of_decide_eq_false h4_4
                  refine cond_f hf rfl h4_4 ?_
                  refine wp_region_lit ?_
                  refine st_y hf rfl rfl rfl (y_eql rfl rfl rfl) ?_
                  clear hf a; intro a hf
                  refine st_y hf rfl rfl rfl (y_assign rfl rfl) ?_
                  clear hf a; intro a hf
                  refine st_end ?_
                  refine x_then_n ?_
                  obtain rfl := Option.some.inj hq3_2
                  exact ⟨hf.sub ⟨rfl, rfl, rfl, rfl, rfl, rfl, rfl, rfl, trivial⟩, hm.pick [0, 1, 2, 3] (by decide) rfl⟩
              ·
                clear hf hm
                rintro a w ⟨hf, hm⟩
                refine x_then_n ?_
                obtain ⟨s3_3, hq3_3, hq2_2⟩ := bnd hq2_2
                refine code_cut (K := fun a w => Fr 109 [(0, (.pointer (some ⟨bp0, 0, none⟩))), (8, (.pointer (some ⟨b0_2, 0, none⟩))), (9, (.pointer (some ⟨b0_4, 0, none⟩))), (14, (.int .i64 (s3_3)))] a ∧ Mem w0 hz w [blk bp0 [v1p, (.int .i64 (xs0_1.1))] 110, blk b0_2 [(.int .i64 (0)), (.int .i64 (0)), (.int .i64 (0)), (.int .i64 (0)), (.int .i64 (0))] 27, blk b0_4 [(.int .i64 (r0_1.1)), (.int .i64 (xs0_1.2.1)), (.int .i64 (xs0_1.2.2.1)), (.int .i64 (xs0_1.2.2.2)), (.int .i64 (0))] 27]) ?_ ?_
                ·
                  rcases bcases (s3_2) with h4_7 | h4_7
                  ·
                    replace hq3_3 := (ite_t h4_7).symm.trans hq3_3
                    refine cond_t hf rfl h4_7 ?_
                    refine wp_region_lit ?_
                    refine st_y hf rfl rfl rfl (y_fieldAddr fo_35_1 rfl rfl) ?_
                    clear hf a; intro a hf
                    refine st_y hf rfl rfl rfl (y_load1 Tryd.isAgg3 rfl rfl (hm.blk_cell 1 rfl rfl)) ?_
                    clear hf a; intro a hf
                    refine st_y hf rfl rfl rfl (y_assign rfl rfl) ?_
                    clear hf a; intro a hf
                    refine st_end ?_
                    refine x_then_n ?_
                    obtain rfl := Option.some.inj hq3_3
                    exact ⟨hf.sub ⟨rfl, rfl, rfl, rfl, trivial⟩, hm.pick [0, 2, 3] (by decide) rfl⟩
                  ·
                    replace hq3_3 := (ite_f h4_7).symm.trans hq3_3
                    refine cond_f hf rfl h4_7 ?_
                    refine wp_seq ?_
                    refine wp_region_lit ?_
                    refine st_y hf rfl rfl rfl (y_eql rfl rfl rfl) ?_
                    clear hf a; intro a hf
                    refine st_y hf rfl rfl rfl (y_assign rfl rfl) ?_
                    clear hf a; intro a hf
                    refine st_end ?_
                    refine x_then_n ?_
                    obtain ⟨s4_2, hq4_2, hq3_3⟩ := bnd hq3_3
                    refine code_cut (K := fun a w => Fr 109 [(0, (.pointer (some ⟨bp0, 0, none⟩))), (8, (.pointer (some ⟨b0_2, 0, none⟩))), (9, (.pointer (some ⟨b0_4, 0, none⟩))), (14, (.int .i64 (s4_2)))] a ∧ Mem w0 hz w [blk bp0 [v1p, (.int .i64 (xs0_1.1))] 110, blk b0_2 [(.int .i64 (0)), (.int .i64 (0)), (.int .i64 (0)), (.int .i64 (0)), (.int .i64 (0))] 27, blk b0_4 [(.int .i64 (r0_1.1)), (.int .i64 (xs0_1.2.1)), (.int .i64 (xs0_1.2.2.1)), (.int .i64 (xs0_1.2.2.2)), (.int .i64 (0))] 27]) ?_ ?_
                    ·
                      rcases bcases (decide (r0_1.1 = 17)) with h5_4 | h5_4
                      ·
                        replace hq4_2 := (ite_t h5_4).symm.trans hq4_2
                        have h5_5 := of_decide_eq_true h5_4
                        refine cond_t hf rfl h5_4 ?_
                        refine wp_region_lit ?_
                        refine st_y hf rfl rfl rfl (y_assign rfl rfl) ?_
                        clear hf a; intro a hf
                        refine st_end ?_
                        refine x_then_n ?_
                        obtain rfl := Option.some.inj hq4_2
                        exact ⟨hf.sub ⟨rfl, rfl, rfl, rfl, trivial⟩, hm.pick [0, 2, 3] (by decide) rfl⟩
                      ·
                        replace hq4_2 := (ite_f h5_4).symm.trans hq4_2
                        have h5_6 := of_decide_eq_false h5_4
                        refine cond_f hf rfl h5_4 ?_
                        refine wp_seq ?_
                        refine wp_region_lit ?_
                        refine st_y hf rfl rfl rfl (y_eql rfl rfl rfl) ?_
                        clear hf a; intro a hf
                        refine st_y hf rfl rfl rfl (y_assign rfl rfl) ?_
                        clear hf a; intro a hf
                        refine st_end ?_
                        refine x_then_n ?_
                        obtain ⟨s5_1, hq5_1, hq4_2⟩ := bnd hq4_2
                        refine code_cut (K := fun a w => Fr 109 [(0, (.pointer (some ⟨bp0, 0, none⟩))), (8, (.pointer (some ⟨b0_2, 0, none⟩))), (9, (.pointer (some ⟨b0_4, 0, none⟩))), (14, (.int .i64 (s5_1)))] a ∧ Mem w0 hz w [blk bp0 [v1p, (.int .i64 (xs0_1.1))] 110, blk b0_2 [(.int .i64 (0)), (.int .i64 (0)), (.int .i64 (0)), (.int .i64 (0)), (.int .i64 (0))] 27, blk b0_4 [(.int .i64 (r0_1.1)), (.int .i64 (xs0_1.2.1)), (.int .i64 (xs0_1.2.2.1)), (.int .i64 (xs0_1.2.2.2)), (.int .i64 (0))] 27]) ?_ ?_
                        ·
                          rcases bcases (decide (r0_1.1 = 18)) with h6_1 | h6_1
                          ·
                            replace hq5_1 := (ite_t h6_1).symm.trans hq5_1
                            have h6_2 := of_decide_eq_true h6_1
                            refine cond_t hf rfl h6_1 ?_
                            refine wp_region_lit ?_
                            refine st_y hf rfl rfl rfl (y_fieldAddr fo_35_0 rfl rfl) ?_
                            clear hf a; intro a hf
                            refine st_y hf rfl rfl rfl (y_load1 Tryd.isAgg3 rfl rfl (hm.blk_cell 1 rfl rfl)) ?_
                            clear hf a; intro a hf
                            refine st_y hf rfl rfl rfl (y_assign rfl rfl) ?_
                            clear hf a; intro a hf
                            refine st_end ?_
                            refine x_then_n ?_
                            obtain rfl := Option.some.inj hq5_1
                            exact ⟨hf.sub ⟨rfl, rfl, rfl, rfl, trivial⟩, hm.pick [0, 2, 3] (by decide) rfl⟩
                          ·
                            replace hq5_1 := (ite_f h6_1).symm.trans hq5_1
                            have h6_3 := of_decide_eq_false h6_1
                            refine cond_f hf rfl h6_1 ?_
                            refine wp_seq ?_
                            refine wp_seq ?_
                            refine wp_region_lit ?_
                            refine st_y hf rfl rfl rfl (y_eql rfl rfl rfl) ?_
                            clear hf a; intro a hf
                            refine st_y hf rfl rfl rfl (y_assign rfl rfl) ?_
                            clear hf a; intro a hf
                            refine st_end ?_
                            refine x_then_n ?_
                            obtain ⟨s6_1, hq6_1, hq5_1⟩ := bnd hq5_1
                            refine code_cut (K := fun a w => Fr 109 [(0, (.pointer (some ⟨bp0, 0, none⟩))), (3, (.int .i64 (n_))), (8, (.pointer (some ⟨b0_2, 0, none⟩))), (9, (.pointer (some ⟨b0_4, 0, none⟩))), (14, (.int .i64 (0))), (73, (.bool (s6_1)))] a ∧ Mem w0 hz w [blk bp0 [v1p, (.int .i64 (xs0_1.1))] 110, blk b0_2 [(.int .i64 (0)), (.int .i64 (0)), (.int .i64 (0)), (.int .i64 (0)), (.int .i64 (0))] 27, blk b0_4 [(.int .i64 (r0_1.1)), (.int .i64 (xs0_1.2.1)), (.int .i64 (xs0_1.2.2.1)), (.int .i64 (xs0_1.2.2.2)), (.int .i64 (0))] 27]) ?_ ?_
                            ·
                              rcases bcases (decide (r0_1.1 = 20)) with h7_1 | h7_1
                              ·
                                replace hq6_1 := (ite_t h7_1).symm.trans hq6_1
                                have h7_2 := of_decide_eq_true h7_1
                                refine cond_t hf rfl h7_1 ?_
                                refine wp_skip ?_
                                refine x_then_n ?_
                                obtain rfl := Option.some.inj hq6_1
                                exact ⟨hf.sub ⟨rfl, rfl, rfl, rfl, rfl, rfl, trivial⟩, hm.pick [0, 2, 3] (by decide) rfl⟩
                              ·
                                replace hq6_1 := (ite_f h7_1).symm.trans hq6_1
                                have h7_3 := of_decide_eq_false h7_1
                                refine cond_f hf rfl h7_1 ?_
                                refine wp_region_lit ?_
                                refine st_y hf rfl rfl rfl (y_eql rfl rfl rfl) ?_
                                clear hf a; intro a hf
                                refine st_y hf rfl rfl rfl (y_assign rfl rfl) ?_
                                clear hf a; intro a hf
                                refine st_end ?_
                                refine x_then_n ?_
                                obtain rfl := Option.some.inj hq6_1
                                exact ⟨hf.sub ⟨rfl, rfl, rfl, rfl, rfl, rfl, trivial⟩, hm.pick [0, 2, 3] (by decide) rfl⟩
                            ·
                              clear hf hm
                              rintro a w ⟨hf, hm⟩
                              refine x_then_n ?_
                              obtain ⟨s6_2, hq6_2, hq5_1⟩ := bnd hq5_1
                              refine code_cut (K := fun a w => Fr 109 [(0, (.pointer (some ⟨bp0, 0, none⟩))), (8, (.pointer (some ⟨b0_2, 0, none⟩))), (9, (.pointer (some ⟨b0_4, 0, none⟩))), (14, (.int .i64 (s6_2)))] a ∧ Mem w0 hz w [blk bp0 [v1p, (.int .i64 (xs0_1.1))] 110, blk b0_2 [(.int .i64 (0)), (.int .i64 (0)), (.int .i64 (0)), (.int .i64 (0)), (.int .i64 (0))] 27, blk b0_4 [(.int .i64 (r0_1.1)), (.int .i64 (xs0_1.2.1)), (.int .i64 (xs0_1.2.2.1)), (.int .i64 (xs0_1.2.2.2)), (.int .i64 (0))] 27]) ?_ ?_
                              ·
                                rcases bcases (s6_1) with h7_4 | h7_4
                                ·
                                  replace hq6_2 := (ite_t h7_4).symm.trans hq6_2
                                  refine cond_t hf rfl h7_4 ?_
                                  refine wp_region_lit ?_
                                  refine st_y hf rfl rfl rfl (y_move rfl rfl) ?_
                                  clear hf a; intro a hf
                                  refine st_y hf rfl rfl rfl (y_assign rfl rfl) ?_
                                  clear hf a; intro a hf
                                  refine st_end ?_
                                  refine x_then_n ?_
                                  obtain rfl := Option.some.inj hq6_2
                                  exact ⟨hf.sub ⟨rfl, rfl, rfl, rfl, trivial⟩, hm.pick [0, 1, 2] (by decide) rfl⟩
                                ·
                                  replace hq6_2 := (ite_f h7_4).symm.trans hq6_2
                                  refine cond_f hf rfl h7_4 ?_
                                  refine wp_skip ?_
                                  refine x_then_n ?_
                                  obtain rfl := Option.some.inj hq6_2
                                  exact ⟨hf.sub ⟨rfl, rfl, rfl, rfl, trivial⟩, hm.pick [0, 1, 2] (by decide) rfl⟩
                              ·
                                clear hf hm
                                rintro a w ⟨hf, hm⟩
                                refine x_then_n ?_
                                obtain rfl := Option.some.inj hq5_1
                                exact ⟨hf.sub ⟨rfl, rfl, rfl, rfl, trivial⟩, hm.pick [0, 1, 2] (by decide) rfl⟩
                        ·
                          clear hf hm
                          rintro a w ⟨hf, hm⟩
                          refine x_then_n ?_
                          obtain rfl := Option.some.inj hq4_2
                          exact ⟨hf.sub ⟨rfl, rfl, rfl, rfl, trivial⟩, hm.pick [0, 1, 2] (by decide) rfl⟩
                    ·
                      clear hf hm
                      rintro a w ⟨hf, hm⟩
                      refine x_then_n ?_
                      obtain rfl := Option.some.inj hq3_3
                      exact ⟨hf.sub ⟨rfl, rfl, rfl, rfl, trivial⟩, hm.pick [0, 1, 2] (by decide) rfl⟩
                ·
                  clear hf hm
                  rintro a w ⟨hf, hm⟩
                  refine x_then_n ?_
                  obtain rfl := Option.some.inj hq2_2
                  exact ⟨hf.sub ⟨rfl, rfl, rfl, rfl, trivial⟩, hm.pick [0, 1, 2] (by decide) rfl⟩
          ·
            clear hf hm
            rintro a w ⟨hf, hm⟩
            refine x_then_n ?_
            obtain rfl := Option.some.inj hq1_2
            exact ⟨hf.sub ⟨rfl, rfl, rfl, rfl, trivial⟩, hm.pick [0, 1, 2] (by decide) rfl⟩
      ·
        clear hf hm
        rintro a w ⟨hf, hm⟩
        refine x_blk_n ?_
        refine x_then_n ?_
        obtain rfl := Option.some.inj hq0_1
        exact ⟨hf.sub ⟨rfl, rfl, rfl, rfl, trivial⟩, hm.pick [0, 1, 2] (by decide) rfl⟩
    ·
      clear hf hm
      rintro a w ⟨hf, hm⟩
      refine x_then_n ?_
      refine wp_seq ?_
      refine wp_seq ?_
      refine wp_region_lit ?_
      refine st_y hf rfl rfl rfl (y_move rfl rfl) ?_
      clear hf a; intro a hf
      refine st_y hf rfl rfl rfl (y_gtr rfl rfl rfl) ?_
      clear hf a; intro a hf
      refine st_end ?_
      refine x_then_n ?_
      obtain ⟨s0_2, hq0_2, hq⟩ := bnd hq
      refine code_cut (K := fun a w => Fr 109 [(8, (.pointer (some ⟨b0_2, 0, none⟩))), (9, (.pointer (some ⟨b0_4, 0, none⟩))), (14, (.int .i64 (s0_1.2.2)))] a ∧ Mem w0 hz w [blk b0_2 [(.int .i64 (0)), (.int .i64 (0)), (.int .i64 (0)), (.int .i64 (0)), (.int .i64 (0))] 27, blk b0_4 [(.int .i64 (r0_1.1)), (.int .i64 (xs0_1.2.1)), (.int .i64 (xs0_1.2.2.1)), (.int .i64 (xs0_1.2.2.2)), (.int .i64 (s0_2.1))] 27, blk bp0 [v1p, (.int .i64 (s0_2.2))] 110]) ?_ ?_
      ·
        rcases bcases (decide (0 < s0_1.2.2)) with h1_2 | h1_2
        ·
          replace hq0_2 := (ite_t h1_2).symm.trans hq0_2
          have h1_3 := of_decide_eq_true h1_2
          refine cond_t hf rfl h1_2 ?_
          refine wp_region_lit ?_
          refine st_y hf rfl rfl rfl (y_move rfl rfl) ?_
          clear hf a; intro a hf
          refine st_y hf rfl rfl rfl (y_move rfl rfl) ?_
          clear hf a; intro a hf
          obtain ⟨r1_3, hx1_5, hq0_2⟩ := bnd hq0_2
          obtain ⟨hz1_5, hle, hm1, hsub, hk1_3⟩ := hm.take2 (L1 := [blk bp0 [v1p, (.int .i64 (s0_1.1))] 110]) (L2 := [blk b0_2 [(.int .i64 (0)), (.int .i64 (0)), (.int .i64 (0)), (.int .i64 (0)), (.int .i64 (0))] 27, blk b0_4 [(.int .i64 (r0_1.1)), (.int .i64 (xs0_1.2.1)), (.int .i64 (xs0_1.2.2.1)), (.int .i64 (xs0_1.2.2.2)), (.int .i64 (s0_1.2.1))] 27]) [0] [1, 2] (by decide) rfl rfl
          refine st_ef hf rfl rfl rfl (e_call hf rfl Tryd.call68 rfl (pspec_l30Rd__pick_ok _ hz1_5 (⟨r_.b, s0_1.1⟩ : l30Rd) bp0 v1p (GT.mono hle h1p) s0_1.2.2 hm1  _ hx1_5)) ?_
          clear hf a; rintro v1_3 w1_4 a ho1_3 hf
          obtain ⟨rfl, hB⟩ := ho1_3
          replace hm := hk1_3 _ _ hB; clear hB
          refine st_y hf rfl rfl rfl (y_fieldAddr fo_27_4 rfl rfl) ?_
          clear hf a; intro a hf
          refine st_ef0 hf rfl rfl (e_store1 2 hf hm rfl Tryd.sizeOf3 rfl rfl rfl rfl rfl) ?_
          clear hf a; rintro _ w1_5 a hm hf
          refine st_end ?_
          refine x_then_n ?_
          obtain rfl := Option.some.inj hq0_2
          exact ⟨hf.sub ⟨rfl, rfl, rfl, trivial⟩, hm.pick [1, 2, 0] (by decide) rfl⟩
        ·
          replace hq0_2 := (ite_f h1_2).symm.trans hq0_2
          have h1_4 := of_decide_eq_false h1_2
          refine cond_f hf rfl h1_2 ?_
          refine wp_skip ?_
          refine x_then_n ?_
          obtain rfl := Option.some.inj hq0_2
          exact ⟨hf.sub ⟨rfl, rfl, rfl, trivial⟩, hm.pick [1, 2, 0] (by decide) rfl⟩
      ·
        clear hf hm
        rintro a w ⟨hf, hm⟩
        refine x_then_n ?_
        refine wp_seq ?_
        refine wp_seq ?_
        obtain ⟨s0_3, hq0_3, hq⟩ := bnd hq
        refine code_cut (K := fun a w => Fr 109 [(8, (.pointer (some ⟨b0_2, 0, none⟩))), (9, (.pointer (some ⟨b0_4, 0, none⟩))), (104, (.bool (s0_3)))] a ∧ Mem w0 hz w [blk b0_2 [(.int .i64 (0)), (.int .i64 (0)), (.int .i64 (0)), (.int .i64 (0)), (.int .i64 (0))] 27, blk b0_4 [(.int .i64 (r0_1.1)), (.int .i64 (xs0_1.2.1)), (.int .i64 (xs0_1.2.2.1)), (.int .i64 (xs0_1.2.2.2)), (.int .i64 (s0_2.1))] 27, blk bp0 [v1p, (.int .i64 (s0_2.2))] 110]) ?_ ?_
        ·
          refine wp_region_lit ?_
          refine st_y hf rfl rfl rfl (y_move rfl rfl) ?_
          clear hf a; intro a hf
          refine st_y hf rfl rfl rfl (y_eql rfl rfl rfl) ?_
          clear hf a; intro a hf
          refine st_y hf rfl rfl rfl (y_move rfl rfl) ?_
          clear hf a; intro a hf
          rcases bcases (decide (s0_1.2.2 = 0)) with h1_5 | h1_5
          ·
            replace hq0_3 := (ite_t h1_5).symm.trans hq0_3
            have h1_6 := of_decide_eq_true h1_5
            refine st_yg hf rfl rfl (lk_b rfl h1_5) rfl rfl (y_fieldAddr fo_27_0 rfl rfl) ?_
            clear hf a; intro a hf
            refine st_yg hf rfl rfl (lk_b rfl h1_5) rfl rfl (y_load1 Tryd.isAgg3 rfl rfl (hm.blk_cell 1 rfl rfl)) ?_
            clear hf a; intro a hf
            refine st_yg hf rfl rfl (lk_b rfl h1_5) rfl rfl (y_eql rfl rfl rfl) ?_
            clear hf a; intro a hf
            refine st_yg hf rfl rfl (lk_b rfl h1_5) rfl rfl (y_move rfl rfl) ?_
            clear hf a; intro a hf
            rcases bcases (decide (r0_1.1 = 14)) with h1_7 | h1_7
            ·
              replace hq0_3 := (ite_t h1_7).symm.trans hq0_3
              have h1_8 := of_decide_eq_true h1_7
              refine st_no hf rfl rfl (lk_b rfl h1_7) rfl rfl rfl ?_
              clear hf a; intro a hf
              refine st_no hf rfl rfl (lk_b rfl h1_7) rfl rfl rfl ?_
              clear hf a; intro a hf
              refine st_no hf rfl rfl (lk_b rfl h1_7) rfl rfl rfl ?_
              clear hf a; intro a hf
              refine st_yg hf rfl rfl (lk_b rfl h1_5) rfl rfl (y_pick_t rfl (ev_b rfl h1_7) rfl) ?_
              clear hf a; intro a hf
              refine st_yg hf rfl rfl (lk_b rfl h1_5) rfl rfl (y_move rfl rfl) ?_
              clear hf a; intro a hf
              refine st_no hf rfl rfl (lk_b rfl rfl) rfl rfl rfl ?_
              clear hf a; intro a hf
              refine st_no hf rfl rfl (lk_b rfl rfl) rfl rfl rfl ?_
              clear hf a; intro a hf
              refine st_no hf rfl rfl (lk_b rfl rfl) rfl rfl rfl ?_
              clear hf a; intro a hf
              refine st_yg hf rfl rfl (lk_b rfl h1_5) rfl rfl (y_pick_t rfl (ev_b rfl rfl) rfl) ?_
              clear hf a; intro a hf
              refine st_yg hf rfl rfl (lk_b rfl h1_5) rfl rfl (y_move rfl rfl) ?_
              clear hf a; intro a hf
              refine st_no hf rfl rfl (lk_b rfl rfl) rfl rfl rfl ?_
              clear hf a; intro a hf
              refine st_no hf rfl rfl (lk_b rfl rfl) rfl rfl rfl ?_
              clear hf a; intro a hf
              refine st_no hf rfl rfl (lk_b rfl rfl) rfl rfl rfl ?_
              clear hf a; intro a hf
              refine st_yg hf rfl rfl (lk_b rfl h1_5) rfl rfl (y_pick_t rfl (ev_b rfl rfl) rfl) ?_
              clear hf a; intro a hf
              refine st_y hf rfl rfl rfl (y_pick_t rfl (ev_b rfl h1_5) rfl) ?_
              clear hf a; intro a hf
              refine st_end ?_
              refine x_then_n ?_
              obtain rfl := Option.some.inj hq0_3
              exact ⟨hf.sub ⟨rfl, rfl, rfl, trivial⟩, hm.pick [0, 1, 2] (by decide) rfl⟩
            ·
              replace hq0_3 := (ite_f h1_7).symm.trans hq0_3
              have h1_9 := of_decide_eq_false h1_7
              refine st_yg hf rfl rfl (lk_b rfl h1_7) rfl rfl (y_fieldAddr fo_27_0 rfl rfl) ?_
              clear hf a; intro a hf
              refine st_yg hf rfl rfl (lk_b rfl h1_7) rfl rfl (y_load1 Tryd.isAgg3 rfl rfl (hm.blk_cell 1 rfl rfl)) ?_
              clear hf a; intro a hf
              refine st_yg hf rfl rfl (lk_b rfl h1_7) rfl rfl (y_eql rfl rfl rfl) ?_
              clear hf a; intro a hf
              refine st_yg hf rfl rfl (lk_b rfl h1_5) rfl rfl (y_pick_f rfl (ev_b rfl h1_7) rfl) ?_
              clear hf a; intro a hf
              refine st_yg hf rfl rfl (lk_b rfl h1_5) rfl rfl (y_move rfl rfl) ?_
              clear hf a; intro a hf
              rcases bcases (decide (r0_1.1 = 15)) with h1_10 | h1_10
              ·
                replace hq0_3 := (ite_t h1_10).symm.trans hq0_3
                have h1_11 := of_decide_eq_true h1_10
                refine st_no hf rfl rfl (lk_b rfl h1_10) rfl rfl rfl ?_
                clear hf a; intro a hf
                refine st_no hf rfl rfl (lk_b rfl h1_10) rfl rfl rfl ?_
                clear hf a; intro a hf
                refine st_no hf rfl rfl (lk_b rfl h1_10) rfl rfl rfl ?_
                clear hf a; intro a hf
                refine st_yg hf rfl rfl (lk_b rfl h1_5) rfl rfl (y_pick_t rfl (ev_b rfl h1_10) rfl) ?_
                clear hf a; intro a hf
                refine st_yg hf rfl rfl (lk_b rfl h1_5) rfl rfl (y_move rfl rfl) ?_
                clear hf a; intro a hf
                refine st_no hf rfl rfl (lk_b rfl rfl) rfl rfl rfl ?_
                clear hf a; intro a hf
                refine st_no hf rfl rfl (lk_b rfl rfl) rfl rfl rfl ?_
                clear hf a; intro a hf
                refine st_no hf rfl rfl (lk_b rfl rfl) rfl rfl rfl ?_
                clear hf a; intro a hf
                refine st_yg hf rfl rfl (lk_b rfl h1_5) rfl rfl (y_pick_t rfl (ev_b rfl rfl) rfl) ?_
                clear hf a; intro a hf
                refine st_y hf rfl rfl rfl (y_pick_t rfl (ev_b rfl h1_5) rfl) ?_
                clear hf a; intro a hf
                refine st_end ?_
                refine x_then_n ?_
                obtain rfl := Option.some.inj hq0_3
                exact ⟨hf.sub ⟨rfl, rfl, rfl, trivial⟩, hm.pick [0, 1, 2] (by decide) rfl⟩
              ·
                replace hq0_3 := (ite_f h1_10).symm.trans hq0_3
                have h1_12 := of_decide_eq_false h1_10
                refine st_yg hf rfl rfl (lk_b rfl h1_10) rfl rfl (y_fieldAddr fo_27_0 rfl rfl) ?_
                clear hf a; intro a hf
                refine st_yg hf rfl rfl (lk_b rfl h1_10) rfl rfl (y_load1 Tryd.isAgg3 rfl rfl (hm.blk_cell 1 rfl rfl)) ?_
                clear hf a; intro a hf
                refine st_yg hf rfl rfl (lk_b rfl h1_10) rfl rfl (y_eql rfl rfl rfl) ?_
                clear hf a; intro a hf
                refine st_yg hf rfl rfl (lk_b rfl h1_5) rfl rfl (y_pick_f rfl (ev_b rfl h1_10) rfl) ?_
                clear hf a; intro a hf
                refine st_yg hf rfl rfl (lk_b rfl h1_5) rfl rfl (y_move rfl rfl) ?_
                clear hf a; intro a hf
                rcases bcases (decide (r0_1.1 = 16)) with h1_13 | h1_13
                ·
                  replace hq0_3 := (ite_t h1_13).symm.trans hq0_3
                  have h1_14 := of_decide_eq_true h1_13
                  refine st_no hf rfl rfl (lk_b rfl h1_13) rfl rfl rfl ?_
                  clear hf a; intro a hf
                  refine st_no hf rfl rfl (lk_b rfl h1_13) rfl rfl rfl ?_
                  clear hf a; intro a hf
                  refine st_no hf rfl rfl (lk_b rfl h1_13) rfl rfl rfl ?_
                  clear hf a; intro a hf
                  refine st_yg hf rfl rfl (lk_b rfl h1_5) rfl rfl (y_pick_t rfl (ev_b rfl h1_13) rfl) ?_
                  clear hf a; intro a hf
                  refine st_y hf rfl rfl rfl (y_pick_t rfl (ev_b rfl h1_5) rfl) ?_
                  clear hf a; intro a hf
                  refine st_end ?_
                  refine x_then_n ?_
                  obtain rfl := Option.some.inj hq0_3
                  exact ⟨hf.sub ⟨rfl, rfl, rfl, trivial⟩, hm.pick [0, 1, 2] (by decide) rfl⟩
                ·
                  replace hq0_3 := (ite_f h1_13).symm.trans hq0_3
                  have h1_15 := of_decide_eq_false h1_13
                  refine st_yg hf rfl rfl (lk_b rfl h1_13) rfl rfl (y_fieldAddr fo_27_0 rfl rfl) ?_
                  clear hf a; intro a hf
                  refine st_yg hf rfl rfl (lk_b rfl h1_13) rfl rfl (y_load1 Tryd.isAgg3 rfl rfl (hm.blk_cell 1 rfl rfl)) ?_
                  clear hf a; intro a hf
                  refine st_yg hf rfl rfl (lk_b rfl h1_13) rfl rfl (y_eql rfl rfl rfl) ?_
                  clear hf a; intro a hf
                  refine st_yg hf rfl rfl (lk_b rfl h1_5) rfl rfl (y_pick_f rfl (ev_b rfl h1_13) rfl) ?_
                  clear hf a; intro a hf
                  refine st_y hf rfl rfl rfl (y_pick_t rfl (ev_b rfl h1_5) rfl) ?_
                  clear hf a; intro a hf
                  refine st_end ?_
                  refine x_then_n ?_
                  obtain rfl := Option.some.inj hq0_3
                  exact ⟨hf.sub ⟨rfl, rfl, rfl, trivial⟩, hm.pick [0, 1, 2] (by decide) rfl⟩
          ·
            replace hq0_3 := (ite_f h1_5).symm.trans hq0_3
            have h1_16 := of_decide_eq_false h1_5
            refine st_no hf rfl rfl (lk_b rfl h1_5) rfl rfl rfl ?_
            clear hf a; intro a hf
            refine st_no hf rfl rfl (lk_b rfl h1_5) rfl rfl rfl ?_
            clear hf a; intro a hf
            refine st_no hf rfl rfl (lk_b rfl h1_5) rfl rfl rfl ?_
            clear hf a; intro a hf
            refine st_no hf rfl rfl (lk_b rfl h1_5) rfl rfl rfl ?_
            clear hf a; intro a hf
            refine st_nou hf rfl rfl rfl rfl rfl ?_
            clear hf a; intro a hf
            refine st_nou hf rfl rfl rfl rfl rfl ?_
            clear hf a; intro a hf
            refine st_nou hf rfl rfl rfl rfl rfl ?_
            clear hf a; intro a hf
            refine st_no hf rfl rfl (lk_b rfl h1_5) rfl rfl rfl ?_
            clear hf a; intro a hf
            refine st_no hf rfl rfl (lk_b rfl h1_5) rfl rfl rfl ?_
            clear hf a; intro a hf
            refine st_nou hf rfl rfl rfl rfl rfl ?_
            clear hf a; intro a hf
            refine st_nou hf rfl rfl rfl rfl rfl ?_
            clear hf a; intro a hf
            refine st_nou hf rfl rfl rfl rfl rfl ?_
            clear hf a; intro a hf
            refine st_no hf rfl rfl (lk_b rfl h1_5) rfl rfl rfl ?_
            clear hf a; intro a hf
            refine st_no hf rfl rfl (lk_b rfl h1_5) rfl rfl rfl ?_
            clear hf a; intro a hf
            refine st_nou hf rfl rfl rfl rfl rfl ?_
            clear hf a; intro a hf
            refine st_nou hf rfl rfl rfl rfl rfl ?_
            clear hf a; intro a hf
            refine st_nou hf rfl rfl rfl rfl rfl ?_
            clear hf a; intro a hf
            refine st_no hf rfl rfl (lk_b rfl h1_5) rfl rfl rfl ?_
            clear hf a; intro a hf
            refine st_y hf rfl rfl rfl (y_pick_f rfl (ev_b rfl h1_5) rfl) ?_
            clear hf a; intro a hf
            refine st_end ?_
            refine x_then_n ?_
            obtain rfl := Option.some.inj hq0_3
            exact ⟨hf.sub ⟨rfl, rfl, rfl, trivial⟩, hm.pick [0, 1, 2] (by decide) rfl⟩
        ·
          clear hf hm
          rintro a w ⟨hf, hm⟩
          refine x_then_n ?_
          rcases bcases (s0_3) with h0_1 | h0_1
          ·
            replace hq := (ite_t h0_1).symm.trans hq
            refine cond_t hf rfl h0_1 ?_
            refine wp_seq ?_
            refine wp_region_lit ?_
            refine st_y hf rfl rfl rfl (y_fieldAddr fo_27_1 rfl rfl) ?_
            clear hf a; intro a hf
            refine st_y hf rfl rfl rfl (y_load1 Tryd.isAgg3 rfl rfl (hm.blk_cell 1 rfl rfl)) ?_
            clear hf a; intro a hf
            refine st_y hf rfl rfl rfl (y_build (vs := [(0, (.int .i64 (13))), (1, (.int .i64 (xs0_1.2.1)))]) (cs := #[(.int .i64 (13)), (.int .i64 (xs0_1.2.1)), (.int .i64 (0)), (.int .i64 (0)), (.int .i64 (0))]) rfl rfl (by kernel_rfl)) ?_
            clear hf a; intro a hf
            refine st_ef0 hf rfl rfl (e_storeN 0 hf hm rfl Tryd.sizeOf27 rfl rfl rfl (one_cons rfl (one_cons rfl (one_cons rfl (one_cons rfl (one_cons rfl one_nil))))) rfl rfl) ?_
            clear hf a; rintro _ w0_8 a hm hf
            refine st_end ?_
            refine x_then_n ?_
            refine wp_ret ?_
            refine x_then_ret ?_
            obtain rfl := Option.some.inj hq
            refine ret_cell 0 hf Tryd.results84 hm rfl rfl Tryd.isAgg27 Tryd.sizeOf27 ?_
            exact ⟨rfl, hm.pick [2] (by decide) rfl⟩
          ·
            replace hq := (ite_f h0_1).symm.trans hq
            refine cond_f hf rfl h0_1 ?_
            refine wp_skip ?_
            refine x_then_n ?_
            refine wp_seq ?_
            refine wp_region_lit ?_
            refine st_y hf rfl rfl rfl (y_loadN (cs := [(.int .i64 (r0_1.1)), (.int .i64 (xs0_1.2.1)), (.int .i64 (xs0_1.2.2.1)), (.int .i64 (xs0_1.2.2.2)), (.int .i64 (s0_2.1))]) Tryd.isAgg27 Tryd.sizeOf27 rfl rfl (hm.blk_at 1 rfl)) ?_
            clear hf a; intro a hf
            refine st_ef0 hf rfl rfl (e_storeN 0 hf hm rfl Tryd.sizeOf27 rfl rfl rfl (one_cons rfl (one_cons rfl (one_cons rfl (one_cons rfl (one_cons rfl one_nil))))) rfl rfl) ?_
            clear hf a; rintro _ w0_9 a hm hf
            refine st_end ?_
            refine x_then_n ?_
            refine wp_ret ?_
            obtain rfl := Option.some.inj hq
            refine ret_cell 0 hf Tryd.results84 hm rfl rfl Tryd.isAgg27 Tryd.sizeOf27 ?_
            exact ⟨rfl, hm.pick [2] (by decide) rfl⟩

theorem spec_l22Mach_ok (w0 : World) (hz : Heap) (r_ : l30Rd) (bp0 : Nat) (v1p : Value) (h1p : GT.rep hz [v1p] r_.b) (hm0 : Mem w0 hz w0 [blk bp0 [v1p, (.int .i64 (r_.p))] 110]) (r : Mach × l30Rd) (hq : spec_l22Mach r_ = some r) :
    Con Tryd.prog 77 [(.pointer (some ⟨bp0, 0, none⟩))] w0 (fun v w' => ∃ (x1 : Value), v = (.agg #[x1]) ∧ Mem w0 hz w' [blk bp0 [v1p, (.int .i64 (r.2.p))] 110, ow [x1] r.1.fns]) := by
  unfold spec_l22Mach at hq
  refine con_body (l := [(0, (.pointer (some ⟨bp0, 0, none⟩)))]) Tryd.func77 rfl Tryd.ntmps77 (Args.get ⟨rfl, trivial⟩) rfl ?_
  intro a hf
  have hm := hm0
  refine wp_seq ?_
  refine wp_region_lit ?_
  refine st_ef hf rfl rfl rfl (e_alloc hm Tryd.zeroValue99 rfl rfl) ?_
  clear hf a; rintro _ w0_1 a ⟨b0_1, rfl, hm⟩ hf
  refine st_end ?_
  refine x_then_n ?_
  refine wp_seq ?_
  refine wp_region_lit ?_
  refine st_y hf rfl rfl rfl (y_build (vs := []) (cs := #[(.slice none 0 0)]) rfl rfl (by kernel_rfl)) ?_
  clear hf a; intro a hf
  refine st_ef hf rfl rfl rfl (e_alloc hm Tryd.zeroValue99 rfl rfl) ?_
  clear hf a; rintro _ w0_2 a ⟨b0_2, rfl, hm⟩ hf
  refine st_ef0 hf rfl rfl (e_storeN 0 hf hm rfl Tryd.sizeOf99 rfl rfl rfl (one_cons rfl one_nil) rfl rfl) ?_
  clear hf a; rintro _ w0_3 a hm hf
  refine st_end ?_
  refine x_then_n ?_
  refine wp_seq ?_
  refine wp_region_lit ?_
  refine st_y hf rfl rfl rfl (y_move rfl rfl) ?_
  clear hf a; intro a hf
  refine st_ef hf rfl rfl rfl (e_build (vs := #[(0, (.int .i64 (1))), (1, (.int .i64 (2))), (2, (.int .i64 (1))), (3, (.int .i64 (3)))]) (cs := [(.int .i64 (1)), (.int .i64 (2)), (.int .i64 (1)), (.int .i64 (3))]) et_46 hf hm rfl rfl (by kernel_rfl) rfl rfl) ?_
  clear hf a; rintro _ w0_4 a ⟨b0_3, rfl, hm⟩ hf
  replace hm := hm.lit (xs := ([1, 2, 1, 3] : List Int)) 0 rfl rfl rfl rfl
  obtain ⟨r0_1, hx0_1, hq⟩ := bnd hq
  obtain ⟨hz0_1, hle, hm1, hsub, hk0_1⟩ := hm.take2 (L1 := [blk bp0 [v1p, (.int .i64 (r_.p))] 110]) (L2 := [ow [(.slice (some ⟨b0_3, 0, none⟩) 4 4)] ([1, 2, 1, 3] : List Int), blk b0_2 [(.slice none 0 0)] 99, blk b0_1 [(.slice none 0 0)] 99]) [3] [0, 1, 2] (by decide) rfl rfl
  refine st_ef hf rfl rfl rfl (e_call hf rfl Tryd.call78 rfl (pspec_l30Rd__num_ok _ hz0_1 r_ bp0 v1p (GT.mono hle h1p) ([1, 2, 1, 3] : List Int) (.slice (some ⟨b0_3, 0, none⟩) 4 4) (fz_ow (hsub 0 _ rfl)) hm1  _ hx0_1)) ?_
  clear hf a; rintro v0_1 w0_5 a ho0_1 hf
  obtain ⟨rfl, hB⟩ := ho0_1
  replace hm := hk0_1 _ _ hB; clear hB
  refine st_y hf rfl rfl rfl (y_assign rfl rfl) ?_
  clear hf a; intro a hf
  refine st_end ?_
  refine x_then_n ?_
  refine wp_seq ?_
  refine wp_seq ?_
  refine wp_region_lit ?_
  refine st_y hf rfl rfl rfl (y_assign rfl rfl) ?_
  clear hf a; intro a hf
  refine st_end ?_
  refine x_then_n ?_
  refine wp_block ?_
  obtain ⟨_, hfit0_1, hq⟩ := bnd hq
  replace hfit0_1 := fitI_some.1 hfit0_1
  obtain ⟨r0_2, hl0_1, hq⟩ := bnd hq
  refine wp_forN _ (fun i1_1 xs1_1 a w => ∃ (v1_1 : Value), Fr 75 [(0, (.pointer (some ⟨bp0, 0, none⟩))), (2, (.pointer (some ⟨b0_1, 0, none⟩))), (3, (.pointer (some ⟨b0_2, 0, none⟩))), (4, (.int .i64 (r0_1.1))), (5, (.int .i64 (i1_1)))] a ∧ Mem w0 hz w [blk bp0 [v1p, (.int .i64 (xs1_1.1))] 110, blk b0_1 [(.slice none 0 0)] 99, blk b0_2 [v1_1] 99, ow [v1_1] xs1_1.2]) (0) (r0_1.1) hl0_1 ?_ ?_ ?_
  ·
    have hm := hm.nilow (α := Mfn)
    exact ⟨(.slice none 0 0), hf.sub ⟨rfl, rfl, rfl, rfl, rfl, trivial⟩, hm.pick [1, 4, 3, 0] (by decide) rfl⟩
  ·
    clear hf hm
    rintro i1_1 xs1_1 a w ⟨v1_1, hf, hm⟩ hi1_1 hi1_2 q0_1 hb0_1 ho0_2
    refine wp_seq ?_
    refine wp_seq ?_
    refine wp_region_lit ?_
    refine st_y hf rfl rfl rfl (y_move rfl rfl) ?_
    clear hf a; intro a hf
    refine st_y hf rfl rfl rfl (y_move rfl rfl) ?_
    clear hf a; intro a hf
    refine st_y hf rfl rfl rfl (y_lss rfl rfl rfl) ?_
    clear hf a; intro a hf
    refine st_end ?_
    refine x_then_n ?_
    refine cond_t hf rfl (decide_eq_true (by omega)) ?_
    refine wp_skip ?_
    refine x_then_n ?_
    refine wp_seq ?_
    refine wp_block ?_
    refine wp_seq ?_
    refine wp_region_lit ?_
    refine st_y hf rfl rfl rfl (y_move rfl rfl) ?_
    clear hf a; intro a hf
    refine st_ef hf rfl rfl rfl (e_build (vs := #[(0, (.int .i64 (1))), (1, (.int .i64 (0))), (2, (.int .i64 (2))), (3, (.int .i64 (3)))]) (cs := [(.int .i64 (1)), (.int .i64 (0)), (.int .i64 (2)), (.int .i64 (3))]) et_46 hf hm rfl rfl (by kernel_rfl) rfl rfl) ?_
    clear hf a; rintro _ w1_1 a ⟨b1_1, rfl, hm⟩ hf
    replace hm := hm.lit (xs := ([1, 0, 2, 3] : List Int)) 0 rfl rfl rfl rfl
    obtain ⟨r1_1, hx1_1, hb0_1⟩ := bnd hb0_1
    obtain ⟨hz1_1, hle, hm1, hsub, hk1_1⟩ := hm.take2 (L1 := [blk bp0 [v1p, (.int .i64 (xs1_1.1))] 110]) (L2 := [ow [(.slice (some ⟨b1_1, 0, none⟩) 4 4)] ([1, 0, 2, 3] : List Int), blk b0_1 [(.slice none 0 0)] 99, blk b0_2 [v1_1] 99, ow [v1_1] xs1_1.2]) [1] [0, 2, 3, 4] (by decide) rfl rfl
    refine st_ef hf rfl rfl rfl (e_call hf rfl Tryd.call78 rfl (pspec_l30Rd__num_ok _ hz1_1 (⟨r_.b, xs1_1.1⟩ : l30Rd) bp0 v1p (GT.mono hle h1p) ([1, 0, 2, 3] : List Int) (.slice (some ⟨b1_1, 0, none⟩) 4 4) (fz_ow (hsub 0 _ rfl)) hm1  _ hx1_1)) ?_
    clear hf a; rintro v1_2 w1_2 a ho1_1 hf
    obtain ⟨rfl, hB⟩ := ho1_1
    replace hm := hk1_1 _ _ hB; clear hB
    refine st_y hf rfl rfl rfl (y_move rfl rfl) ?_
    clear hf a; intro a hf
    refine st_ef hf rfl rfl rfl (e_build (vs := #[(0, (.int .i64 (2))), (1, (.int .i64 (0))), (2, (.int .i64 (5))), (3, (.int .i64 (1)))]) (cs := [(.int .i64 (2)), (.int .i64 (0)), (.int .i64 (5)), (.int .i64 (1))]) et_46 hf hm rfl rfl (by kernel_rfl) rfl rfl) ?_
    clear hf a; rintro _ w1_3 a ⟨b1_2, rfl, hm⟩ hf
    replace hm := hm.lit (xs := ([2, 0, 5, 1] : List Int)) 0 rfl rfl rfl rfl
    obtain ⟨r1_2, hx1_2, hb0_1⟩ := bnd hb0_1
    obtain ⟨hz1_3, hle, hm1, hsub, hk1_2⟩ := hm.take2 (L1 := [blk bp0 [v1p, (.int .i64 (r1_1.2.p))] 110]) (L2 := [ow [(.slice (some ⟨b1_2, 0, none⟩) 4 4)] ([2, 0, 5, 1] : List Int), ow [(.slice (some ⟨b1_1, 0, none⟩) 4 4)] ([1, 0, 2, 3] : List Int), blk b0_1 [(.slice none 0 0)] 99, blk b0_2 [v1_1] 99, ow [v1_1] xs1_1.2]) [1] [0, 2, 3, 4, 5] (by decide) rfl rfl
    refine st_ef hf rfl rfl rfl (e_call hf rfl Tryd.call78 rfl (pspec_l30Rd__num_ok _ hz1_3 (⟨r_.b, r1_1.2.p⟩ : l30Rd) bp0 v1p (GT.mono hle h1p) ([2, 0, 5, 1] : List Int) (.slice (some ⟨b1_2, 0, none⟩) 4 4) (fz_ow (hsub 0 _ rfl)) hm1  _ hx1_2)) ?_
    clear hf a; rintro v1_3 w1_4 a ho1_2 hf
    obtain ⟨rfl, hB⟩ := ho1_2
    replace hm := hk1_2 _ _ hB; clear hB
    refine st_y hf rfl rfl rfl (y_build (vs := [(0, (.int .i64 (r1_1.1))), (1, (.int .i64 (r1_2.1)))]) (cs := #[(.int .i64 (r1_1.1)), (.int .i64 (r1_2.1)), (.slice none 0 0)]) rfl rfl (by kernel_rfl)) ?_
    clear hf a; intro a hf
    refine st_ef hf rfl rfl rfl (e_alloc hm Tryd.zeroValue35 rfl rfl) ?_
    clear hf a; rintro _ w1_5 a ⟨b1_3, rfl, hm⟩ hf
    refine st_ef0 hf rfl rfl (e_storeN 0 hf hm rfl Tryd.sizeOf35 rfl rfl rfl (one_cons rfl (one_cons rfl (one_cons rfl one_nil))) rfl rfl) ?_
    clear hf a; rintro _ w1_6 a hm hf
    refine st_end ?_
    refine x_then_n ?_
    refine wp_seq ?_
    refine wp_region_lit ?_
    refine st_y hf rfl rfl rfl (y_move rfl rfl) ?_
    clear hf a; intro a hf
    refine st_ef hf rfl rfl rfl (e_build (vs := #[(0, (.int .i64 (6))), (1, (.int .i64 (9))), (2, (.int .i64 (14))), (3, (.int .i64 (3))), (4, (.int .i64 (1))), (5, (.int .i64 (20)))]) (cs := [(.int .i64 (6)), (.int .i64 (9)), (.int .i64 (14)), (.int .i64 (3)), (.int .i64 (1)), (.int .i64 (20))]) et_46 hf hm rfl rfl (by kernel_rfl) rfl rfl) ?_
    clear hf a; rintro _ w1_7 a ⟨b1_4, rfl, hm⟩ hf
    replace hm := hm.lit (xs := ([6, 9, 14, 3, 1, 20] : List Int)) 0 rfl rfl rfl rfl
    obtain ⟨r1_3, hx1_3, hb0_1⟩ := bnd hb0_1
    obtain ⟨hz1_5, hle, hm1, hsub, hk1_3⟩ := hm.take2 (L1 := [blk bp0 [v1p, (.int .i64 (r1_2.2.p))] 110]) (L2 := [ow [(.slice (some ⟨b1_4, 0, none⟩) 6 6)] ([6, 9, 14, 3, 1, 20] : List Int), blk b1_3 [(.int .i64 (r1_1.1)), (.int .i64 (r1_2.1)), (.slice none 0 0)] 35, ow [(.slice (some ⟨b1_2, 0, none⟩) 4 4)] ([2, 0, 5, 1] : List Int), ow [(.slice (some ⟨b1_1, 0, none⟩) 4 4)] ([1, 0, 2, 3] : List Int), blk b0_1 [(.slice none 0 0)] 99, blk b0_2 [v1_1] 99, ow [v1_1] xs1_1.2]) [2] [0, 1, 3, 4, 5, 6, 7] (by decide) rfl rfl
    refine st_ef hf rfl rfl rfl (e_call hf rfl Tryd.call78 rfl (pspec_l30Rd__num_ok _ hz1_5 (⟨r_.b, r1_2.2.p⟩ : l30Rd) bp0 v1p (GT.mono hle h1p) ([6, 9, 14, 3, 1, 20] : List Int) (.slice (some ⟨b1_4, 0, none⟩) 6 6) (fz_ow (hsub 0 _ rfl)) hm1  _ hx1_3)) ?_
    clear hf a; rintro v1_4 w1_8 a ho1_3 hf
    obtain ⟨rfl, hB⟩ := ho1_3
    replace hm := hk1_3 _ _ hB; clear hB
    refine st_y hf rfl rfl rfl (y_assign rfl rfl) ?_
    clear hf a; intro a hf
    refine st_end ?_
    refine x_then_n ?_
    refine wp_seq ?_
    refine wp_seq ?_
    refine wp_region_lit ?_
    refine st_y hf rfl rfl rfl (y_assign rfl rfl) ?_
    clear hf a; intro a hf
    refine st_end ?_
    refine x_then_n ?_
    obtain ⟨p1_1, c1_1, he, hl1_1⟩ := ro_slice (hm.ow_rep 7 rfl)
    subst he
    refine wp_block ?_
    obtain ⟨_, hfit1_1, hb0_1⟩ := bnd hb0_1
    replace hfit1_1 := fitI_some.1 hfit1_1
    obtain ⟨r1_4, hl1_2, hb0_1⟩ := bnd hb0_1
    refine wp_forN _ (fun i2_1 xs2_1 a w => ∃ (v2_1 : Value), Fr 75 [(0, (.pointer (some ⟨bp0, 0, none⟩))), (2, (.pointer (some ⟨b0_1, 0, none⟩))), (3, (.pointer (some ⟨b0_2, 0, none⟩))), (4, (.int .i64 (r0_1.1))), (5, (.int .i64 (i1_1))), (6, (.pointer (some ⟨b1_3, 0, none⟩))), (7, (.int .i64 (r1_3.1))), (8, (.int .i64 (i2_1)))] a ∧ Mem w0 hz w [blk bp0 [v1p, (.int .i64 (xs2_1.1))] 110, blk b0_1 [(.slice none 0 0)] 99, blk b0_2 [(.slice p1_1 xs1_1.2.length c1_1)] 99, ow [(.slice p1_1 xs1_1.2.length c1_1)] xs1_1.2, blk b1_3 [(.int .i64 (r1_1.1)), (.int .i64 (r1_2.1)), v2_1] 35, ow [v2_1] xs2_1.2]) (0) (w64 (r1_3.1 - 1)) hl1_2 ?_ ?_ ?_
    ·
      have hm := hm.nilow (α := Mins)
      exact ⟨(.slice none 0 0), hf.sub ⟨rfl, rfl, rfl, rfl, rfl, rfl, rfl, rfl, trivial⟩, hm.pick [1, 6, 7, 8, 3, 0] (by decide) rfl⟩
    ·
      clear hf hm
      rintro i2_1 xs2_1 a w ⟨v2_1, hf, hm⟩ hi2_1 hi2_2 q1_1 hb1_1 ho1_4
      refine wp_seq ?_
      refine wp_seq ?_
      refine wp_region_lit ?_
      refine st_y hf rfl rfl rfl (y_move rfl rfl) ?_
      clear hf a; intro a hf
      refine st_y hf rfl rfl rfl (y_move rfl rfl) ?_
      clear hf a; intro a hf
      refine st_y hf rfl rfl rfl (y_subw rfl rfl rfl) ?_
      clear hf a; intro a hf
      refine st_y hf rfl rfl rfl (y_lss rfl rfl rfl) ?_
      clear hf a; intro a hf
      refine st_end ?_
      refine x_then_n ?_
      refine cond_t hf rfl (decide_eq_true (by omega)) ?_
      refine wp_skip ?_
      refine x_then_n ?_
      refine wp_seq ?_
      refine wp_block ?_
      refine wp_tree (.p 0 (.p 2 (.p 3 (.p 5 (.q 1 (.e 4 (.e 6 (.e 7 (.e 8 (.p 9 (.e 10 .fin .nil)) .nil) .nil) .nil) .nil)))))) [4, 6, 7] [0, 2, 3, 5, 9] (fun w => Mem w0 hz w [blk b0_1 [(.slice none 0 0)] 99, blk b0_2 [(.slice p1_1 xs1_1.2.length c1_1)] 99, ow [(.slice p1_1 xs1_1.2.length c1_1)] xs1_1.2, blk b1_3 [(.int .i64 (r1_1.1)), (.int .i64 (r1_2.1)), v2_1] 35, ow [v2_1] xs2_1.2]) (by kernel_rfl) (by kernel_rfl) (fun _ _ _ h => h.2) ?_
      replace hm := hm.drew
      have hS : Mem w0 hz _ [blk b0_1 [(.slice none 0 0)] 99, blk b0_2 [(.slice p1_1 xs1_1.2.length c1_1)] 99, ow [(.slice p1_1 xs1_1.2.length c1_1)] xs1_1.2, blk b1_3 [(.int .i64 (r1_1.1)), (.int .i64 (r1_2.1)), v2_1] 35, ow [v2_1] xs2_1.2] := hm.pick [1, 2, 3, 4, 5] (by decide) rfl
      refine td_p hf rfl rfl rfl rfl (fun w => y_fieldAddr fo_35_2 rfl rfl) ?_
      clear hf a; intro a hf
      refine td_p hf rfl rfl rfl rfl (fun w => y_move rfl rfl) ?_
      clear hf a; intro a hf
      refine td_p hf rfl rfl rfl rfl (fun w => y_move rfl rfl) ?_
      clear hf a; intro a hf
      refine td_p hf rfl rfl rfl rfl (fun w => y_move rfl rfl) ?_
      clear hf a; intro a hf
      refine td_y hf rfl rfl rfl rfl hS (fun w hm => y_load1 Tryd.isAgg33 rfl rfl (hm.blk_cell 3 rfl rfl)) ?_
      clear hf a; intro a hf
      refine te_one ?_
      refine td_ef hf rfl rfl rfl rfl (ef_y hf (y_loadN (cs := [(.int .i64 (r1_1.1)), (.int .i64 (r1_2.1)), v2_1]) Tryd.isAgg35 Tryd.sizeOf35 rfl rfl (hm.blk_at 4 rfl))) ?_
      clear hf a; rintro _ _ a ⟨rfl, rfl⟩ hf
      refine ⟨fun _ => hS, ?_⟩
      refine te_one ?_
      obtain ⟨r2_1, hx2_1, hb1_1⟩ := bnd hb1_1
      obtain ⟨hz2_1, hle, hm1, hsub, hk2_1⟩ := hm.take2 (L1 := [blk bp0 [v1p, (.int .i64 (xs2_1.1))] 110]) (L2 := [blk b0_1 [(.slice none 0 0)] 99, blk b0_2 [(.slice p1_1 xs1_1.2.length c1_1)] 99, ow [(.slice p1_1 xs1_1.2.length c1_1)] xs1_1.2, blk b1_3 [(.int .i64 (r1_1.1)), (.int .i64 (r1_2.1)), v2_1] 35, ow [v2_1] xs2_1.2]) [0] [1, 2, 3, 4, 5] (by decide) rfl rfl
      refine td_ef hf rfl rfl rfl rfl (e_call hf rfl Tryd.call84 rfl (spec_l22Some_ok _ hz2_1 (⟨r_.b, xs2_1.1⟩ : l30Rd) bp0 v1p (GT.mono hle h1p) i1_1 (⟨r1_1.1, r1_2.1, xs2_1.2⟩ : Mfn) v2_1 (fz_ow (hsub 4 _ rfl)) r1_3.1 hm1  _ hx2_1)) ?_
      clear hf a; rintro v2_2 w2_1 a ho2_1 hf
      obtain ⟨rfl, hB⟩ := ho2_1
      replace hm := hk2_1 _ _ hB; clear hB
      clear hS
      have hS : Mem w0 hz _ [blk b0_1 [(.slice none 0 0)] 99, blk b0_2 [(.slice p1_1 xs1_1.2.length c1_1)] 99, ow [(.slice p1_1 xs1_1.2.length c1_1)] xs1_1.2, blk b1_3 [(.int .i64 (r1_1.1)), (.int .i64 (r1_2.1)), v2_1] 35, ow [v2_1] xs2_1.2] := hm.pick [1, 2, 3, 4, 5] (by decide) rfl
      refine ⟨fun _ => hS, ?_⟩
      refine te_one ?_
      refine td_ef hf rfl rfl rfl rfl (e_build (vs := #[(0, (.agg #[(.int .i64 (r2_1.1.op)), (.int .i64 (r2_1.1.a_)), (.int .i64 (r2_1.1.b)), (.int .i64 (r2_1.1.c)), (.int .i64 (r2_1.1.n_))]))]) (cs := [(.int .i64 (r2_1.1.op)), (.int .i64 (r2_1.1.a_)), (.int .i64 (r2_1.1.b)), (.int .i64 (r2_1.1.c)), (.int .i64 (r2_1.1.n_))]) et_33 hf hm rfl rfl (by kernel_rfl) rfl rfl) ?_
      clear hf a; rintro _ w2_2 a ⟨b2_1, rfl, hm⟩ hf
      replace hm := hm.lit (xs := ([r2_1.1] : List Mins)) 0 rfl rfl rfl rfl
      clear hS
      have hS : Mem w0 hz _ [blk b0_1 [(.slice none 0 0)] 99, blk b0_2 [(.slice p1_1 xs1_1.2.length c1_1)] 99, ow [(.slice p1_1 xs1_1.2.length c1_1)] xs1_1.2, blk b1_3 [(.int .i64 (r1_1.1)), (.int .i64 (r1_2.1)), v2_1] 35, ow [v2_1] xs2_1.2] := hm.pick [2, 3, 4, 5, 6] (by decide) rfl
      refine ⟨fun _ => hS, ?_⟩
      refine te_one ?_
      obtain ⟨ys2_1, hx2_2, hb1_1⟩ := bnd hb1_1
      obtain ⟨h2_1, h2_1e⟩ := appM_some.1 hx2_2
      refine td_ef hf rfl rfl rfl rfl (e_append 6 et_33 hf hm rfl (hm.ow_rep 0 rfl) rfl rfl rfl h2_1) ?_
      clear hf a; rintro v2_3 w2_3 a hm hf
      rw [h2_1e] at hm
      refine ⟨fun h => absurd h (by decide), ?_⟩
      refine td_p hf rfl rfl rfl rfl (fun w => y_fieldAddr fo_35_2 rfl rfl) ?_
      clear hf a; intro a hf
      refine te_one ?_
      refine td_ef0 hf rfl rfl rfl (e_store1 5 hf hm rfl Tryd.sizeOf33 rfl rfl rfl (rep_one (hm.ow_rep 6 rfl)) rfl) ?_
      clear hf a; rintro _ w2_4 a hm hf
      refine ⟨fun h => absurd h (by decide), ?_⟩
      clear hS; refine td_end ?_
      refine x_blk_n ?_
      refine x_then_n ?_
      refine wp_region_lit ?_
      refine st_y hf rfl rfl rfl (y_move rfl rfl) ?_
      clear hf a; intro a hf
      refine st_y hf rfl rfl rfl (y_add64 rfl rfl rfl (by omega) (by omega)) ?_
      clear hf a; intro a hf
      refine st_y hf rfl rfl rfl (y_assign rfl rfl) ?_
      clear hf a; intro a hf
      refine st_end ?_
      refine x_then_n ?_
      obtain rfl := Option.some.inj hb1_1
      exact ⟨_, rfl, v2_3, hf.sub ⟨rfl, rfl, rfl, rfl, rfl, rfl, rfl, rfl, trivial⟩, hm.pick [1, 2, 3, 4, 5, 6] (by decide) rfl⟩
    ·
      clear hf hm
      rintro i1_2 xs1_2 a w ⟨v1_5, hf, hm⟩ hi1_3 hi1_4 rfl
      replace hb0_1 := sum_l hb0_1
      refine wp_seq ?_
      refine wp_seq ?_
      refine wp_region_lit ?_
      refine st_y hf rfl rfl rfl (y_move rfl rfl) ?_
      clear hf a; intro a hf
      refine st_y hf rfl rfl rfl (y_move rfl rfl) ?_
      clear hf a; intro a hf
      refine st_y hf rfl rfl rfl (y_subw rfl rfl rfl) ?_
      clear hf a; intro a hf
      refine st_y hf rfl rfl rfl (y_lss rfl rfl rfl) ?_
      clear hf a; intro a hf
      refine st_end ?_
      refine x_then_n ?_
      refine cond_f hf rfl (decide_eq_false (by omega)) ?_
      refine wp_exit ?_
      refine x_then_exit ?_
      refine x_then_exit ?_
      refine x_blk_hit ?_
      refine x_then_n ?_
      refine wp_seq ?_
      refine wp_seq ?_
      obtain ⟨s1_1, hq1_1, hb0_1⟩ := bnd hb0_1
      refine code_cut (K := fun a w => Fr 75 [(0, (.pointer (some ⟨bp0, 0, none⟩))), (2, (.pointer (some ⟨b0_1, 0, none⟩))), (3, (.pointer (some ⟨b0_2, 0, none⟩))), (4, (.int .i64 (r0_1.1))), (5, (.int .i64 (i1_1))), (6, (.pointer (some ⟨b1_3, 0, none⟩))), (7, (.int .i64 (r1_3.1))), (50, (.bool (s1_1.2)))] a ∧ Mem w0 hz w [blk bp0 [v1p, (.int .i64 (s1_1.1))] 110, blk b0_1 [(.slice none 0 0)] 99, blk b0_2 [(.slice p1_1 xs1_1.2.length c1_1)] 99, ow [(.slice p1_1 xs1_1.2.length c1_1)] xs1_1.2, blk b1_3 [(.int .i64 (r1_1.1)), (.int .i64 (r1_2.1)), v1_5] 35, ow [v1_5] xs1_2.2]) ?_ ?_
      ·
        refine wp_region_lit ?_
        refine st_y hf rfl rfl rfl (y_move rfl rfl) ?_
        clear hf a; intro a hf
        refine st_y hf rfl rfl rfl (y_gtr rfl rfl rfl) ?_
        clear hf a; intro a hf
        refine st_y hf rfl rfl rfl (y_move rfl rfl) ?_
        clear hf a; intro a hf
        rcases bcases (decide (1 < r1_3.1)) with h2_2 | h2_2
        ·
          replace hq1_1 := (ite_t h2_2).symm.trans hq1_1
          have h2_3 := of_decide_eq_true h2_2
          refine st_yg hf rfl rfl (lk_b rfl h2_2) rfl rfl (y_move rfl rfl) ?_
          clear hf a; intro a hf
          obtain ⟨r2_2, hx2_3, hq1_1⟩ := bnd hq1_1
          obtain ⟨hz2_3, hle, hm1, hsub, hk2_2⟩ := hm.take2 (L1 := [blk bp0 [v1p, (.int .i64 (xs1_2.1))] 110]) (L2 := [blk b0_1 [(.slice none 0 0)] 99, blk b0_2 [(.slice p1_1 xs1_1.2.length c1_1)] 99, ow [(.slice p1_1 xs1_1.2.length c1_1)] xs1_1.2, blk b1_3 [(.int .i64 (r1_1.1)), (.int .i64 (r1_2.1)), v1_5] 35, ow [v1_5] xs1_2.2]) [0] [1, 2, 3, 4, 5] (by decide) rfl rfl
          refine st_efg hf rfl rfl (lk_b rfl h2_2) rfl rfl (e_call hf rfl Tryd.call68 rfl (pspec_l30Rd__pick_ok _ hz2_3 (⟨r_.b, xs1_2.1⟩ : l30Rd) bp0 v1p (GT.mono hle h1p) 6 hm1  _ hx2_3)) ?_
          clear hf a; rintro v2_4 w2_5 a ho2_2 hf
          obtain ⟨rfl, hB⟩ := ho2_2
          replace hm := hk2_2 _ _ hB; clear hB
          refine st_yg hf rfl rfl (lk_b rfl h2_2) rfl rfl (y_eql rfl rfl rfl) ?_
          clear hf a; intro a hf
          refine st_y hf rfl rfl rfl (y_pick_t rfl (ev_b rfl h2_2) rfl) ?_
          clear hf a; intro a hf
          refine st_end ?_
          refine x_then_n ?_
          obtain rfl := Option.some.inj hq1_1
          exact ⟨hf.sub ⟨rfl, rfl, rfl, rfl, rfl, rfl, rfl, rfl, trivial⟩, hm.pick [0, 1, 2, 3, 4, 5] (by decide) rfl⟩
        ·
          replace hq1_1 := (ite_f h2_2).symm.trans hq1_1
          have h2_4 := of_decide_eq_false h2_2
          refine st_no hf rfl rfl (lk_b rfl h2_2) rfl rfl rfl ?_
          clear hf a; intro a hf
          refine st_no hf rfl rfl (lk_b rfl h2_2) rfl rfl rfl ?_
          clear hf a; intro a hf
          refine st_no hf rfl rfl (lk_b rfl h2_2) rfl rfl rfl ?_
          clear hf a; intro a hf
          refine st_y hf rfl rfl rfl (y_pick_f rfl (ev_b rfl h2_2) rfl) ?_
          clear hf a; intro a hf
          refine st_end ?_
          refine x_then_n ?_
          obtain rfl := Option.some.inj hq1_1
          exact ⟨hf.sub ⟨rfl, rfl, rfl, rfl, rfl, rfl, rfl, rfl, trivial⟩, hm.pick [0, 1, 2, 3, 4, 5] (by decide) rfl⟩
      ·
        clear hf hm
        rintro a w ⟨hf, hm⟩
        refine x_then_n ?_
        obtain ⟨s1_2, hq1_2, hb0_1⟩ := bnd hb0_1
        refine code_cut (K := fun a w => ∃ (v1_6 : Value), Fr 75 [(0, (.pointer (some ⟨bp0, 0, none⟩))), (2, (.pointer (some ⟨b0_1, 0, none⟩))), (3, (.pointer (some ⟨b0_2, 0, none⟩))), (4, (.int .i64 (r0_1.1))), (5, (.int .i64 (i1_1))), (6, (.pointer (some ⟨b1_3, 0, none⟩)))] a ∧ Mem w0 hz w [blk bp0 [v1p, (.int .i64 (s1_2.1))] 110, blk b0_1 [(.slice none 0 0)] 99, blk b0_2 [(.slice p1_1 xs1_1.2.length c1_1)] 99, ow [(.slice p1_1 xs1_1.2.length c1_1)] xs1_1.2, blk b1_3 [(.int .i64 (r1_1.1)), (.int .i64 (r1_2.1)), v1_6] 35, ow [v1_6] s1_2.2]) ?_ ?_
        ·
          rcases bcases (s1_1.2) with h2_5 | h2_5
          ·
            replace hq1_2 := (ite_t h2_5).symm.trans hq1_2
            refine cond_t hf rfl h2_5 ?_
            refine wp_tree (.p 0 (.p 2 (.p 3 (.q 1 (.e 4 (.p 5 (.e 6 (.e 7 (.p 8 (.e 9 .fin .nil)) .nil) .nil)) .nil))))) [4, 6] [0, 2, 3, 5, 8] (fun w => Mem w0 hz w [blk b0_1 [(.slice none 0 0)] 99, blk b0_2 [(.slice p1_1 xs1_1.2.length c1_1)] 99, ow [(.slice p1_1 xs1_1.2.length c1_1)] xs1_1.2, blk b1_3 [(.int .i64 (r1_1.1)), (.int .i64 (r1_2.1)), v1_5] 35, ow [v1_5] xs1_2.2]) (by kernel_rfl) (by kernel_rfl) (fun _ _ _ h => h.2) ?_
            replace hm := hm.drew
            have hS : Mem w0 hz _ [blk b0_1 [(.slice none 0 0)] 99, blk b0_2 [(.slice p1_1 xs1_1.2.length c1_1)] 99, ow [(.slice p1_1 xs1_1.2.length c1_1)] xs1_1.2, blk b1_3 [(.int .i64 (r1_1.1)), (.int .i64 (r1_2.1)), v1_5] 35, ow [v1_5] xs1_2.2] := hm.pick [1, 2, 3, 4, 5] (by decide) rfl
            refine td_p hf rfl rfl rfl rfl (fun w => y_fieldAddr fo_35_2 rfl rfl) ?_
            clear hf a; intro a hf
            refine td_p hf rfl rfl rfl rfl (fun w => y_move rfl rfl) ?_
            clear hf a; intro a hf
            refine td_p hf rfl rfl rfl rfl (fun w => y_move rfl rfl) ?_
            clear hf a; intro a hf
            refine td_y hf rfl rfl rfl rfl hS (fun w hm => y_load1 Tryd.isAgg33 rfl rfl (hm.blk_cell 3 rfl rfl)) ?_
            clear hf a; intro a hf
            refine te_one ?_
            obtain ⟨r2_3, hx2_4, hq1_2⟩ := bnd hq1_2
            obtain ⟨hz2_5, hle, hm1, hsub, hk2_3⟩ := hm.take2 (L1 := [blk bp0 [v1p, (.int .i64 (s1_1.1))] 110]) (L2 := [blk b0_1 [(.slice none 0 0)] 99, blk b0_2 [(.slice p1_1 xs1_1.2.length c1_1)] 99, ow [(.slice p1_1 xs1_1.2.length c1_1)] xs1_1.2, blk b1_3 [(.int .i64 (r1_1.1)), (.int .i64 (r1_2.1)), v1_5] 35, ow [v1_5] xs1_2.2]) [0] [1, 2, 3, 4, 5] (by decide) rfl rfl
            refine td_ef hf rfl rfl rfl rfl (e_call hf rfl Tryd.call68 rfl (pspec_l30Rd__pick_ok _ hz2_5 (⟨r_.b, s1_1.1⟩ : l30Rd) bp0 v1p (GT.mono hle h1p) r1_3.1 hm1  _ hx2_4)) ?_
            clear hf a; rintro v2_5 w2_6 a ho2_3 hf
            obtain ⟨rfl, hB⟩ := ho2_3
            replace hm := hk2_3 _ _ hB; clear hB
            clear hS
            have hS : Mem w0 hz _ [blk b0_1 [(.slice none 0 0)] 99, blk b0_2 [(.slice p1_1 xs1_1.2.length c1_1)] 99, ow [(.slice p1_1 xs1_1.2.length c1_1)] xs1_1.2, blk b1_3 [(.int .i64 (r1_1.1)), (.int .i64 (r1_2.1)), v1_5] 35, ow [v1_5] xs1_2.2] := hm.pick [1, 2, 3, 4, 5] (by decide) rfl
            refine ⟨fun _ => hS, ?_⟩
            refine td_p hf rfl rfl rfl rfl (fun w => y_build (vs := [(0, (.int .i64 (20))), (4, (.int .i64 (r2_3.1)))]) (cs := #[(.int .i64 (20)), (.int .i64 (0)), (.int .i64 (0)), (.int .i64 (0)), (.int .i64 (r2_3.1))]) rfl rfl (by kernel_rfl)) ?_
            clear hf a; intro a hf
            refine te_one ?_
            refine td_ef hf rfl rfl rfl rfl (e_build (vs := #[(0, (.agg #[(.int .i64 (20)), (.int .i64 (0)), (.int .i64 (0)), (.int .i64 (0)), (.int .i64 (r2_3.1))]))]) (cs := [(.int .i64 (20)), (.int .i64 (0)), (.int .i64 (0)), (.int .i64 (0)), (.int .i64 (r2_3.1))]) et_33 hf hm rfl rfl (by kernel_rfl) rfl rfl) ?_
            clear hf a; rintro _ w2_7 a ⟨b2_2, rfl, hm⟩ hf
            replace hm := hm.lit (xs := ([(⟨20, 0, 0, 0, r2_3.1⟩ : Mins)] : List Mins)) 0 rfl rfl rfl rfl
            clear hS
            have hS : Mem w0 hz _ [blk b0_1 [(.slice none 0 0)] 99, blk b0_2 [(.slice p1_1 xs1_1.2.length c1_1)] 99, ow [(.slice p1_1 xs1_1.2.length c1_1)] xs1_1.2, blk b1_3 [(.int .i64 (r1_1.1)), (.int .i64 (r1_2.1)), v1_5] 35, ow [v1_5] xs1_2.2] := hm.pick [2, 3, 4, 5, 6] (by decide) rfl
            refine ⟨fun _ => hS, ?_⟩
            refine te_one ?_
            obtain ⟨ys2_2, hx2_5, hq1_2⟩ := bnd hq1_2
            obtain ⟨h2_6, h2_6e⟩ := appM_some.1 hx2_5
            refine td_ef hf rfl rfl rfl rfl (e_append 6 et_33 hf hm rfl (hm.ow_rep 0 rfl) rfl rfl rfl h2_6) ?_
            clear hf a; rintro v2_6 w2_8 a hm hf
            rw [h2_6e] at hm
            refine ⟨fun h => absurd h (by decide), ?_⟩
            refine td_p hf rfl rfl rfl rfl (fun w => y_fieldAddr fo_35_2 rfl rfl) ?_
            clear hf a; intro a hf
            refine te_one ?_
            refine td_ef0 hf rfl rfl rfl (e_store1 5 hf hm rfl Tryd.sizeOf33 rfl rfl rfl (rep_one (hm.ow_rep 6 rfl)) rfl) ?_
            clear hf a; rintro _ w2_9 a hm hf
            refine ⟨fun h => absurd h (by decide), ?_⟩
            clear hS; refine td_end ?_
            refine x_then_n ?_
            obtain rfl := Option.some.inj hq1_2
            exact ⟨v2_6, hf.sub ⟨rfl, rfl, rfl, rfl, rfl, rfl, trivial⟩, hm.pick [1, 2, 3, 4, 5, 6] (by decide) rfl⟩
          ·
            replace hq1_2 := (ite_f h2_5).symm.trans hq1_2
            refine cond_f hf rfl h2_5 ?_
            refine wp_tree (.p 0 (.p 2 (.q 1 (.e 3 (.p 4 (.e 5 (.e 6 (.p 7 (.e 8 .fin .nil)) .nil) .nil)) .nil)))) [3, 5] [0, 2, 4, 7] (fun w => Mem w0 hz w [blk b0_1 [(.slice none 0 0)] 99, blk b0_2 [(.slice p1_1 xs1_1.2.length c1_1)] 99, ow [(.slice p1_1 xs1_1.2.length c1_1)] xs1_1.2, blk b1_3 [(.int .i64 (r1_1.1)), (.int .i64 (r1_2.1)), v1_5] 35, ow [v1_5] xs1_2.2]) (by kernel_rfl) (by kernel_rfl) (fun _ _ _ h => h.2) ?_
            replace hm := hm.drew
            have hS : Mem w0 hz _ [blk b0_1 [(.slice none 0 0)] 99, blk b0_2 [(.slice p1_1 xs1_1.2.length c1_1)] 99, ow [(.slice p1_1 xs1_1.2.length c1_1)] xs1_1.2, blk b1_3 [(.int .i64 (r1_1.1)), (.int .i64 (r1_2.1)), v1_5] 35, ow [v1_5] xs1_2.2] := hm.pick [1, 2, 3, 4, 5] (by decide) rfl
            refine td_p hf rfl rfl rfl rfl (fun w => y_fieldAddr fo_35_2 rfl rfl) ?_
            clear hf a; intro a hf
            refine td_p hf rfl rfl rfl rfl (fun w => y_move rfl rfl) ?_
            clear hf a; intro a hf
            refine td_y hf rfl rfl rfl rfl hS (fun w hm => y_load1 Tryd.isAgg33 rfl rfl (hm.blk_cell 3 rfl rfl)) ?_
            clear hf a; intro a hf
            refine te_one ?_
            obtain ⟨r2_4, hx2_6, hq1_2⟩ := bnd hq1_2
            obtain ⟨hz2_7, hle, hm1, hsub, hk2_4⟩ := hm.take2 (L1 := [blk bp0 [v1p, (.int .i64 (s1_1.1))] 110]) (L2 := [blk b0_1 [(.slice none 0 0)] 99, blk b0_2 [(.slice p1_1 xs1_1.2.length c1_1)] 99, ow [(.slice p1_1 xs1_1.2.length c1_1)] xs1_1.2, blk b1_3 [(.int .i64 (r1_1.1)), (.int .i64 (r1_2.1)), v1_5] 35, ow [v1_5] xs1_2.2]) [0] [1, 2, 3, 4, 5] (by decide) rfl rfl
            refine td_ef hf rfl rfl rfl rfl (e_call hf rfl Tryd.call68 rfl (pspec_l30Rd__pick_ok _ hz2_7 (⟨r_.b, s1_1.1⟩ : l30Rd) bp0 v1p (GT.mono hle h1p) 8 hm1  _ hx2_6)) ?_
            clear hf a; rintro v2_7 w2_10 a ho2_4 hf
            obtain ⟨rfl, hB⟩ := ho2_4
            replace hm := hk2_4 _ _ hB; clear hB
            clear hS
            have hS : Mem w0 hz _ [blk b0_1 [(.slice none 0 0)] 99, blk b0_2 [(.slice p1_1 xs1_1.2.length c1_1)] 99, ow [(.slice p1_1 xs1_1.2.length c1_1)] xs1_1.2, blk b1_3 [(.int .i64 (r1_1.1)), (.int .i64 (r1_2.1)), v1_5] 35, ow [v1_5] xs1_2.2] := hm.pick [1, 2, 3, 4, 5] (by decide) rfl
            refine ⟨fun _ => hS, ?_⟩
            refine td_p hf rfl rfl rfl rfl (fun w => y_build (vs := [(0, (.int .i64 (22))), (1, (.int .i64 (r2_4.1)))]) (cs := #[(.int .i64 (22)), (.int .i64 (r2_4.1)), (.int .i64 (0)), (.int .i64 (0)), (.int .i64 (0))]) rfl rfl (by kernel_rfl)) ?_
            clear hf a; intro a hf
            refine te_one ?_
            refine td_ef hf rfl rfl rfl rfl (e_build (vs := #[(0, (.agg #[(.int .i64 (22)), (.int .i64 (r2_4.1)), (.int .i64 (0)), (.int .i64 (0)), (.int .i64 (0))]))]) (cs := [(.int .i64 (22)), (.int .i64 (r2_4.1)), (.int .i64 (0)), (.int .i64 (0)), (.int .i64 (0))]) et_33 hf hm rfl rfl (by kernel_rfl) rfl rfl) ?_
            clear hf a; rintro _ w2_11 a ⟨b2_3, rfl, hm⟩ hf
            replace hm := hm.lit (xs := ([(⟨22, r2_4.1, 0, 0, 0⟩ : Mins)] : List Mins)) 0 rfl rfl rfl rfl
            clear hS
            have hS : Mem w0 hz _ [blk b0_1 [(.slice none 0 0)] 99, blk b0_2 [(.slice p1_1 xs1_1.2.length c1_1)] 99, ow [(.slice p1_1 xs1_1.2.length c1_1)] xs1_1.2, blk b1_3 [(.int .i64 (r1_1.1)), (.int .i64 (r1_2.1)), v1_5] 35, ow [v1_5] xs1_2.2] := hm.pick [2, 3, 4, 5, 6] (by decide) rfl
            refine ⟨fun _ => hS, ?_⟩
            refine te_one ?_
            obtain ⟨ys2_3, hx2_7, hq1_2⟩ := bnd hq1_2
            obtain ⟨h2_7, h2_7e⟩ := appM_some.1 hx2_7
            refine td_ef hf rfl rfl rfl rfl (e_append 6 et_33 hf hm rfl (hm.ow_rep 0 rfl) rfl rfl rfl h2_7) ?_
            clear hf a; rintro v2_8 w2_12 a hm hf
            rw [h2_7e] at hm
            refine ⟨fun h => absurd h (by decide), ?_⟩
            refine td_p hf rfl rfl rfl rfl (fun w => y_fieldAddr fo_35_2 rfl rfl) ?_
            clear hf a; intro a hf
            refine te_one ?_
            refine td_ef0 hf rfl rfl rfl (e_store1 5 hf hm rfl Tryd.sizeOf33 rfl rfl rfl (rep_one (hm.ow_rep 6 rfl)) rfl) ?_
            clear hf a; rintro _ w2_13 a hm hf
            refine ⟨fun h => absurd h (by decide), ?_⟩
            clear hS; refine td_end ?_
            refine x_then_n ?_
            obtain rfl := Option.some.inj hq1_2
            exact ⟨v2_8, hf.sub ⟨rfl, rfl, rfl, rfl, rfl, rfl, trivial⟩, hm.pick [1, 2, 3, 4, 5, 6] (by decide) rfl⟩
        ·
          clear hf hm
          rintro a w ⟨v1_6, hf, hm⟩
          refine x_then_n ?_
          refine wp_region_lit ?_
          refine st_y hf rfl rfl rfl (y_fieldAddr fo_99_0 rfl rfl) ?_
          clear hf a; intro a hf
          refine st_y hf rfl rfl rfl (y_load1 Tryd.isAgg97 rfl rfl (hm.blk_cell 2 rfl rfl)) ?_
          clear hf a; intro a hf
          refine st_y hf rfl rfl rfl (y_loadN (cs := [(.int .i64 (r1_1.1)), (.int .i64 (r1_2.1)), v1_6]) Tryd.isAgg35 Tryd.sizeOf35 rfl rfl (hm.blk_at 4 rfl)) ?_
          clear hf a; intro a hf
          refine st_ef hf rfl rfl rfl (e_build (vs := #[(0, (.agg #[(.int .i64 (r1_1.1)), (.int .i64 (r1_2.1)), v1_6]))]) (cs := [(.int .i64 (r1_1.1)), (.int .i64 (r1_2.1)), v1_6]) et_97 hf hm rfl rfl (by kernel_rfl) rfl rfl) ?_
          clear hf a; rintro _ w1_9 a ⟨b1_5, rfl, hm⟩ hf
          replace hm := hm.els_nil (α := Mfn)
          replace hm := hm.own0 (c := [(.int .i64 (r1_1.1))]) (x := (r1_1.1 : Int)) (fun h => Flat.own_iff.2 rfl)
          replace hm := hm.own0 (c := [(.int .i64 (r1_2.1))]) (x := (r1_2.1 : Int)) (fun h => Flat.own_iff.2 rfl)
          replace hm := (hm.pair (x := (r1_2.1 : Int)) (y := (s1_2.2 : List Mins)) 0 9 (by decide) rfl rfl).pick (L' := [ow [(.int .i64 (r1_2.1)), v1_6] ((r1_2.1, s1_2.2) : Int × (List Mins)), ow [(.int .i64 (r1_1.1))] (r1_1.1 : Int), els [] ([] : List Mfn), blk b1_5 [(.int .i64 (r1_1.1)), (.int .i64 (r1_2.1)), v1_6] 35, blk bp0 [v1p, (.int .i64 (s1_2.1))] 110, blk b0_1 [(.slice none 0 0)] 99, blk b0_2 [(.slice p1_1 xs1_1.2.length c1_1)] 99, ow [(.slice p1_1 xs1_1.2.length c1_1)] xs1_1.2, blk b1_3 [(.int .i64 (r1_1.1)), (.int .i64 (r1_2.1)), v1_6] 35]) [0, 1, 2, 3, 4, 5, 6, 7, 8] (by decide) rfl
          replace hm := (hm.pair (x := (r1_1.1 : Int)) (y := ((r1_2.1, s1_2.2) : Int × (List Mins))) 1 0 (by decide) rfl rfl).pick (L' := [ow [(.int .i64 (r1_1.1)), (.int .i64 (r1_2.1)), v1_6] ((r1_1.1, (r1_2.1, s1_2.2)) : Int × Int × (List Mins)), els [] ([] : List Mfn), blk b1_5 [(.int .i64 (r1_1.1)), (.int .i64 (r1_2.1)), v1_6] 35, blk bp0 [v1p, (.int .i64 (s1_2.1))] 110, blk b0_1 [(.slice none 0 0)] 99, blk b0_2 [(.slice p1_1 xs1_1.2.length c1_1)] 99, ow [(.slice p1_1 xs1_1.2.length c1_1)] xs1_1.2, blk b1_3 [(.int .i64 (r1_1.1)), (.int .i64 (r1_2.1)), v1_6] 35]) [1, 2, 3, 4, 5, 6, 7, 8] (by decide) rfl
          replace hm := hm.imp (c' := ow [(.int .i64 (r1_1.1)), (.int .i64 (r1_2.1)), v1_6] ((⟨r1_1.1, r1_2.1, s1_2.2⟩ : Mfn) : Mfn)) 0 rfl (fun F h0 => h0)
          replace hm := (hm.els_cons 1 0 (by decide) rfl rfl).pick (L' := [els [(.int .i64 (r1_1.1)), (.int .i64 (r1_2.1)), v1_6] ([(⟨r1_1.1, r1_2.1, s1_2.2⟩ : Mfn)] : List Mfn), blk b1_5 [(.int .i64 (r1_1.1)), (.int .i64 (r1_2.1)), v1_6] 35, blk bp0 [v1p, (.int .i64 (s1_2.1))] 110, blk b0_1 [(.slice none 0 0)] 99, blk b0_2 [(.slice p1_1 xs1_1.2.length c1_1)] 99, ow [(.slice p1_1 xs1_1.2.length c1_1)] xs1_1.2, blk b1_3 [(.int .i64 (r1_1.1)), (.int .i64 (r1_2.1)), v1_6] 35]) [1, 2, 3, 4, 5, 6, 7] (by decide) rfl
          replace hm := (hm.lit_els 1 0 (by decide) rfl rfl rfl rfl).pick (L' := [ow [(.slice (some ⟨b1_5, 0, none⟩) 1 1)] ([(⟨r1_1.1, r1_2.1, s1_2.2⟩ : Mfn)] : List Mfn), blk bp0 [v1p, (.int .i64 (s1_2.1))] 110, blk b0_1 [(.slice none 0 0)] 99, blk b0_2 [(.slice p1_1 xs1_1.2.length c1_1)] 99, ow [(.slice p1_1 xs1_1.2.length c1_1)] xs1_1.2, blk b1_3 [(.int .i64 (r1_1.1)), (.int .i64 (r1_2.1)), v1_6] 35]) [1, 2, 3, 4, 5, 6] (by decide) rfl
          obtain ⟨ys1_1, hx1_4, hb0_1⟩ := bnd hb0_1
          obtain ⟨h1_1, h1_1e⟩ := appM_some.1 hx1_4
          replace hm := (hm.both 4 0 (by decide) rfl rfl).pick (L' := [blk bp0 [v1p, (.int .i64 (s1_2.1))] 110, blk b0_1 [(.slice none 0 0)] 99, blk b0_2 [(.slice p1_1 xs1_1.2.length c1_1)] 99, both (ow [(.slice p1_1 xs1_1.2.length c1_1)] xs1_1.2) (ow [(.slice (some ⟨b1_5, 0, none⟩) 1 1)] ([(⟨r1_1.1, r1_2.1, s1_2.2⟩ : Mfn)] : List Mfn)), blk b1_3 [(.int .i64 (r1_1.1)), (.int .i64 (r1_2.1)), v1_6] 35]) [1, 2, 3, 4, 5] (by decide) rfl
          refine st_ef hf rfl rfl rfl (e_appendD (xs := xs1_1.2) (ys := ([(⟨r1_1.1, r1_2.1, s1_2.2⟩ : Mfn)] : List Mfn)) 3 et_97 hf hm rfl rfl rfl rfl h1_1) ?_
          clear hf a; rintro v1_7 w1_10 a hm hf
          rw [h1_1e] at hm
          refine st_y hf rfl rfl rfl (y_fieldAddr fo_99_0 rfl rfl) ?_
          clear hf a; intro a hf
          refine st_ef0 hf rfl rfl (e_store1 2 hf hm rfl Tryd.sizeOf97 rfl rfl rfl (rep_one (hm.ow_rep 3 rfl)) rfl) ?_
          clear hf a; rintro _ w1_11 a hm hf
          refine st_end ?_
          refine x_blk_n ?_
          refine x_then_n ?_
          refine wp_region_lit ?_
          refine st_y hf rfl rfl rfl (y_move rfl rfl) ?_
          clear hf a; intro a hf
          refine st_y hf rfl rfl rfl (y_add64 rfl rfl rfl (by omega) (by omega)) ?_
          clear hf a; intro a hf
          refine st_y hf rfl rfl rfl (y_assign rfl rfl) ?_
          clear hf a; intro a hf
          refine st_end ?_
          refine x_then_n ?_
          obtain rfl := Option.some.inj hb0_1
          exact ⟨_, rfl, v1_7, hf.sub ⟨rfl, rfl, rfl, rfl, rfl, trivial⟩, hm.pick [0, 1, 2, 3] (by decide) rfl⟩
  ·
    clear hf hm
    rintro i0_1 xs0_1 a w ⟨v0_2, hf, hm⟩ hi0_1 hi0_2 rfl
    replace hq := sum_l hq
    refine wp_seq ?_
    refine wp_seq ?_
    refine wp_region_lit ?_
    refine st_y hf rfl rfl rfl (y_move rfl rfl) ?_
    clear hf a; intro a hf
    refine st_y hf rfl rfl rfl (y_move rfl rfl) ?_
    clear hf a; intro a hf
    refine st_y hf rfl rfl rfl (y_lss rfl rfl rfl) ?_
    clear hf a; intro a hf
    refine st_end ?_
    refine x_then_n ?_
    refine cond_f hf rfl (decide_eq_false (by omega)) ?_
    refine wp_exit ?_
    refine x_then_exit ?_
    refine x_then_exit ?_
    refine x_blk_hit ?_
    refine x_then_n ?_
    refine wp_seq ?_
    refine wp_region_lit ?_
    refine st_y hf rfl rfl rfl (y_loadN (cs := [v0_2]) Tryd.isAgg99 Tryd.sizeOf99 rfl rfl (hm.blk_at 2 rfl)) ?_
    clear hf a; intro a hf
    refine st_ef0 hf rfl rfl (e_storeN 1 hf hm rfl Tryd.sizeOf99 rfl rfl rfl (one_cons (rep_one (hm.ow_rep 3 rfl)) one_nil) rfl rfl) ?_
    clear hf a; rintro _ w0_6 a hm hf
    refine st_end ?_
    refine x_then_n ?_
    refine wp_ret ?_
    obtain rfl := Option.some.inj hq
    refine ret_cell 1 hf Tryd.results77 hm rfl rfl Tryd.isAgg99 Tryd.sizeOf99 ?_
    exact ⟨v0_2, rfl, hm.pick [0, 3] (by decide) rfl⟩

theorem spec_l22Bent_ok (w0 : World) (hz : Heap) (r_ : l30Rd) (bp0 : Nat) (v1p : Value) (h1p : GT.rep hz [v1p] r_.b) (hm0 : Mem w0 hz w0 [blk bp0 [v1p, (.int .i64 (r_.p))] 110]) (r : Mach × l30Rd) (hq : spec_l22Bent r_ = some r) :
    Con Tryd.prog 67 [(.pointer (some ⟨bp0, 0, none⟩))] w0 (fun v w' => ∃ (x1 : Value), v = (.agg #[x1]) ∧ Mem w0 hz w' [blk bp0 [v1p, (.int .i64 (r.2.p))] 110, ow [x1] r.1.fns]) := by
  unfold spec_l22Bent at hq
  refine con_body (l := [(0, (.pointer (some ⟨bp0, 0, none⟩)))]) Tryd.func67 rfl Tryd.ntmps67 (Args.get ⟨rfl, trivial⟩) rfl ?_
  intro a hf
  have hm := hm0
  refine wp_seq ?_
  refine wp_region_lit ?_
  refine st_ef hf rfl rfl rfl (e_alloc hm Tryd.zeroValue99 rfl rfl) ?_
  clear hf a; rintro _ w0_1 a ⟨b0_1, rfl, hm⟩ hf
  refine st_end ?_
  refine x_then_n ?_
  refine wp_seq ?_
  refine wp_region_lit ?_
  refine st_y hf rfl rfl rfl (y_move rfl rfl) ?_
  clear hf a; intro a hf
  obtain ⟨r0_1, hx0_1, hq⟩ := bnd hq
  obtain ⟨hz0_1, hle, hm1, hsub, hk0_1⟩ := hm.take2 (L1 := [blk bp0 [v1p, (.int .i64 (r_.p))] 110]) (L2 := [blk b0_1 [(.slice none 0 0)] 99]) [1] [0] (by decide) rfl rfl
  refine st_ef hf rfl rfl rfl (e_call hf rfl Tryd.call77 rfl (spec_l22Mach_ok _ hz0_1 r_ bp0 v1p (GT.mono hle h1p) hm1  _ hx0_1)) ?_
  clear hf a; rintro v0_1 w0_2 a ho0_1 hf
  obtain ⟨v0_2, rfl, hB⟩ := ho0_1
  replace hm := hk0_1 _ _ hB; clear hB
  refine st_ef hf rfl rfl rfl (e_alloc hm Tryd.zeroValue99 rfl rfl) ?_
  clear hf a; rintro _ w0_3 a ⟨b0_2, rfl, hm⟩ hf
  refine st_ef0 hf rfl rfl (e_storeN 0 hf hm rfl Tryd.sizeOf99 rfl rfl rfl (one_cons (rep_one (hm.ow_rep 2 rfl)) one_nil) rfl rfl) ?_
  clear hf a; rintro _ w0_4 a hm hf
  refine st_end ?_
  refine x_then_n ?_
  refine wp_seq ?_
  refine wp_tree (.p 0 (.p 2 (.p 3 (.q 1 (.e 4 (.p 5 (.e 6 (.p 7 (.p 8 .fin)) .nil)) .nil))))) [4, 6] [0, 2, 3, 5, 7, 8] (fun w => Mem w0 hz w [blk b0_2 [v0_2] 99, ow [v0_2] r0_1.1.fns, blk b0_1 [(.slice none 0 0)] 99]) (by kernel_rfl) (by kernel_rfl) (fun _ _ _ h => h.2) ?_
  replace hm := hm.drew
  have hS : Mem w0 hz _ [blk b0_2 [v0_2] 99, ow [v0_2] r0_1.1.fns, blk b0_1 [(.slice none 0 0)] 99] := hm.pick [0, 2, 3] (by decide) rfl
  refine td_p hf rfl rfl rfl rfl (fun w => y_fieldAddr fo_99_0 rfl rfl) ?_
  clear hf a; intro a hf
  refine td_p hf rfl rfl rfl rfl (fun w => y_move rfl rfl) ?_
  clear hf a; intro a hf
  refine td_p hf rfl rfl rfl rfl (fun w => y_fieldAddr fo_99_0 rfl rfl) ?_
  clear hf a; intro a hf
  refine td_y hf rfl rfl rfl rfl hS (fun w hm => y_load1 Tryd.isAgg97 rfl rfl (hm.blk_cell 0 rfl rfl)) ?_
  clear hf a; intro a hf
  refine te_one ?_
  refine td_ef hf rfl rfl rfl rfl (ef_y hf (y_load1 Tryd.isAgg97 rfl rfl (hm.blk_cell 0 rfl rfl))) ?_
  clear hf a; rintro _ _ a ⟨rfl, rfl⟩ hf
  refine ⟨fun _ => hS, ?_⟩
  obtain ⟨p0_1, c0_1, he, hl0_1⟩ := ro_slice (hm.ow_rep 2 rfl)
  subst he
  refine td_p hf rfl rfl rfl rfl (fun w => y_len_slice st_97.und rfl rfl) ?_
  clear hf a; intro a hf
  refine te_one ?_
  obtain ⟨r0_2, hx0_2, hq⟩ := bnd hq
  obtain ⟨hz0_3, hle, hm1, hsub, hk0_2⟩ := hm.take2 (L1 := [blk bp0 [v1p, (.int .i64 (r0_1.2.p))] 110]) (L2 := [blk b0_2 [(.slice p0_1 r0_1.1.fns.length c0_1)] 99, ow [(.slice p0_1 r0_1.1.fns.length c0_1)] r0_1.1.fns, blk b0_1 [(.slice none 0 0)] 99]) [1] [0, 2, 3] (by decide) rfl rfl
  refine td_ef hf rfl rfl rfl rfl (e_call hf rfl Tryd.call68 rfl (pspec_l30Rd__pick_ok _ hz0_3 (⟨r_.b, r0_1.2.p⟩ : l30Rd) bp0 v1p (GT.mono hle h1p) (r0_1.1.fns.length : Int) hm1  _ hx0_2)) ?_
  clear hf a; rintro v0_3 w0_5 a ho0_2 hf
  obtain ⟨rfl, hB⟩ := ho0_2
  replace hm := hk0_2 _ _ hB; clear hB
  clear hS
  have hS : Mem w0 hz _ [blk b0_2 [(.slice p0_1 r0_1.1.fns.length c0_1)] 99, ow [(.slice p0_1 r0_1.1.fns.length c0_1)] r0_1.1.fns, blk b0_1 [(.slice none 0 0)] 99] := hm.pick [1, 2, 3] (by decide) rfl
  refine ⟨fun _ => hS, ?_⟩
  obtain ⟨x0_1, hx0_3, hq⟩ := bnd hq
  obtain ⟨h0_1, hx0_4⟩ := getI_some.1 hx0_3
  obtain ⟨b0_3, o0_1, c0_2, he⟩ := idx_form' (hm.ow_rep 2 rfl) hx0_4
  simp only [Value.slice.injEq, Option.some.injEq] at he; obtain ⟨rfl, _, rfl⟩ := he
  obtain ⟨_, _, hc0_1, hr0_1⟩ := ro_get' (hm.ow_rep 2 rfl) hx0_4
  obtain ⟨_, _, rfl, rfl, _, _, rfl, rfl, h0_2⟩ := hr0_1
  obtain ⟨v0_4, rfl, -⟩ := id h0_2
  replace h0_2 : GT.rep (hp _) [v0_4] x0_1.ins := h0_2
  replace hc0_1 : CellsAt (hp _) b0_3 (o0_1 + (r0_2.1).toNat * 3) [(.int .i64 (x0_1.params)), (.int .i64 (x0_1.slots)), v0_4] := hc0_1
  refine td_p hf rfl rfl rfl rfl (fun w => y_indexAddr st_97 rfl rfl rfl h0_1 (idx_lt hx0_4)) ?_
  clear hf a; intro a hf
  refine td_p hf rfl rfl rfl rfl (fun w => y_assign rfl rfl) ?_
  clear hf a; intro a hf
  clear hS; refine td_end ?_
  refine x_then_n ?_
  refine wp_seq ?_
  replace hm : Mem w0 hz _ [ow [v0_4] x0_1.ins, blk bp0 [v1p, (.int .i64 (r0_2.2.p))] 110, blk b0_2 [(.slice (some ⟨b0_3, o0_1, none⟩) r0_1.1.fns.length c0_1)] 99, holeC b0_3 (o0_1 + (r0_2.1).toNat * 3) [(.int .i64 (x0_1.params)), (.int .i64 (x0_1.slots)), v0_4] [(.slice (some ⟨b0_3, o0_1, none⟩) r0_1.1.fns.length c0_1)] [v0_4] (fun (y : List Mins) => (r0_1.1.fns : List Mfn).set (r0_2.1).toNat (⟨x0_1.params, x0_1.slots, y⟩ : Mfn)), blk b0_1 [(.slice none 0 0)] 99] := hm.openC 2 rfl (foc_elemB hx0_4 hc0_1 rfl (show FocH (α := Mfn) _ _ x0_1 [v0_4] x0_1.ins (fun y => (⟨x0_1.params, x0_1.slots, y⟩ : Mfn)) from (foc_snd (α := Int) (β := Int × (List Mins)) (cs := [(.int .i64 (x0_1.params))]) rfl (foc_snd (α := Int) (β := (List Mins)) (cs := [(.int .i64 (x0_1.slots))]) rfl (foc_id _ _))))) hc0_1
  refine wp_tree (.p 0 (.p 1 (.p 2 (.p 4 (.p 5 (.p 6 (.p 7 (.q 3 (.e 8 (.p 9 (.e 10 (.p 11 (.p 12 .fin)) .nil)) .nil))))))))) [8, 10] [0, 1, 2, 4, 5, 6, 7, 9, 11, 12] (fun w => Mem w0 hz w [ow [v0_4] x0_1.ins, blk b0_2 [(.slice (some ⟨b0_3, o0_1, none⟩) r0_1.1.fns.length c0_1)] 99, holeC b0_3 (o0_1 + (r0_2.1).toNat * 3) [(.int .i64 (x0_1.params)), (.int .i64 (x0_1.slots)), v0_4] [(.slice (some ⟨b0_3, o0_1, none⟩) r0_1.1.fns.length c0_1)] [v0_4] (fun (y : List Mins) => (r0_1.1.fns : List Mfn).set (r0_2.1).toNat (⟨x0_1.params, x0_1.slots, y⟩ : Mfn)), blk b0_1 [(.slice none 0 0)] 99]) (by kernel_rfl) (by kernel_rfl) (fun _ _ _ h => h.2) ?_
  replace hm := hm.drew
  have hS : Mem w0 hz _ [ow [v0_4] x0_1.ins, blk b0_2 [(.slice (some ⟨b0_3, o0_1, none⟩) r0_1.1.fns.length c0_1)] 99, holeC b0_3 (o0_1 + (r0_2.1).toNat * 3) [(.int .i64 (x0_1.params)), (.int .i64 (x0_1.slots)), v0_4] [(.slice (some ⟨b0_3, o0_1, none⟩) r0_1.1.fns.length c0_1)] [v0_4] (fun (y : List Mins) => (r0_1.1.fns : List Mfn).set (r0_2.1).toNat (⟨x0_1.params, x0_1.slots, y⟩ : Mfn)), blk b0_1 [(.slice none 0 0)] 99] := hm.pick [0, 2, 3, 4] (by decide) rfl
  refine td_p hf rfl rfl rfl rfl (fun w => y_move rfl rfl) ?_
  clear hf a; intro a hf
  refine td_p hf rfl rfl rfl rfl (fun w => y_nilptr rfl rfl) ?_
  clear hf a; intro a hf
  refine td_p hf rfl rfl rfl rfl (fun w => y_fieldAddr fo_35_2 rfl rfl) ?_
  clear hf a; intro a hf
  refine td_p hf rfl rfl rfl rfl (fun w => y_move rfl rfl) ?_
  clear hf a; intro a hf
  refine td_p hf rfl rfl rfl rfl (fun w => y_move rfl rfl) ?_
  clear hf a; intro a hf
  refine td_p hf rfl rfl rfl rfl (fun w => y_nilptr rfl rfl) ?_
  clear hf a; intro a hf
  refine td_p hf rfl rfl rfl rfl (fun w => y_fieldAddr fo_35_2 rfl rfl) ?_
  clear hf a; intro a hf
  refine td_y hf rfl rfl rfl rfl hS (fun w hm => y_load1 Tryd.isAgg33 rfl rfl ((hm.pin_at 2 rfl).cell (j := 2) rfl)) ?_
  clear hf a; intro a hf
  refine te_one ?_
  refine td_ef hf rfl rfl rfl rfl (ef_y hf (y_load1 Tryd.isAgg33 rfl rfl ((hm.pin_at 3 rfl).cell (j := 2) rfl))) ?_
  clear hf a; rintro _ _ a ⟨rfl, rfl⟩ hf
  refine ⟨fun _ => hS, ?_⟩
  obtain ⟨p0_2, c0_3, he, hl0_2⟩ := ro_slice (hm.ow_rep 0 rfl)
  subst he
  refine td_p hf rfl rfl rfl rfl (fun w => y_len_slice st_33.und rfl rfl) ?_
  clear hf a; intro a hf
  refine te_one ?_
  obtain ⟨r0_3, hx0_5, hq⟩ := bnd hq
  obtain ⟨hz0_5, hle, hm1, hsub, hk0_3⟩ := hm.take2 (L1 := [blk bp0 [v1p, (.int .i64 (r0_2.2.p))] 110]) (L2 := [ow [(.slice p0_2 x0_1.ins.length c0_3)] x0_1.ins, blk b0_2 [(.slice (some ⟨b0_3, o0_1, none⟩) r0_1.1.fns.length c0_1)] 99, holeC b0_3 (o0_1 + (r0_2.1).toNat * 3) [(.int .i64 (x0_1.params)), (.int .i64 (x0_1.slots)), (.slice p0_2 x0_1.ins.length c0_3)] [(.slice (some ⟨b0_3, o0_1, none⟩) r0_1.1.fns.length c0_1)] [(.slice p0_2 x0_1.ins.length c0_3)] (fun (y : List Mins) => (r0_1.1.fns : List Mfn).set (r0_2.1).toNat (⟨x0_1.params, x0_1.slots, y⟩ : Mfn)), blk b0_1 [(.slice none 0 0)] 99]) [1] [0, 2, 3, 4] (by decide) rfl rfl
  refine td_ef hf rfl rfl rfl rfl (e_call hf rfl Tryd.call68 rfl (pspec_l30Rd__pick_ok _ hz0_5 (⟨r_.b, r0_2.2.p⟩ : l30Rd) bp0 v1p (GT.mono hle h1p) (x0_1.ins.length : Int) hm1  _ hx0_5)) ?_
  clear hf a; rintro v0_5 w0_6 a ho0_3 hf
  obtain ⟨rfl, hB⟩ := ho0_3
  replace hm := hk0_3 _ _ hB; clear hB
  clear hS
  have hS : Mem w0 hz _ [ow [(.slice p0_2 x0_1.ins.length c0_3)] x0_1.ins, blk b0_2 [(.slice (some ⟨b0_3, o0_1, none⟩) r0_1.1.fns.length c0_1)] 99, holeC b0_3 (o0_1 + (r0_2.1).toNat * 3) [(.int .i64 (x0_1.params)), (.int .i64 (x0_1.slots)), (.slice p0_2 x0_1.ins.length c0_3)] [(.slice (some ⟨b0_3, o0_1, none⟩) r0_1.1.fns.length c0_1)] [(.slice p0_2 x0_1.ins.length c0_3)] (fun (y : List Mins) => (r0_1.1.fns : List Mfn).set (r0_2.1).toNat (⟨x0_1.params, x0_1.slots, y⟩ : Mfn)), blk b0_1 [(.slice none 0 0)] 99] := hm.pick [1, 2, 3, 4] (by decide) rfl
  refine ⟨fun _ => hS, ?_⟩
  obtain ⟨x0_2, hx0_6, hq⟩ := bnd hq
  obtain ⟨h0_3, hx0_7⟩ := getI_some.1 hx0_6
  obtain ⟨b0_4, o0_2, c0_4, he⟩ := idx_form (hm.ow_rep 1 rfl) hx0_7
  simp only [Value.slice.injEq, Option.some.injEq] at he; obtain ⟨rfl, _, rfl⟩ := he
  refine td_p hf rfl rfl rfl rfl (fun w => y_indexAddr st_33 rfl rfl rfl h0_3 (idx_lt hx0_7)) ?_
  clear hf a; intro a hf
  refine td_p hf rfl rfl rfl rfl (fun w => y_assign rfl rfl) ?_
  clear hf a; intro a hf
  clear hS; refine td_end ?_
  refine x_then_n ?_
  refine wp_seq ?_
  refine wp_region_lit ?_
  refine st_y hf rfl rfl rfl (y_move rfl rfl) ?_
  clear hf a; intro a hf
  refine st_y hf rfl rfl rfl (y_move rfl rfl) ?_
  clear hf a; intro a hf
  refine st_y hf rfl rfl rfl (y_nilptr rfl rfl) ?_
  clear hf a; intro a hf
  refine st_y hf rfl rfl rfl (y_fieldAddr fo_35_2 rfl rfl) ?_
  clear hf a; intro a hf
  refine st_y hf rfl rfl rfl (y_load1 Tryd.isAgg33 rfl rfl ((hm.pin_at 3 rfl).cell (j := 2) rfl)) ?_
  clear hf a; intro a hf
  refine st_y hf rfl rfl rfl (y_len_slice st_33.und rfl rfl) ?_
  clear hf a; intro a hf
  refine st_ef hf rfl rfl rfl (e_build (vs := #[(0, (.int .i64 (-1))), (1, (.int .i64 (8))), (2, (.int .i64 (64))), (3, (.int .i64 (300))), (4, (.int .i64 ((x0_1.ins.length : Int)))), (5, (.int .i64 (1)))]) (cs := [(.int .i64 (-1)), (.int .i64 (8)), (.int .i64 (64)), (.int .i64 (300)), (.int .i64 ((x0_1.ins.length : Int))), (.int .i64 (1))]) et_46 hf hm rfl rfl (by kernel_rfl) rfl rfl) ?_
  clear hf a; rintro _ w0_7 a ⟨b0_5, rfl, hm⟩ hf
  replace hm := hm.lit (xs := ([-1, 8, 64, 300, (x0_1.ins.length : Int), 1] : List Int)) 0 rfl rfl rfl rfl
  obtain ⟨r0_4, hx0_8, hq⟩ := bnd hq
  obtain ⟨hz0_7, hle, hm1, hsub, hk0_4⟩ := hm.take2 (L1 := [blk bp0 [v1p, (.int .i64 (r0_3.2.p))] 110]) (L2 := [ow [(.slice (some ⟨b0_5, 0, none⟩) 6 6)] ([-1, 8, 64, 300, (x0_1.ins.length : Int), 1] : List Int), ow [(.slice (some ⟨b0_4, o0_2, none⟩) x0_1.ins.length c0_3)] x0_1.ins, blk b0_2 [(.slice (some ⟨b0_3, o0_1, none⟩) r0_1.1.fns.length c0_1)] 99, holeC b0_3 (o0_1 + (r0_2.1).toNat * 3) [(.int .i64 (x0_1.params)), (.int .i64 (x0_1.slots)), (.slice (some ⟨b0_4, o0_2, none⟩) x0_1.ins.length c0_3)] [(.slice (some ⟨b0_3, o0_1, none⟩) r0_1.1.fns.length c0_1)] [(.slice (some ⟨b0_4, o0_2, none⟩) x0_1.ins.length c0_3)] (fun (y : List Mins) => (r0_1.1.fns : List Mfn).set (r0_2.1).toNat (⟨x0_1.params, x0_1.slots, y⟩ : Mfn)), blk b0_1 [(.slice none 0 0)] 99]) [1] [0, 2, 3, 4, 5] (by decide) rfl rfl
  refine st_ef hf rfl rfl rfl (e_call hf rfl Tryd.call78 rfl (pspec_l30Rd__num_ok _ hz0_7 (⟨r_.b, r0_3.2.p⟩ : l30Rd) bp0 v1p (GT.mono hle h1p) ([-1, 8, 64, 300, (x0_1.ins.length : Int), 1] : List Int) (.slice (some ⟨b0_5, 0, none⟩) 6 6) (fz_ow (hsub 0 _ rfl)) hm1  _ hx0_8)) ?_
  clear hf a; rintro v0_6 w0_8 a ho0_4 hf
  obtain ⟨rfl, hB⟩ := ho0_4
  replace hm := hk0_4 _ _ hB; clear hB
  refine st_y hf rfl rfl rfl (y_assign rfl rfl) ?_
  clear hf a; intro a hf
  refine st_end ?_
  refine x_then_n ?_
  refine wp_seq ?_
  refine wp_seq ?_
  refine wp_region_lit ?_
  refine st_y hf rfl rfl rfl (y_move rfl rfl) ?_
  clear hf a; intro a hf
  obtain ⟨r0_5, hx0_9, hq⟩ := bnd hq
  obtain ⟨hz0_9, hle, hm1, hsub, hk0_5⟩ := hm.take2 (L1 := [blk bp0 [v1p, (.int .i64 (r0_4.2.p))] 110]) (L2 := [ow [(.slice (some ⟨b0_5, 0, none⟩) 6 6)] ([-1, 8, 64, 300, (x0_1.ins.length : Int), 1] : List Int), ow [(.slice (some ⟨b0_4, o0_2, none⟩) x0_1.ins.length c0_3)] x0_1.ins, blk b0_2 [(.slice (some ⟨b0_3, o0_1, none⟩) r0_1.1.fns.length c0_1)] 99, holeC b0_3 (o0_1 + (r0_2.1).toNat * 3) [(.int .i64 (x0_1.params)), (.int .i64 (x0_1.slots)), (.slice (some ⟨b0_4, o0_2, none⟩) x0_1.ins.length c0_3)] [(.slice (some ⟨b0_3, o0_1, none⟩) r0_1.1.fns.length c0_1)] [(.slice (some ⟨b0_4, o0_2, none⟩) x0_1.ins.length c0_3)] (fun (y : List Mins) => (r0_1.1.fns : List Mfn).set (r0_2.1).toNat (⟨x0_1.params, x0_1.slots, y⟩ : Mfn)), blk b0_1 [(.slice none 0 0)] 99]) [0] [1, 2, 3, 4, 5] (by decide) rfl rfl
  refine st_ef hf rfl rfl rfl (e_call hf rfl Tryd.call68 rfl (pspec_l30Rd__pick_ok _ hz0_9 (⟨r_.b, r0_4.2.p⟩ : l30Rd) bp0 v1p (GT.mono hle h1p) 28 hm1  _ hx0_9)) ?_
  clear hf a; rintro v0_7 w0_9 a ho0_5 hf
  obtain ⟨rfl, hB⟩ := ho0_5
  replace hm := hk0_5 _ _ hB; clear hB
  refine st_end ?_
  refine x_then_n ?_
  obtain ⟨s0_1, hq0_1, hq⟩ := bnd hq
  refine code_cut (K := fun a w => Fr 98 [(2, (.pointer (some ⟨b0_1, 0, none⟩))), (3, (.pointer (some ⟨b0_2, 0, none⟩)))] a ∧ Mem w0 hz w [blk b0_1 [(.slice none 0 0)] 99, blk b0_2 [(.slice (some ⟨b0_3, o0_1, none⟩) r0_1.1.fns.length c0_1)] 99, ow [(.slice (some ⟨b0_3, o0_1, none⟩) r0_1.1.fns.length c0_1)] s0_1.1, blk bp0 [v1p, (.int .i64 (s0_1.2))] 110]) ?_ ?_
  ·
    refine wp_block ?_
    refine wp_seq ?_
    refine wp_region_lit ?_
    refine st_y hf rfl rfl rfl (y_eql rfl rfl rfl) ?_
    clear hf a; intro a hf
    refine st_y hf rfl rfl rfl (y_assign rfl rfl) ?_
    clear hf a; intro a hf
    refine st_end ?_
    refine x_then_n ?_
    obtain ⟨s1_1, hq1_1, hq0_1⟩ := bnd hq0_1
    refine code_cut (K := fun a w => Fr 98 [(2, (.pointer (some ⟨b0_1, 0, none⟩))), (3, (.pointer (some ⟨b0_2, 0, none⟩)))] a ∧ Mem w0 hz w [blk b0_1 [(.slice none 0 0)] 99, blk b0_2 [(.slice (some ⟨b0_3, o0_1, none⟩) r0_1.1.fns.length c0_1)] 99, ow [(.slice (some ⟨b0_3, o0_1, none⟩) r0_1.1.fns.length c0_1)] s1_1.1, blk bp0 [v1p, (.int .i64 (s1_1.2))] 110]) ?_ ?_
    ·
      rcases bcases (decide (r0_5.1 = 0)) with h2_1 | h2_1
      ·
        replace hq1_1 := (ite_t h2_1).symm.trans hq1_1
        have h2_2 := of_decide_eq_true h2_1
        refine cond_t hf rfl h2_1 ?_
        refine wp_region_lit ?_
        refine st_y hf rfl rfl rfl (y_move rfl rfl) ?_
        clear hf a; intro a hf
        refine st_y hf rfl rfl rfl (y_move rfl rfl) ?_
        clear hf a; intro a hf
        obtain ⟨r2_1, hx2_1, hq1_1⟩ := bnd hq1_1
        obtain ⟨hz2_1, hle, hm1, hsub, hk2_1⟩ := hm.take2 (L1 := [blk bp0 [v1p, (.int .i64 (r0_5.2.p))] 110]) (L2 := [ow [(.slice (some ⟨b0_5, 0, none⟩) 6 6)] ([-1, 8, 64, 300, (x0_1.ins.length : Int), 1] : List Int), ow [(.slice (some ⟨b0_4, o0_2, none⟩) x0_1.ins.length c0_3)] x0_1.ins, blk b0_2 [(.slice (some ⟨b0_3, o0_1, none⟩) r0_1.1.fns.length c0_1)] 99, holeC b0_3 (o0_1 + (r0_2.1).toNat * 3) [(.int .i64 (x0_1.params)), (.int .i64 (x0_1.slots)), (.slice (some ⟨b0_4, o0_2, none⟩) x0_1.ins.length c0_3)] [(.slice (some ⟨b0_3, o0_1, none⟩) r0_1.1.fns.length c0_1)] [(.slice (some ⟨b0_4, o0_2, none⟩) x0_1.ins.length c0_3)] (fun (y : List Mins) => (r0_1.1.fns : List Mfn).set (r0_2.1).toNat (⟨x0_1.params, x0_1.slots, y⟩ : Mfn)), blk b0_1 [(.slice none 0 0)] 99]) [0] [1, 2, 3, 4, 5] (by decide) rfl rfl
        refine st_ef hf rfl rfl rfl (e_call hf rfl Tryd.call68 rfl (pspec_l30Rd__pick_ok _ hz2_1 (⟨r_.b, r0_5.2.p⟩ : l30Rd) bp0 v1p (GT.mono hle h1p) 25 hm1  _ hx2_1)) ?_
        clear hf a; rintro v2_1 w2_1 a ho2_1 hf
        obtain ⟨rfl, hB⟩ := ho2_1
        replace hm := hk2_1 _ _ hB; clear hB
        refine st_y hf rfl rfl rfl (y_subw rfl rfl rfl) ?_
        clear hf a; intro a hf
        refine st_y hf rfl rfl rfl (y_nilptr rfl rfl) ?_
        clear hf a; intro a hf
        refine st_y hf rfl rfl rfl (y_fieldAddr fo_27_0 rfl rfl) ?_
        clear hf a; intro a hf
        refine st_ef0 hf rfl rfl (e_setElem (x1 := (⟨w64 (r2_1.1 - 1), x0_2.a_, x0_2.b, x0_2.c, x0_2.n_⟩ : Mins)) (j := 0) (vs := [(.int .i64 (w64 (r2_1.1 - 1)))]) 2 hf hm rfl hx0_7 rfl Tryd.sizeOf3 rfl rfl rfl (one_cons rfl one_nil) rfl rfl) ?_
        clear hf a; rintro _ w2_2 a hm hf
        have hx2_2 := List.getElem?_set_self (a := (⟨w64 (r2_1.1 - 1), x0_2.a_, x0_2.b, x0_2.c, x0_2.n_⟩ : Mins)) (idx_lt hx0_7)
        refine st_end ?_
        have hx2_3 := List.getElem?_set_self (a := ((⟨x0_1.params, x0_1.slots, (x0_1.ins.set (r0_3.1).toNat (⟨w64 (r2_1.1 - 1), x0_2.a_, x0_2.b, x0_2.c, x0_2.n_⟩ : Mins))⟩ : Mfn) : Mfn)) (idx_lt hx0_4)
        replace hm := (hm.shutC 4 2 (by decide) rfl rfl).pick (L' := [blk bp0 [v1p, (.int .i64 (r2_1.2.p))] 110, ow [(.slice (some ⟨b0_5, 0, none⟩) 6 6)] ([-1, 8, 64, 300, (x0_1.ins.length : Int), 1] : List Int), blk b0_2 [(.slice (some ⟨b0_3, o0_1, none⟩) r0_1.1.fns.length c0_1)] 99, ow [(.slice (some ⟨b0_3, o0_1, none⟩) r0_1.1.fns.length c0_1)] (r0_1.1.fns.set (r0_2.1).toNat (⟨x0_1.params, x0_1.slots, (x0_1.ins.set (r0_3.1).toNat (⟨w64 (r2_1.1 - 1), x0_2.a_, x0_2.b, x0_2.c, x0_2.n_⟩ : Mins))⟩ : Mfn)), blk b0_1 [(.slice none 0 0)] 99]) [0, 1, 3, 4, 5] (by decide) rfl
        refine x_then_n ?_
        obtain rfl := Option.some.inj hq1_1
        exact ⟨hf.sub ⟨rfl, rfl, trivial⟩, hm.pick [4, 2, 3, 0] (by decide) rfl⟩
      ·
        replace hq1_1 := (ite_f h2_1).symm.trans hq1_1
        have h2_3 := of_decide_eq_false h2_1
        refine cond_f hf rfl h2_1 ?_
        refine wp_seq ?_
        refine wp_region_lit ?_
        refine st_y hf rfl rfl rfl (y_eql rfl rfl rfl) ?_
        clear hf a; intro a hf
        refine st_y hf rfl rfl rfl (y_assign rfl rfl) ?_
        clear hf a; intro a hf
        refine st_end ?_
        refine x_then_n ?_
        obtain ⟨s2_1, hq2_1, hq1_1⟩ := bnd hq1_1
        refine code_cut (K := fun a w => Fr 98 [(2, (.pointer (some ⟨b0_1, 0, none⟩))), (3, (.pointer (some ⟨b0_2, 0, none⟩)))] a ∧ Mem w0 hz w [blk b0_1 [(.slice none 0 0)] 99, blk b0_2 [(.slice (some ⟨b0_3, o0_1, none⟩) r0_1.1.fns.length c0_1)] 99, ow [(.slice (some ⟨b0_3, o0_1, none⟩) r0_1.1.fns.length c0_1)] s2_1.1, blk bp0 [v1p, (.int .i64 (s2_1.2))] 110]) ?_ ?_
        ·
          rcases bcases (decide (r0_5.1 = 1)) with h3_1 | h3_1
          ·
            replace hq2_1 := (ite_t h3_1).symm.trans hq2_1
            have h3_2 := of_decide_eq_true h3_1
            refine cond_t hf rfl h3_1 ?_
            refine wp_region_lit ?_
            refine st_y hf rfl rfl rfl (y_move rfl rfl) ?_
            clear hf a; intro a hf
            refine st_y hf rfl rfl rfl (y_move rfl rfl) ?_
            clear hf a; intro a hf
            refine st_y hf rfl rfl rfl (y_nilptr rfl rfl) ?_
            clear hf a; intro a hf
            refine st_y hf rfl rfl rfl (y_fieldAddr fo_27_1 rfl rfl) ?_
            clear hf a; intro a hf
            refine st_ef0 hf rfl rfl (e_setElem (x1 := (⟨x0_2.op, r0_4.1, x0_2.b, x0_2.c, x0_2.n_⟩ : Mins)) (j := 1) (vs := [(.int .i64 (r0_4.1))]) 2 hf hm rfl hx0_7 rfl Tryd.sizeOf3 rfl rfl rfl (one_cons rfl one_nil) rfl rfl) ?_
            clear hf a; rintro _ w3_1 a hm hf
            have hx3_1 := List.getElem?_set_self (a := (⟨x0_2.op, r0_4.1, x0_2.b, x0_2.c, x0_2.n_⟩ : Mins)) (idx_lt hx0_7)
            refine st_end ?_
            have hx3_2 := List.getElem?_set_self (a := ((⟨x0_1.params, x0_1.slots, (x0_1.ins.set (r0_3.1).toNat (⟨x0_2.op, r0_4.1, x0_2.b, x0_2.c, x0_2.n_⟩ : Mins))⟩ : Mfn) : Mfn)) (idx_lt hx0_4)
            replace hm := (hm.shutC 4 2 (by decide) rfl rfl).pick (L' := [blk bp0 [v1p, (.int .i64 (r0_5.2.p))] 110, ow [(.slice (some ⟨b0_5, 0, none⟩) 6 6)] ([-1, 8, 64, 300, (x0_1.ins.length : Int), 1] : List Int), blk b0_2 [(.slice (some ⟨b0_3, o0_1, none⟩) r0_1.1.fns.length c0_1)] 99, ow [(.slice (some ⟨b0_3, o0_1, none⟩) r0_1.1.fns.length c0_1)] (r0_1.1.fns.set (r0_2.1).toNat (⟨x0_1.params, x0_1.slots, (x0_1.ins.set (r0_3.1).toNat (⟨x0_2.op, r0_4.1, x0_2.b, x0_2.c, x0_2.n_⟩ : Mins))⟩ : Mfn)), blk b0_1 [(.slice none 0 0)] 99]) [0, 1, 3, 4, 5] (by decide) rfl
            refine x_then_n ?_
            obtain rfl := Option.some.inj hq2_1
            exact ⟨hf.sub ⟨rfl, rfl, trivial⟩, hm.pick [4, 2, 3, 0] (by decide) rfl⟩
          ·
            replace hq2_1 := (ite_f h3_1).symm.trans hq2_1
            have h3_3 := of_decide_eq_false h3_1
            refine cond_f hf rfl h3_1 ?_
            refine wp_seq ?_
            refine wp_region_lit ?_
            refine st_y hf rfl rfl rfl (y_eql rfl rfl rfl) ?_
            clear hf a; intro a hf
            refine st_y hf rfl rfl rfl (y_assign rfl rfl) ?_
            clear hf a; intro a hf
            refine st_end ?_
            refine x_then_n ?_
            obtain ⟨s3_1, hq3_1, hq2_1⟩ := bnd hq2_1
            refine code_cut (K := fun a w => Fr 98 [(2, (.pointer (some ⟨b0_1, 0, none⟩))), (3, (.pointer (some ⟨b0_2, 0, none⟩)))] a ∧ Mem w0 hz w [blk b0_1 [(.slice none 0 0)] 99, blk b0_2 [(.slice (some ⟨b0_3, o0_1, none⟩) r0_1.1.fns.length c0_1)] 99, ow [(.slice (some ⟨b0_3, o0_1, none⟩) r0_1.1.fns.length c0_1)] s3_1.1, blk bp0 [v1p, (.int .i64 (s3_1.2))] 110]) ?_ ?_
            ·
              rcases bcases (decide (r0_5.1 = 2)) with h4_1 | h4_1
              ·
                replace hq3_1 := (ite_t h4_1).symm.trans hq3_1
                have h4_2 := of_decide_eq_true h4_1
                refine cond_t hf rfl h4_1 ?_
                refine wp_region_lit ?_
                refine st_y hf rfl rfl rfl (y_move rfl rfl) ?_
                clear hf a; intro a hf
                refine st_y hf rfl rfl rfl (y_move rfl rfl) ?_
                clear hf a; intro a hf
                refine st_y hf rfl rfl rfl (y_nilptr rfl rfl) ?_
                clear hf a; intro a hf
                refine st_y hf rfl rfl rfl (y_fieldAddr fo_27_4 rfl rfl) ?_
                clear hf a; intro a hf
                refine st_ef0 hf rfl rfl (e_setElem (x1 := (⟨x0_2.op, x0_2.a_, x0_2.b, x0_2.c, r0_4.1⟩ : Mins)) (j := 4) (vs := [(.int .i64 (r0_4.1))]) 2 hf hm rfl hx0_7 rfl Tryd.sizeOf3 rfl rfl rfl (one_cons rfl one_nil) rfl rfl) ?_
                clear hf a; rintro _ w4_1 a hm hf
                have hx4_1 := List.getElem?_set_self (a := (⟨x0_2.op, x0_2.a_, x0_2.b, x0_2.c, r0_4.1⟩ : Mins)) (idx_lt hx0_7)
                refine st_end ?_
                have hx4_2 := List.getElem?_set_self (a := ((⟨x0_1.params, x0_1.slots, (x0_1.ins.set (r0_3.1).toNat (⟨x0_2.op, x0_2.a_, x0_2.b, x0_2.c, r0_4.1⟩ : Mins))⟩ : Mfn) : Mfn)) (idx_lt hx0_4)
                replace hm := (hm.shutC 4 2 (by decide) rfl rfl).pick (L' := [blk bp0 [v1p, (.int .i64 (r0_5.2.p))] 110, ow [(.slice (some ⟨b0_5, 0, none⟩) 6 6)] ([-1, 8, 64, 300, (x0_1.ins.length : Int), 1] : List Int), blk b0_2 [(.slice (some ⟨b0_3, o0_1, none⟩) r0_1.1.fns.length c0_1)] 99, ow [(.slice (some ⟨b0_3, o0_1, none⟩) r0_1.1.fns.length c0_1)] (r0_1.1.fns.set (r0_2.1).toNat (⟨x0_1.params, x0_1.slots, (x0_1.ins.set (r0_3.1).toNat (⟨x0_2.op, x0_2.a_, x0_2.b, x0_2.c, r0_4.1⟩ : Mins))⟩ : Mfn)), blk b0_1 [(.slice none 0 0)] 99]) [0, 1, 3, 4, 5] (by decide) rfl
                refine x_then_n ?_
                obtain rfl := Option.some.inj hq3_1
                exact ⟨hf.sub ⟨rfl, rfl, trivial⟩, hm.pick [4, 2, 3, 0] (by decide) rfl⟩
              ·
                replace hq3_1 := (ite_f h4_1).symm.trans hq3_1
                have h4_3 := of_decide_eq_false h4_1
                refine cond_f hf rfl h4_1 ?_
                refine wp_seq ?_
                refine wp_region_lit ?_
                refine st_y hf rfl rfl rfl (y_eql rfl rfl rfl) ?_
                clear hf a; intro a hf
                refine st_y hf rfl rfl rfl (y_assign rfl rfl) ?_
                clear hf a; intro a hf
                refine st_end ?_
                refine x_then_n ?_
                obtain ⟨s4_1, hq4_1, hq3_1⟩ := bnd hq3_1
                refine code_cut (K := fun a w => Fr 98 [(2, (.pointer (some ⟨b0_1, 0, none⟩))), (3, (.pointer (some ⟨b0_2, 0, none⟩)))] a ∧ Mem w0 hz w [blk b0_1 [(.slice none 0 0)] 99, blk b0_2 [(.slice (some ⟨b0_3, o0_1, none⟩) r0_1.1.fns.length c0_1)] 99, ow [(.slice (some ⟨b0_3, o0_1, none⟩) r0_1.1.fns.length c0_1)] s4_1.1, blk bp0 [v1p, (.int .i64 (s4_1.2))] 110]) ?_ ?_
                ·
                  rcases bcases (decide (r0_5.1 = 3)) with h5_1 | h5_1
                  ·
                    replace hq4_1 := (ite_t h5_1).symm.trans hq4_1
                    have h5_2 := of_decide_eq_true h5_1
                    refine cond_t hf rfl h5_1 ?_
                    refine wp_region_lit ?_
                    refine st_y hf rfl rfl rfl (y_move rfl rfl) ?_
                    clear hf a; intro a hf
                    refine st_y hf rfl rfl rfl (y_move rfl rfl) ?_
                    clear hf a; intro a hf
                    refine st_y hf rfl rfl rfl (y_nilptr rfl rfl) ?_
                    clear hf a; intro a hf
                    refine st_y hf rfl rfl rfl (y_fieldAddr fo_27_3 rfl rfl) ?_
                    clear hf a; intro a hf
                    refine st_ef0 hf rfl rfl (e_setElem (x1 := (⟨x0_2.op, x0_2.a_, x0_2.b, r0_4.1, x0_2.n_⟩ : Mins)) (j := 3) (vs := [(.int .i64 (r0_4.1))]) 2 hf hm rfl hx0_7 rfl Tryd.sizeOf3 rfl rfl rfl (one_cons rfl one_nil) rfl rfl) ?_
                    clear hf a; rintro _ w5_1 a hm hf
                    have hx5_1 := List.getElem?_set_self (a := (⟨x0_2.op, x0_2.a_, x0_2.b, r0_4.1, x0_2.n_⟩ : Mins)) (idx_lt hx0_7)
                    refine st_end ?_
                    have hx5_2 := List.getElem?_set_self (a := ((⟨x0_1.params, x0_1.slots, (x0_1.ins.set (r0_3.1).toNat (⟨x0_2.op, x0_2.a_, x0_2.b, r0_4.1, x0_2.n_⟩ : Mins))⟩ : Mfn) : Mfn)) (idx_lt hx0_4)
                    replace hm := (hm.shutC 4 2 (by decide) rfl rfl).pick (L' := [blk bp0 [v1p, (.int .i64 (r0_5.2.p))] 110, ow [(.slice (some ⟨b0_5, 0, none⟩) 6 6)] ([-1, 8, 64, 300, (x0_1.ins.length : Int), 1] : List Int), blk b0_2 [(.slice (some ⟨b0_3, o0_1, none⟩) r0_1.1.fns.length c0_1)] 99, ow [(.slice (some ⟨b0_3, o0_1, none⟩) r0_1.1.fns.length c0_1)] (r0_1.1.fns.set (r0_2.1).toNat (⟨x0_1.params, x0_1.slots, (x0_1.ins.set (r0_3.1).toNat (⟨x0_2.op, x0_2.a_, x0_2.b, r0_4.1, x0_2.n_⟩ : Mins))⟩ : Mfn)), blk b0_1 [(.slice none 0 0)] 99]) [0, 1, 3, 4, 5] (by decide) rfl
                    refine x_then_n ?_
                    obtain rfl := Option.some.inj hq4_1
                    exact ⟨hf.sub ⟨rfl, rfl, trivial⟩, hm.pick [4, 2, 3, 0] (by decide) rfl⟩
                  ·
                    replace hq4_1 := (ite_f h5_1).symm.trans hq4_1
                    have h5_3 := of_decide_eq_false h5_1
                    refine cond_f hf rfl h5_1 ?_
                    refine wp_seq ?_
                    refine wp_region_lit ?_
                    refine st_y hf rfl rfl rfl (y_eql rfl rfl rfl) ?_
                    clear hf a; intro a hf
                    refine st_y hf rfl rfl rfl (y_assign rfl rfl) ?_
                    clear hf a; intro a hf
                    refine st_end ?_
                    refine x_then_n ?_
                    obtain ⟨s5_1, hq5_1, hq4_1⟩ := bnd hq4_1
                    refine code_cut (K := fun a w => Fr 98 [(2, (.pointer (some ⟨b0_1, 0, none⟩))), (3, (.pointer (some ⟨b0_2, 0, none⟩)))] a ∧ Mem w0 hz w [blk b0_1 [(.slice none 0 0)] 99, blk b0_2 [(.slice (some ⟨b0_3, o0_1, none⟩) r0_1.1.fns.length c0_1)] 99, ow [(.slice (some ⟨b0_3, o0_1, none⟩) r0_1.1.fns.length c0_1)] s5_1.1, blk bp0 [v1p, (.int .i64 (s5_1.2))] 110]) ?_ ?_
                    ·
                      rcases bcases (decide (r0_5.1 = 4)) with h6_1 | h6_1
                      ·
                        replace hq5_1 := (ite_t h6_1).symm.trans hq5_1
                        have h6_2 := of_decide_eq_true h6_1
                        refine cond_t hf rfl h6_1 ?_
                        refine wp_region_lit ?_
                        refine st_y hf rfl rfl rfl (y_move rfl rfl) ?_
                        clear hf a; intro a hf
                        refine st_y hf rfl rfl rfl (y_move rfl rfl) ?_
                        clear hf a; intro a hf
                        refine st_ef hf rfl rfl rfl (e_build (vs := #[(0, (.int .i64 (65))), (1, (.int .i64 (-1))), (2, (.int .i64 (0))), (3, (.int .i64 (64)))]) (cs := [(.int .i64 (65)), (.int .i64 (-1)), (.int .i64 (0)), (.int .i64 (64))]) et_46 hf hm rfl rfl (by kernel_rfl) rfl rfl) ?_
                        clear hf a; rintro _ w6_1 a ⟨b6_1, rfl, hm⟩ hf
                        replace hm := hm.lit (xs := ([65, -1, 0, 64] : List Int)) 0 rfl rfl rfl rfl
                        obtain ⟨r6_1, hx6_1, hq5_1⟩ := bnd hq5_1
                        obtain ⟨hz6_1, hle, hm1, hsub, hk6_1⟩ := hm.take2 (L1 := [blk bp0 [v1p, (.int .i64 (r0_5.2.p))] 110]) (L2 := [ow [(.slice (some ⟨b6_1, 0, none⟩) 4 4)] ([65, -1, 0, 64] : List Int), ow [(.slice (some ⟨b0_5, 0, none⟩) 6 6)] ([-1, 8, 64, 300, (x0_1.ins.length : Int), 1] : List Int), ow [(.slice (some ⟨b0_4, o0_2, none⟩) x0_1.ins.length c0_3)] x0_1.ins, blk b0_2 [(.slice (some ⟨b0_3, o0_1, none⟩) r0_1.1.fns.length c0_1)] 99, holeC b0_3 (o0_1 + (r0_2.1).toNat * 3) [(.int .i64 (x0_1.params)), (.int .i64 (x0_1.slots)), (.slice (some ⟨b0_4, o0_2, none⟩) x0_1.ins.length c0_3)] [(.slice (some ⟨b0_3, o0_1, none⟩) r0_1.1.fns.length c0_1)] [(.slice (some ⟨b0_4, o0_2, none⟩) x0_1.ins.length c0_3)] (fun (y : List Mins) => (r0_1.1.fns : List Mfn).set (r0_2.1).toNat (⟨x0_1.params, x0_1.slots, y⟩ : Mfn)), blk b0_1 [(.slice none 0 0)] 99]) [1] [0, 2, 3, 4, 5, 6] (by decide) rfl rfl
                        refine st_ef hf rfl rfl rfl (e_call hf rfl Tryd.call78 rfl (pspec_l30Rd__num_ok _ hz6_1 (⟨r_.b, r0_5.2.p⟩ : l30Rd) bp0 v1p (GT.mono hle h1p) ([65, -1, 0, 64] : List Int) (.slice (some ⟨b6_1, 0, none⟩) 4 4) (fz_ow (hsub 0 _ rfl)) hm1  _ hx6_1)) ?_
                        clear hf a; rintro v6_1 w6_2 a ho6_1 hf
                        obtain ⟨rfl, hB⟩ := ho6_1
                        replace hm := hk6_1 _ _ hB; clear hB
                        refine st_y hf rfl rfl rfl (y_nilptr rfl rfl) ?_
                        clear hf a; intro a hf
                        refine st_y hf rfl rfl rfl (y_fieldAddr fo_35_1 rfl rfl) ?_
                        clear hf a; intro a hf
                        have hc6_1 := hm.pin_at 5 rfl
                        have h16_1 : ∀ u ∈ ([(.int .i64 (r6_1.1))] : List Value), u.oneCell' = true := (one_cons rfl one_nil)
                        have hx6_2 := List.getElem?_set_self (a := ((⟨x0_1.params, x0_1.slots, x0_1.ins⟩ : Mfn) : Mfn)) (idx_lt hx0_4)
                        replace hm := (hm.shutC 5 3 (by decide) rfl rfl).pick (L' := [blk bp0 [v1p, (.int .i64 (r6_1.2.p))] 110, ow [(.slice (some ⟨b6_1, 0, none⟩) 4 4)] ([65, -1, 0, 64] : List Int), ow [(.slice (some ⟨b0_5, 0, none⟩) 6 6)] ([-1, 8, 64, 300, (x0_1.ins.length : Int), 1] : List Int), blk b0_2 [(.slice (some ⟨b0_3, o0_1, none⟩) r0_1.1.fns.length c0_1)] 99, ow [(.slice (some ⟨b0_3, o0_1, none⟩) r0_1.1.fns.length c0_1)] (r0_1.1.fns.set (r0_2.1).toNat (⟨x0_1.params, x0_1.slots, x0_1.ins⟩ : Mfn)), blk b0_1 [(.slice none 0 0)] 99]) [0, 1, 2, 4, 5, 6] (by decide) rfl
                        refine st_ef0 hf rfl rfl (e_setElemR (x1 := ((⟨x0_1.params, r6_1.1, x0_1.ins⟩ : Mfn) : Mfn)) (j := 1) (vs := [(.int .i64 (r6_1.1))]) 4 hf hm rfl hx6_2 hc6_1 rfl (fun F h ho => (fun _ => own_snd_map (α := Int) (β := Int × (List Mins)) (cs := [(.int .i64 (x0_1.params))]) (ds := [(.int .i64 (x0_1.slots)), (.slice (some ⟨b0_4, o0_2, none⟩) x0_1.ins.length c0_3)]) (ds' := [(.int .i64 (r6_1.1)), (.slice (some ⟨b0_4, o0_2, none⟩) x0_1.ins.length c0_3)]) rfl (fun _ => own_fst_map (α := Int) (β := (List Mins)) (cs := [(.int .i64 (x0_1.slots))]) (cs' := [(.int .i64 (r6_1.1))]) (ds := [(.slice (some ⟨b0_4, o0_2, none⟩) x0_1.ins.length c0_3)]) rfl (fun _ _ => Flat.own_iff.2 rfl))) F ho) rfl Tryd.sizeOf3 rfl rfl rfl h16_1 rfl) ?_
                        clear hf a; rintro _ w6_3 a hm hf
                        have hx6_3 := List.getElem?_set_self (a := ((⟨x0_1.params, r6_1.1, x0_1.ins⟩ : Mfn) : Mfn)) (idx_lt hx6_2)
                        refine st_end ?_
                        refine x_then_n ?_
                        obtain rfl := Option.some.inj hq5_1
                        exact ⟨hf.sub ⟨rfl, rfl, trivial⟩, hm.pick [5, 3, 4, 0] (by decide) rfl⟩
                      ·
                        replace hq5_1 := (ite_f h6_1).symm.trans hq5_1
                        have h6_3 := of_decide_eq_false h6_1
                        refine cond_f hf rfl h6_1 ?_
                        refine wp_seq ?_
                        refine wp_region_lit ?_
                        refine st_y hf rfl rfl rfl (y_eql rfl rfl rfl) ?_
                        clear hf a; intro a hf
                        refine st_y hf rfl rfl rfl (y_assign rfl rfl) ?_
                        clear hf a; intro a hf
                        refine st_end ?_
                        refine x_then_n ?_
                        obtain ⟨s6_1, hq6_1, hq5_1⟩ := bnd hq5_1
                        refine code_cut (K := fun a w => Fr 98 [(2, (.pointer (some ⟨b0_1, 0, none⟩))), (3, (.pointer (some ⟨b0_2, 0, none⟩)))] a ∧ Mem w0 hz w [blk b0_1 [(.slice none 0 0)] 99, blk b0_2 [(.slice (some ⟨b0_3, o0_1, none⟩) r0_1.1.fns.length c0_1)] 99, ow [(.slice (some ⟨b0_3, o0_1, none⟩) r0_1.1.fns.length c0_1)] s6_1.1, blk bp0 [v1p, (.int .i64 (s6_1.2))] 110]) ?_ ?_
                        ·
                          rcases bcases (decide (r0_5.1 = 5)) with h7_1 | h7_1
                          ·
                            replace hq6_1 := (ite_t h7_1).symm.trans hq6_1
                            have h7_2 := of_decide_eq_true h7_1
                            refine cond_t hf rfl h7_1 ?_
                            refine wp_tree (.p 0 (.p 1 (.p 2 (.p 3 (.p 5 (.p 6 (.p 7 (.q 4 (.e 8 (.p 9 (.p 10 (.p 11 (.p 12 (.p 13 (.e 14 .fin .nil)))))) .nil))))))))) [8] [0, 1, 2, 3, 5, 6, 7, 9, 10, 11, 12, 13] (fun w => Mem w0 hz w [blk bp0 [v1p, (.int .i64 (r0_5.2.p))] 110, ow [(.slice (some ⟨b0_5, 0, none⟩) 6 6)] ([-1, 8, 64, 300, (x0_1.ins.length : Int), 1] : List Int), ow [(.slice (some ⟨b0_4, o0_2, none⟩) x0_1.ins.length c0_3)] x0_1.ins, blk b0_2 [(.slice (some ⟨b0_3, o0_1, none⟩) r0_1.1.fns.length c0_1)] 99, holeC b0_3 (o0_1 + (r0_2.1).toNat * 3) [(.int .i64 (x0_1.params)), (.int .i64 (x0_1.slots)), (.slice (some ⟨b0_4, o0_2, none⟩) x0_1.ins.length c0_3)] [(.slice (some ⟨b0_3, o0_1, none⟩) r0_1.1.fns.length c0_1)] [(.slice (some ⟨b0_4, o0_2, none⟩) x0_1.ins.length c0_3)] (fun (y : List Mins) => (r0_1.1.fns : List Mfn).set (r0_2.1).toNat (⟨x0_1.params, x0_1.slots, y⟩ : Mfn)), blk b0_1 [(.slice none 0 0)] 99]) (by kernel_rfl) (by kernel_rfl) (fun _ _ _ h => h.2) ?_
                            replace hm := hm.drew
                            have hS : Mem w0 hz _ [blk bp0 [v1p, (.int .i64 (r0_5.2.p))] 110, ow [(.slice (some ⟨b0_5, 0, none⟩) 6 6)] ([-1, 8, 64, 300, (x0_1.ins.length : Int), 1] : List Int), ow [(.slice (some ⟨b0_4, o0_2, none⟩) x0_1.ins.length c0_3)] x0_1.ins, blk b0_2 [(.slice (some ⟨b0_3, o0_1, none⟩) r0_1.1.fns.length c0_1)] 99, holeC b0_3 (o0_1 + (r0_2.1).toNat * 3) [(.int .i64 (x0_1.params)), (.int .i64 (x0_1.slots)), (.slice (some ⟨b0_4, o0_2, none⟩) x0_1.ins.length c0_3)] [(.slice (some ⟨b0_3, o0_1, none⟩) r0_1.1.fns.length c0_1)] [(.slice (some ⟨b0_4, o0_2, none⟩) x0_1.ins.length c0_3)] (fun (y : List Mins) => (r0_1.1.fns : List Mfn).set (r0_2.1).toNat (⟨x0_1.params, x0_1.slots, y⟩ : Mfn)), blk b0_1 [(.slice none 0 0)] 99] := hm.pick [0, 1, 2, 3, 4, 5] (by decide) rfl
                            refine td_p hf rfl rfl rfl rfl (fun w => y_move rfl rfl) ?_
                            clear hf a; intro a hf
                            refine td_p hf rfl rfl rfl rfl (fun w => y_move rfl rfl) ?_
                            clear hf a; intro a hf
                            refine td_p hf rfl rfl rfl rfl (fun w => y_nilptr rfl rfl) ?_
                            clear hf a; intro a hf
                            refine td_p hf rfl rfl rfl rfl (fun w => y_fieldAddr fo_35_2 rfl rfl) ?_
                            clear hf a; intro a hf
                            refine td_p hf rfl rfl rfl rfl (fun w => y_move rfl rfl) ?_
                            clear hf a; intro a hf
                            refine td_p hf rfl rfl rfl rfl (fun w => y_nilptr rfl rfl) ?_
                            clear hf a; intro a hf
                            refine td_p hf rfl rfl rfl rfl (fun w => y_fieldAddr fo_35_2 rfl rfl) ?_
                            clear hf a; intro a hf
                            refine td_y hf rfl rfl rfl rfl hS (fun w hm => y_load1 Tryd.isAgg33 rfl rfl ((hm.pin_at 4 rfl).cell (j := 2) rfl)) ?_
                            clear hf a; intro a hf
                            refine te_one ?_
                            refine td_ef hf rfl rfl rfl rfl (ef_y hf (y_load1 Tryd.isAgg33 rfl rfl ((hm.pin_at 4 rfl).cell (j := 2) rfl))) ?_
                            clear hf a; rintro _ _ a ⟨rfl, rfl⟩ hf
                            refine ⟨fun _ => hS, ?_⟩
                            refine td_p hf rfl rfl rfl rfl (fun w => y_len_slice st_33.und rfl rfl) ?_
                            clear hf a; intro a hf
                            refine td_p hf rfl rfl rfl rfl (fun w => y_sub64 rfl rfl rfl (by omega) (by omega)) ?_
                            clear hf a; intro a hf
                            obtain ⟨x7_1, hx7_1, hq6_1⟩ := bnd hq6_1
                            obtain ⟨h7_3, h7_3e⟩ := subM_some.1 hx7_1
                            have hr7_1 := (hm.ow_rep 2 rfl)
                            obtain ⟨v7_1, hy7_1⟩ : ∃ nv, nv = subV (GT.sz (Mins)) (.slice (some ⟨b0_4, o0_2, none⟩) x0_1.ins.length c0_3) (0 : Int).toNat (((x0_1.ins.length : Int)) - 1 : Int).toNat := ⟨_, rfl⟩
                            refine td_p hf rfl rfl rfl rfl (fun w => yl_eq hy7_1 (y_slcH (α := Mins) st_33 hr7_1 rfl rfl rfl h7_3 _)) ?_
                            clear hf a; intro a hf
                            refine td_p hf rfl rfl rfl rfl (fun w => y_nilptr rfl rfl) ?_
                            clear hf a; intro a hf
                            refine td_p hf rfl rfl rfl rfl (fun w => y_fieldAddr fo_35_2 rfl rfl) ?_
                            clear hf a; intro a hf
                            refine te_one ?_
                            have hc7_1 := hm.pin_at 4 rfl
                            have h17_1 : ∀ u ∈ ([v7_1] : List Value), u.oneCell' = true := (one_cons (rep_one (view_rep hy7_1 h7_3e h7_3 (hm.ow_rep 2 rfl))) one_nil)
                            have hx7_2 := List.getElem?_set_self (a := ((⟨x0_1.params, x0_1.slots, x0_1.ins⟩ : Mfn) : Mfn)) (idx_lt hx0_4)
                            replace hm := (hm.shutC 4 2 (by decide) rfl rfl).pick (L' := [blk bp0 [v1p, (.int .i64 (r0_5.2.p))] 110, ow [(.slice (some ⟨b0_5, 0, none⟩) 6 6)] ([-1, 8, 64, 300, (x0_1.ins.length : Int), 1] : List Int), blk b0_2 [(.slice (some ⟨b0_3, o0_1, none⟩) r0_1.1.fns.length c0_1)] 99, ow [(.slice (some ⟨b0_3, o0_1, none⟩) r0_1.1.fns.length c0_1)] (r0_1.1.fns.set (r0_2.1).toNat (⟨x0_1.params, x0_1.slots, x0_1.ins⟩ : Mfn)), blk b0_1 [(.slice none 0 0)] 99]) [0, 1, 3, 4, 5] (by decide) rfl
                            refine td_ef0 hf rfl rfl rfl (e_setElemR (x1 := ((⟨x0_1.params, x0_1.slots, x7_1⟩ : Mfn) : Mfn)) (j := 2) (vs := [v7_1]) 3 hf hm rfl hx7_2 hc7_1 rfl (fun F h ho => (fun _ => own_snd_map (α := Int) (β := Int × (List Mins)) (cs := [(.int .i64 (x0_1.params))]) (ds := [(.int .i64 (x0_1.slots)), (.slice (some ⟨b0_4, o0_2, none⟩) x0_1.ins.length c0_3)]) (ds' := [(.int .i64 (x0_1.slots)), v7_1]) rfl (fun _ => own_snd_map (α := Int) (β := (List Mins)) (cs := [(.int .i64 (x0_1.slots))]) (ds := [(.slice (some ⟨b0_4, o0_2, none⟩) x0_1.ins.length c0_3)]) (ds' := [v7_1]) rfl (fun _ h0 => show GT.own (α := List Mins) _ _ [v7_1] x7_1 from (by rw [hy7_1, ← h7_3e]; exact own_subV h0 (by omega) (by omega))))) F ho) rfl Tryd.sizeOf33 rfl rfl (cells_one (h17_1 _ (List.mem_singleton.2 rfl))) h17_1 rfl) ?_
                            clear hf a; rintro _ w7_1 a hm hf
                            have hx7_3 := List.getElem?_set_self (a := ((⟨x0_1.params, x0_1.slots, x7_1⟩ : Mfn) : Mfn)) (idx_lt hx7_2)
                            refine ⟨fun h => absurd h (by decide), ?_⟩
                            clear hS; refine td_end ?_
                            refine x_then_n ?_
                            obtain rfl := Option.some.inj hq6_1
                            exact ⟨hf.sub ⟨rfl, rfl, trivial⟩, hm.pick [4, 2, 3, 0] (by decide) rfl⟩
                          ·
                            replace hq6_1 := (ite_f h7_1).symm.trans hq6_1
                            have h7_5 := of_decide_eq_false h7_1
                            refine cond_f hf rfl h7_1 ?_
                            refine wp_seq ?_
                            refine wp_region_lit ?_
                            refine st_y hf rfl rfl rfl (y_eql rfl rfl rfl) ?_
                            clear hf a; intro a hf
                            refine st_y hf rfl rfl rfl (y_assign rfl rfl) ?_
                            clear hf a; intro a hf
                            refine st_end ?_
                            refine x_then_n ?_
                            obtain ⟨s7_1, hq7_1, hq6_1⟩ := bnd hq6_1
                            refine code_cut (K := fun a w => Fr 98 [(2, (.pointer (some ⟨b0_1, 0, none⟩))), (3, (.pointer (some ⟨b0_2, 0, none⟩)))] a ∧ Mem w0 hz w [blk b0_1 [(.slice none 0 0)] 99, blk b0_2 [(.slice (some ⟨b0_3, o0_1, none⟩) r0_1.1.fns.length c0_1)] 99, ow [(.slice (some ⟨b0_3, o0_1, none⟩) r0_1.1.fns.length c0_1)] s7_1.1, blk bp0 [v1p, (.int .i64 (s7_1.2))] 110]) ?_ ?_
                            ·
                              rcases bcases (decide (r0_5.1 = 6)) with h8_1 | h8_1
                              ·
                                replace hq7_1 := (ite_t h8_1).symm.trans hq7_1
                                have h8_2 := of_decide_eq_true h8_1
                                refine cond_t hf rfl h8_1 ?_
                                refine wp_region_lit ?_
                                refine st_y hf rfl rfl rfl (y_move rfl rfl) ?_
                                clear hf a; intro a hf
                                refine st_y hf rfl rfl rfl (y_move rfl rfl) ?_
                                clear hf a; intro a hf
                                refine st_ef hf rfl rfl rfl (e_build (vs := #[(0, (.int .i64 (4))), (1, (.int .i64 (-1))), (2, (.int .i64 (0)))]) (cs := [(.int .i64 (4)), (.int .i64 (-1)), (.int .i64 (0))]) et_46 hf hm rfl rfl (by kernel_rfl) rfl rfl) ?_
                                clear hf a; rintro _ w8_1 a ⟨b8_1, rfl, hm⟩ hf
                                replace hm := hm.lit (xs := ([4, -1, 0] : List Int)) 0 rfl rfl rfl rfl
                                obtain ⟨r8_1, hx8_1, hq7_1⟩ := bnd hq7_1
                                obtain ⟨hz8_1, hle, hm1, hsub, hk8_1⟩ := hm.take2 (L1 := [blk bp0 [v1p, (.int .i64 (r0_5.2.p))] 110]) (L2 := [ow [(.slice (some ⟨b8_1, 0, none⟩) 3 3)] ([4, -1, 0] : List Int), ow [(.slice (some ⟨b0_5, 0, none⟩) 6 6)] ([-1, 8, 64, 300, (x0_1.ins.length : Int), 1] : List Int), ow [(.slice (some ⟨b0_4, o0_2, none⟩) x0_1.ins.length c0_3)] x0_1.ins, blk b0_2 [(.slice (some ⟨b0_3, o0_1, none⟩) r0_1.1.fns.length c0_1)] 99, holeC b0_3 (o0_1 + (r0_2.1).toNat * 3) [(.int .i64 (x0_1.params)), (.int .i64 (x0_1.slots)), (.slice (some ⟨b0_4, o0_2, none⟩) x0_1.ins.length c0_3)] [(.slice (some ⟨b0_3, o0_1, none⟩) r0_1.1.fns.length c0_1)] [(.slice (some ⟨b0_4, o0_2, none⟩) x0_1.ins.length c0_3)] (fun (y : List Mins) => (r0_1.1.fns : List Mfn).set (r0_2.1).toNat (⟨x0_1.params, x0_1.slots, y⟩ : Mfn)), blk b0_1 [(.slice none 0 0)] 99]) [1] [0, 2, 3, 4, 5, 6] (by decide) rfl rfl
                                refine st_ef hf rfl rfl rfl (e_call hf rfl Tryd.call78 rfl (pspec_l30Rd__num_ok _ hz8_1 (⟨r_.b, r0_5.2.p⟩ : l30Rd) bp0 v1p (GT.mono hle h1p) ([4, -1, 0] : List Int) (.slice (some ⟨b8_1, 0, none⟩) 3 3) (fz_ow (hsub 0 _ rfl)) hm1  _ hx8_1)) ?_
                                clear hf a; rintro v8_1 w8_2 a ho8_1 hf
                                obtain ⟨rfl, hB⟩ := ho8_1
                                replace hm := hk8_1 _ _ hB; clear hB
                                refine st_y hf rfl rfl rfl (y_nilptr rfl rfl) ?_
                                clear hf a; intro a hf
                                refine st_y hf rfl rfl rfl (y_fieldAddr fo_35_0 rfl rfl) ?_
                                clear hf a; intro a hf
                                have hc8_1 := hm.pin_at 5 rfl
                                have h18_1 : ∀ u ∈ ([(.int .i64 (r8_1.1))] : List Value), u.oneCell' = true := (one_cons rfl one_nil)
                                have hx8_2 := List.getElem?_set_self (a := ((⟨x0_1.params, x0_1.slots, x0_1.ins⟩ : Mfn) : Mfn)) (idx_lt hx0_4)
                                replace hm := (hm.shutC 5 3 (by decide) rfl rfl).pick (L' := [blk bp0 [v1p, (.int .i64 (r8_1.2.p))] 110, ow [(.slice (some ⟨b8_1, 0, none⟩) 3 3)] ([4, -1, 0] : List Int), ow [(.slice (some ⟨b0_5, 0, none⟩) 6 6)] ([-1, 8, 64, 300, (x0_1.ins.length : Int), 1] : List Int), blk b0_2 [(.slice (some ⟨b0_3, o0_1, none⟩) r0_1.1.fns.length c0_1)] 99, ow [(.slice (some ⟨b0_3, o0_1, none⟩) r0_1.1.fns.length c0_1)] (r0_1.1.fns.set (r0_2.1).toNat (⟨x0_1.params, x0_1.slots, x0_1.ins⟩ : Mfn)), blk b0_1 [(.slice none 0 0)] 99]) [0, 1, 2, 4, 5, 6] (by decide) rfl
                                refine st_ef0 hf rfl rfl (e_setElemR (x1 := ((⟨r8_1.1, x0_1.slots, x0_1.ins⟩ : Mfn) : Mfn)) (j := 0) (vs := [(.int .i64 (r8_1.1))]) 4 hf hm rfl hx8_2 hc8_1 rfl (fun F h ho => (fun _ => own_fst_map (α := Int) (β := Int × (List Mins)) (cs := [(.int .i64 (x0_1.params))]) (cs' := [(.int .i64 (r8_1.1))]) (ds := [(.int .i64 (x0_1.slots)), (.slice (some ⟨b0_4, o0_2, none⟩) x0_1.ins.length c0_3)]) rfl (fun _ _ => Flat.own_iff.2 rfl)) F ho) rfl Tryd.sizeOf3 rfl rfl rfl h18_1 rfl) ?_
                                clear hf a; rintro _ w8_3 a hm hf
                                have hx8_3 := List.getElem?_set_self (a := ((⟨r8_1.1, x0_1.slots, x0_1.ins⟩ : Mfn) : Mfn)) (idx_lt hx8_2)
                                refine st_end ?_
                                refine x_then_n ?_
                                obtain rfl := Option.some.inj hq7_1
                                exact ⟨hf.sub ⟨rfl, rfl, trivial⟩, hm.pick [5, 3, 4, 0] (by decide) rfl⟩
                              ·
                                replace hq7_1 := (ite_f h8_1).symm.trans hq7_1
                                have h8_3 := of_decide_eq_false h8_1
                                refine cond_f hf rfl h8_1 ?_
                                refine wp_skip ?_
                                have hx8_4 := List.getElem?_set_self (a := ((⟨x0_1.params, x0_1.slots, x0_1.ins⟩ : Mfn) : Mfn)) (idx_lt hx0_4)
                                replace hm := (hm.shutC 4 2 (by decide) rfl rfl).pick (L' := [blk bp0 [v1p, (.int .i64 (r0_5.2.p))] 110, ow [(.slice (some ⟨b0_5, 0, none⟩) 6 6)] ([-1, 8, 64, 300, (x0_1.ins.length : Int), 1] : List Int), blk b0_2 [(.slice (some ⟨b0_3, o0_1, none⟩) r0_1.1.fns.length c0_1)] 99, ow [(.slice (some ⟨b0_3, o0_1, none⟩) r0_1.1.fns.length c0_1)] (r0_1.1.fns.set (r0_2.1).toNat (⟨x0_1.params, x0_1.slots, x0_1.ins⟩ : Mfn)), blk b0_1 [(.slice none 0 0)] 99]) [0, 1, 3, 4, 5] (by decide) rfl
                                refine x_then_n ?_
                                obtain rfl := Option.some.inj hq7_1
                                exact ⟨hf.sub ⟨rfl, rfl, trivial⟩, hm.pick [4, 2, 3, 0] (by decide) rfl⟩
                            ·
                              clear hf hm
                              rintro a w ⟨hf, hm⟩
                              refine x_then_n ?_
                              obtain rfl := Option.some.inj hq6_1
                              exact ⟨hf.sub ⟨rfl, rfl, trivial⟩, hm.pick [0, 1, 2, 3] (by decide) rfl⟩
                        ·
                          clear hf hm
                          rintro a w ⟨hf, hm⟩
                          refine x_then_n ?_
                          obtain rfl := Option.some.inj hq5_1
                          exact ⟨hf.sub ⟨rfl, rfl, trivial⟩, hm.pick [0, 1, 2, 3] (by decide) rfl⟩
                    ·
                      clear hf hm
                      rintro a w ⟨hf, hm⟩
                      refine x_then_n ?_
                      obtain rfl := Option.some.inj hq4_1
                      exact ⟨hf.sub ⟨rfl, rfl, trivial⟩, hm.pick [0, 1, 2, 3] (by decide) rfl⟩
                ·
                  clear hf hm
                  rintro a w ⟨hf, hm⟩
                  refine x_then_n ?_
                  obtain rfl := Option.some.inj hq3_1
                  exact ⟨hf.sub ⟨rfl, rfl, trivial⟩, hm.pick [0, 1, 2, 3] (by decide) rfl⟩
            ·
              clear hf hm
              rintro a w ⟨hf, hm⟩
              refine x_then_n ?_
              obtain rfl := Option.some.inj hq2_1
              exact ⟨hf.sub ⟨rfl, rfl, trivial⟩, hm.pick [0, 1, 2, 3] (by decide) rfl⟩
        ·
          clear hf hm
          rintro a w ⟨hf, hm⟩
          refine x_then_n ?_
          obtain rfl := Option.some.inj hq1_1
          exact ⟨hf.sub ⟨rfl, rfl, trivial⟩, hm.pick [0, 1, 2, 3] (by decide) rfl⟩
    ·
      clear hf hm
      rintro a w ⟨hf, hm⟩
      refine x_blk_n ?_
      refine x_then_n ?_
      obtain rfl := Option.some.inj hq0_1
      exact ⟨hf.sub ⟨rfl, rfl, trivial⟩, hm.pick [0, 1, 2, 3] (by decide) rfl⟩
  ·
    clear hf hm
    rintro a w ⟨hf, hm⟩
    refine x_then_n ?_
    refine wp_seq ?_
    refine wp_region_lit ?_
    refine st_y hf rfl rfl rfl (y_loadN (cs := [(.slice (some ⟨b0_3, o0_1, none⟩) r0_1.1.fns.length c0_1)]) Tryd.isAgg99 Tryd.sizeOf99 rfl rfl (hm.blk_at 1 rfl)) ?_
    clear hf a; intro a hf
    refine st_ef0 hf rfl rfl (e_storeN 0 hf hm rfl Tryd.sizeOf99 rfl rfl rfl (one_cons rfl one_nil) rfl rfl) ?_
    clear hf a; rintro _ w0_10 a hm hf
    refine st_end ?_
    refine x_then_n ?_
    refine wp_ret ?_
    obtain rfl := Option.some.inj hq
    refine ret_cell 0 hf Tryd.results67 hm rfl rfl Tryd.isAgg99 Tryd.sizeOf99 ?_
    exact ⟨(.slice (some ⟨b0_3, o0_1, none⟩) r0_1.1.fns.length c0_1), rfl, hm.pick [3, 2] (by decide) rfl⟩

theorem spec_DrawMinsText_ok (w0 : World) (code : List UInt8) (v1 : Value) (h1 : GT.rep (hp w0) [v1] code) (r : Mins) (hq : spec_DrawMinsText code = some r) :
    Con Tryd.prog 46 [v1] w0 (fun v w' => v = (.agg #[(.int .i64 (r.op)), (.int .i64 (r.a_)), (.int .i64 (r.b)), (.int .i64 (r.c)), (.int .i64 (r.n_))]) ∧ Below w0.heap.size w0 w') := by
  unfold spec_DrawMinsText at hq
  refine con_body (l := [(0, v1)]) Tryd.func46 rfl Tryd.ntmps46 (Args.get ⟨rfl, trivial⟩) rfl ?_
  intro a hf
  have hm := Mem.start w0
  refine wp_seq ?_
  refine wp_region_lit ?_
  refine st_ef hf rfl rfl rfl (e_alloc hm Tryd.zeroValue27 rfl rfl) ?_
  clear hf a; rintro _ w0_1 a ⟨b0_1, rfl, hm⟩ hf
  refine st_end ?_
  refine x_then_n ?_
  refine wp_seq ?_
  refine wp_region_lit ?_
  refine st_y hf rfl rfl rfl (y_move rfl rfl) ?_
  clear hf a; intro a hf
  obtain ⟨r0_1, hx0_1, hq⟩ := bnd hq
  refine st_ef hf rfl rfl rfl (e_call hf rfl Tryd.call66 rfl (spec_l30Open_ok _ _ hm.lez code v1 h1  _ hx0_1)) ?_
  clear hf a; rintro v0_1 w0_2 a ho0_1 hf
  obtain ⟨b0_2, v0_2, hz0_1, rfl, hle0_1, h0_1, hB⟩ := ho0_1
  replace hm := Mem.giveA hm hle0_1 hB; clear hB
  refine st_y hf rfl rfl rfl (y_assign rfl rfl) ?_
  clear hf a; intro a hf
  refine st_end ?_
  refine x_then_n ?_
  refine wp_seq ?_
  refine wp_region_lit ?_
  refine st_y hf rfl rfl rfl (y_move rfl rfl) ?_
  clear hf a; intro a hf
  obtain ⟨r0_2, hx0_2, hq⟩ := bnd hq
  obtain ⟨hz0_2, hle, hm1, hsub, hk0_1⟩ := hm.take2 (L1 := [blk b0_2 [v0_2, (.int .i64 (r0_1.p))] 110]) (L2 := [blk b0_1 [(.int .i64 (0)), (.int .i64 (0)), (.int .i64 (0)), (.int .i64 (0)), (.int .i64 (0))] 27]) [0] [1] (by decide) rfl rfl
  refine st_ef hf rfl rfl rfl (e_call hf rfl Tryd.call67 rfl (spec_l22Bent_ok _ hz0_2 r0_1 b0_2 v0_2 (GT.mono hle h0_1) hm1  _ hx0_2)) ?_
  clear hf a; rintro v0_3 w0_3 a ho0_2 hf
  obtain ⟨v0_4, rfl, hB⟩ := ho0_2
  replace hm := hk0_1 _ _ hB; clear hB
  refine st_ef hf rfl rfl rfl (e_alloc hm Tryd.zeroValue99 rfl rfl) ?_
  clear hf a; rintro _ w0_4 a ⟨b0_3, rfl, hm⟩ hf
  refine st_ef0 hf rfl rfl (e_storeN 0 hf hm rfl Tryd.sizeOf99 rfl rfl rfl (one_cons (rep_one (hm.ow_rep 2 rfl)) one_nil) rfl rfl) ?_
  clear hf a; rintro _ w0_5 a hm hf
  refine st_end ?_
  refine x_then_n ?_
  refine wp_seq ?_
  refine wp_region_lit ?_
  refine st_y hf rfl rfl rfl (y_fieldAddr fo_99_0 rfl rfl) ?_
  clear hf a; intro a hf
  refine st_y hf rfl rfl rfl (y_load1 Tryd.isAgg97 rfl rfl (hm.blk_cell 0 rfl rfl)) ?_
  clear hf a; intro a hf
  refine st_y hf rfl rfl rfl (y_fieldAddr fo_99_0 rfl rfl) ?_
  clear hf a; intro a hf
  refine st_y hf rfl rfl rfl (y_load1 Tryd.isAgg97 rfl rfl (hm.blk_cell 0 rfl rfl)) ?_
  clear hf a; intro a hf
  obtain ⟨p0_1, c0_1, he, hl0_1⟩ := ro_slice (hm.ow_rep 2 rfl)
  subst he
  refine st_y hf rfl rfl rfl (y_len_slice st_97.und rfl rfl) ?_
  clear hf a; intro a hf
  refine st_y hf rfl rfl rfl (y_sub64 rfl rfl rfl (by omega) (by omega)) ?_
  clear hf a; intro a hf
  obtain ⟨x0_1, hx0_3, hq⟩ := bnd hq
  obtain ⟨h0_2, hx0_4⟩ := getI_some.1 hx0_3
  obtain ⟨b0_4, o0_1, c0_2, he⟩ := idx_form' (hm.ow_rep 2 rfl) hx0_4
  simp only [Value.slice.injEq, Option.some.injEq] at he; obtain ⟨rfl, _, rfl⟩ := he
  obtain ⟨_, _, hc0_1, hr0_1⟩ := ro_get' (hm.ow_rep 2 rfl) hx0_4
  obtain ⟨_, _, rfl, rfl, _, _, rfl, rfl, h0_3⟩ := hr0_1
  obtain ⟨v0_5, rfl, -⟩ := id h0_3
  replace h0_3 : GT.rep (hp _) [v0_5] x0_1.ins := h0_3
  replace hc0_1 : CellsAt (hp _) b0_4 (o0_1 + (((r0_2.1.fns.length : Int)) - 1).toNat * 3) [(.int .i64 (x0_1.params)), (.int .i64 (x0_1.slots)), v0_5] := hc0_1
  refine st_y hf rfl rfl rfl (y_indexAddr st_97 rfl rfl rfl h0_2 (idx_lt hx0_4)) ?_
  clear hf a; intro a hf
  refine st_y hf rfl rfl rfl (y_loadN (cs := [(.int .i64 (x0_1.params)), (.int .i64 (x0_1.slots)), v0_5]) Tryd.isAgg35 Tryd.sizeOf35 rfl rfl hc0_1) ?_
  clear hf a; intro a hf
  replace hm : Mem w0 hz0_1 _ [ow [v0_5] x0_1.ins, blk b0_3 [(.slice (some ⟨b0_4, o0_1, none⟩) r0_2.1.fns.length c0_1)] 99, blk b0_2 [v0_2, (.int .i64 (r0_2.2.p))] 110, holeC b0_4 (o0_1 + (((r0_2.1.fns.length : Int)) - 1).toNat * 3) [(.int .i64 (x0_1.params)), (.int .i64 (x0_1.slots)), v0_5] [(.slice (some ⟨b0_4, o0_1, none⟩) r0_2.1.fns.length c0_1)] [v0_5] (fun (y : List Mins) => (r0_2.1.fns : List Mfn).set (((r0_2.1.fns.length : Int)) - 1).toNat (⟨x0_1.params, x0_1.slots, y⟩ : Mfn)), blk b0_1 [(.int .i64 (0)), (.int .i64 (0)), (.int .i64 (0)), (.int .i64 (0)), (.int .i64 (0))] 27] := hm.openC 2 rfl (foc_elemB hx0_4 hc0_1 rfl (show FocH (α := Mfn) _ _ x0_1 [v0_5] x0_1.ins (fun y => (⟨x0_1.params, x0_1.slots, y⟩ : Mfn)) from (foc_snd (α := Int) (β := Int × (List Mins)) (cs := [(.int .i64 (x0_1.params))]) rfl (foc_snd (α := Int) (β := (List Mins)) (cs := [(.int .i64 (x0_1.slots))]) rfl (foc_id _ _))))) hc0_1
  refine st_ef hf rfl rfl rfl (e_alloc hm Tryd.zeroValue35 rfl rfl) ?_
  clear hf a; rintro _ w0_6 a ⟨b0_5, rfl, hm⟩ hf
  refine st_ef0 hf rfl rfl (e_storeN 0 hf hm rfl Tryd.sizeOf35 rfl rfl rfl (one_cons rfl (one_cons rfl (one_cons (rep_one (hm.ow_rep 1 rfl)) one_nil))) rfl rfl) ?_
  clear hf a; rintro _ w0_7 a hm hf
  refine st_end ?_
  refine x_then_n ?_
  refine wp_seq ?_
  refine wp_seq ?_
  refine wp_region_lit ?_
  refine st_y hf rfl rfl rfl (y_fieldAddr fo_35_2 rfl rfl) ?_
  clear hf a; intro a hf
  refine st_y hf rfl rfl rfl (y_load1 Tryd.isAgg33 rfl rfl (hm.blk_cell 0 rfl rfl)) ?_
  clear hf a; intro a hf
  obtain ⟨p0_2, c0_3, he, hl0_2⟩ := ro_slice (hm.ow_rep 1 rfl)
  subst he
  refine st_y hf rfl rfl rfl (y_len_slice st_33.und rfl rfl) ?_
  clear hf a; intro a hf
  refine st_y hf rfl rfl rfl (y_eql rfl rfl rfl) ?_
  clear hf a; intro a hf
  refine st_end ?_
  refine x_then_n ?_
  rcases bcases (decide (((x0_1.ins.length : Int)) = 0)) with h0_4 | h0_4
  ·
    replace hq := (ite_t h0_4).symm.trans hq
    have h0_5 := of_decide_eq_true h0_4
    refine cond_t hf rfl h0_4 ?_
    refine wp_seq ?_
    have hx0_5 := List.getElem?_set_self (a := ((⟨x0_1.params, x0_1.slots, x0_1.ins⟩ : Mfn) : Mfn)) (idx_lt hx0_4)
    replace hm := (hm.shutC 4 1 (by decide) rfl rfl).pick (L' := [blk b0_5 [(.int .i64 (x0_1.params)), (.int .i64 (x0_1.slots)), (.slice p0_2 x0_1.ins.length c0_3)] 35, blk b0_3 [(.slice (some ⟨b0_4, o0_1, none⟩) r0_2.1.fns.length c0_1)] 99, blk b0_2 [v0_2, (.int .i64 (r0_2.2.p))] 110, ow [(.slice (some ⟨b0_4, o0_1, none⟩) r0_2.1.fns.length c0_1)] (r0_2.1.fns.set (((r0_2.1.fns.length : Int)) - 1).toNat (⟨x0_1.params, x0_1.slots, x0_1.ins⟩ : Mfn)), blk b0_1 [(.int .i64 (0)), (.int .i64 (0)), (.int .i64 (0)), (.int .i64 (0)), (.int .i64 (0))] 27]) [0, 2, 3, 4, 5] (by decide) rfl
    refine wp_region_lit ?_
    refine st_y hf rfl rfl rfl (y_build (vs := []) (cs := #[(.int .i64 (0)), (.int .i64 (0)), (.int .i64 (0)), (.int .i64 (0)), (.int .i64 (0))]) rfl rfl (by kernel_rfl)) ?_
    clear hf a; intro a hf
    refine st_ef0 hf rfl rfl (e_storeN 4 hf hm rfl Tryd.sizeOf27 rfl rfl rfl (one_cons rfl (one_cons rfl (one_cons rfl (one_cons rfl (one_cons rfl one_nil))))) rfl rfl) ?_
    clear hf a; rintro _ w0_8 a hm hf
    refine st_end ?_
    refine x_then_n ?_
    refine wp_ret ?_
    refine x_then_ret ?_
    obtain rfl := Option.some.inj hq
    replace hm := hm.thaw hle0_1
    refine ret_cell 4 hf Tryd.results46 hm rfl rfl Tryd.isAgg27 Tryd.sizeOf27 ?_
    exact ⟨rfl, hm.below⟩
  ·
    replace hq := (ite_f h0_4).symm.trans hq
    have h0_6 := of_decide_eq_false h0_4
    refine cond_f hf rfl h0_4 ?_
    refine wp_skip ?_
    refine x_then_n ?_
    refine wp_seq ?_
    refine wp_tree (.p 0 (.p 2 (.p 3 (.q 1 (.e 4 (.p 5 (.e 6 (.p 7 (.e 8 (.e 9 .fin .nil) .nil)) .nil)) .nil))))) [4, 6] [0, 2, 3, 5, 7] (fun w => Mem w0 hz0_1 w [blk b0_5 [(.int .i64 (x0_1.params)), (.int .i64 (x0_1.slots)), (.slice p0_2 x0_1.ins.length c0_3)] 35, ow [(.slice p0_2 x0_1.ins.length c0_3)] x0_1.ins, blk b0_3 [(.slice (some ⟨b0_4, o0_1, none⟩) r0_2.1.fns.length c0_1)] 99, holeC b0_4 (o0_1 + (((r0_2.1.fns.length : Int)) - 1).toNat * 3) [(.int .i64 (x0_1.params)), (.int .i64 (x0_1.slots)), (.slice p0_2 x0_1.ins.length c0_3)] [(.slice (some ⟨b0_4, o0_1, none⟩) r0_2.1.fns.length c0_1)] [(.slice p0_2 x0_1.ins.length c0_3)] (fun (y : List Mins) => (r0_2.1.fns : List Mfn).set (((r0_2.1.fns.length : Int)) - 1).toNat (⟨x0_1.params, x0_1.slots, y⟩ : Mfn)), blk b0_1 [(.int .i64 (0)), (.int .i64 (0)), (.int .i64 (0)), (.int .i64 (0)), (.int .i64 (0))] 27]) (by kernel_rfl) (by kernel_rfl) (fun _ _ _ h => h.2) ?_
    replace hm := hm.drew
    have hS : Mem w0 hz0_1 _ [blk b0_5 [(.int .i64 (x0_1.params)), (.int .i64 (x0_1.slots)), (.slice p0_2 x0_1.ins.length c0_3)] 35, ow [(.slice p0_2 x0_1.ins.length c0_3)] x0_1.ins, blk b0_3 [(.slice (some ⟨b0_4, o0_1, none⟩) r0_2.1.fns.length c0_1)] 99, holeC b0_4 (o0_1 + (((r0_2.1.fns.length : Int)) - 1).toNat * 3) [(.int .i64 (x0_1.params)), (.int .i64 (x0_1.slots)), (.slice p0_2 x0_1.ins.length c0_3)] [(.slice (some ⟨b0_4, o0_1, none⟩) r0_2.1.fns.length c0_1)] [(.slice p0_2 x0_1.ins.length c0_3)] (fun (y : List Mins) => (r0_2.1.fns : List Mfn).set (((r0_2.1.fns.length : Int)) - 1).toNat (⟨x0_1.params, x0_1.slots, y⟩ : Mfn)), blk b0_1 [(.int .i64 (0)), (.int .i64 (0)), (.int .i64 (0)), (.int .i64 (0)), (.int .i64 (0))] 27] := hm.pick [0, 1, 2, 4, 5] (by decide) rfl
    refine td_p hf rfl rfl rfl rfl (fun w => y_fieldAddr fo_35_2 rfl rfl) ?_
    clear hf a; intro a hf
    refine td_p hf rfl rfl rfl rfl (fun w => y_move rfl rfl) ?_
    clear hf a; intro a hf
    refine td_p hf rfl rfl rfl rfl (fun w => y_fieldAddr fo_35_2 rfl rfl) ?_
    clear hf a; intro a hf
    refine td_y hf rfl rfl rfl rfl hS (fun w hm => y_load1 Tryd.isAgg33 rfl rfl (hm.blk_cell 0 rfl rfl)) ?_
    clear hf a; intro a hf
    refine te_one ?_
    refine td_ef hf rfl rfl rfl rfl (ef_y hf (y_load1 Tryd.isAgg33 rfl rfl (hm.blk_cell 0 rfl rfl))) ?_
    clear hf a; rintro _ _ a ⟨rfl, rfl⟩ hf
    refine ⟨fun _ => hS, ?_⟩
    refine td_p hf rfl rfl rfl rfl (fun w => y_len_slice st_33.und rfl rfl) ?_
    clear hf a; intro a hf
    refine te_one ?_
    obtain ⟨r0_3, hx0_6, hq⟩ := bnd hq
    obtain ⟨hz0_4, hle, hm1, hsub, hk0_2⟩ := hm.take2 (L1 := [blk b0_2 [v0_2, (.int .i64 (r0_2.2.p))] 110]) (L2 := [blk b0_5 [(.int .i64 (x0_1.params)), (.int .i64 (x0_1.slots)), (.slice p0_2 x0_1.ins.length c0_3)] 35, ow [(.slice p0_2 x0_1.ins.length c0_3)] x0_1.ins, blk b0_3 [(.slice (some ⟨b0_4, o0_1, none⟩) r0_2.1.fns.length c0_1)] 99, holeC b0_4 (o0_1 + (((r0_2.1.fns.length : Int)) - 1).toNat * 3) [(.int .i64 (x0_1.params)), (.int .i64 (x0_1.slots)), (.slice p0_2 x0_1.ins.length c0_3)] [(.slice (some ⟨b0_4, o0_1, none⟩) r0_2.1.fns.length c0_1)] [(.slice p0_2 x0_1.ins.length c0_3)] (fun (y : List Mins) => (r0_2.1.fns : List Mfn).set (((r0_2.1.fns.length : Int)) - 1).toNat (⟨x0_1.params, x0_1.slots, y⟩ : Mfn)), blk b0_1 [(.int .i64 (0)), (.int .i64 (0)), (.int .i64 (0)), (.int .i64 (0)), (.int .i64 (0))] 27]) [3] [0, 1, 2, 4, 5] (by decide) rfl rfl
    refine td_ef hf rfl rfl rfl rfl (e_call hf rfl Tryd.call68 rfl (pspec_l30Rd__pick_ok _ hz0_4 (⟨r0_1.b, r0_2.2.p⟩ : l30Rd) b0_2 v0_2 (GT.mono hle h0_1) (x0_1.ins.length : Int) hm1  _ hx0_6)) ?_
    clear hf a; rintro v0_6 w0_9 a ho0_3 hf
    obtain ⟨rfl, hB⟩ := ho0_3
    replace hm := hk0_2 _ _ hB; clear hB
    clear hS
    have hS : Mem w0 hz0_1 _ [blk b0_5 [(.int .i64 (x0_1.params)), (.int .i64 (x0_1.slots)), (.slice p0_2 x0_1.ins.length c0_3)] 35, ow [(.slice p0_2 x0_1.ins.length c0_3)] x0_1.ins, blk b0_3 [(.slice (some ⟨b0_4, o0_1, none⟩) r0_2.1.fns.length c0_1)] 99, holeC b0_4 (o0_1 + (((r0_2.1.fns.length : Int)) - 1).toNat * 3) [(.int .i64 (x0_1.params)), (.int .i64 (x0_1.slots)), (.slice p0_2 x0_1.ins.length c0_3)] [(.slice (some ⟨b0_4, o0_1, none⟩) r0_2.1.fns.length c0_1)] [(.slice p0_2 x0_1.ins.length c0_3)] (fun (y : List Mins) => (r0_2.1.fns : List Mfn).set (((r0_2.1.fns.length : Int)) - 1).toNat (⟨x0_1.params, x0_1.slots, y⟩ : Mfn)), blk b0_1 [(.int .i64 (0)), (.int .i64 (0)), (.int .i64 (0)), (.int .i64 (0)), (.int .i64 (0))] 27] := hm.pick [1, 2, 3, 4, 5] (by decide) rfl
    refine ⟨fun _ => hS, ?_⟩
    obtain ⟨x0_2, hx0_7, hq⟩ := bnd hq
    obtain ⟨h0_7, hx0_8⟩ := getI_some.1 hx0_7
    obtain ⟨b0_6, o0_2, c0_4, he⟩ := idx_form (hm.ow_rep 2 rfl) hx0_8
    simp only [Value.slice.injEq, Option.some.injEq] at he; obtain ⟨rfl, _, rfl⟩ := he
    refine td_p hf rfl rfl rfl rfl (fun w => y_indexAddr st_33 rfl rfl rfl h0_7 (idx_lt hx0_8)) ?_
    clear hf a; intro a hf
    refine te_one ?_
    refine td_ef hf rfl rfl rfl rfl (ef_y hf (y_loadN (cs := [(.int .i64 (x0_2.op)), (.int .i64 (x0_2.a_)), (.int .i64 (x0_2.b)), (.int .i64 (x0_2.c)), (.int .i64 (x0_2.n_))]) Tryd.isAgg27 Tryd.sizeOf27 rfl rfl (flat_cells (cs := [(.int .i64 (x0_2.op)), (.int .i64 (x0_2.a_)), (.int .i64 (x0_2.b)), (.int .i64 (x0_2.c)), (.int .i64 (x0_2.n_))]) (hm.ow_rep 2 rfl) hx0_8 rfl))) ?_
    clear hf a; rintro _ _ a ⟨rfl, rfl⟩ hf
    refine ⟨fun h => absurd h (by decide), ?_⟩
    refine te_one ?_
    refine td_ef0 hf rfl rfl rfl (e_storeN 5 hf hm rfl Tryd.sizeOf27 rfl rfl rfl (one_cons rfl (one_cons rfl (one_cons rfl (one_cons rfl (one_cons rfl one_nil))))) rfl rfl) ?_
    clear hf a; rintro _ w0_10 a hm hf
    refine ⟨fun h => absurd h (by decide), ?_⟩
    clear hS; refine td_end ?_
    refine x_then_n ?_
    refine wp_ret ?_
    obtain rfl := Option.some.inj hq
    replace hm := hm.thaw hle0_1
    refine ret_cell 5 hf Tryd.results46 hm rfl rfl Tryd.isAgg27 Tryd.sizeOf27 ?_
    exact ⟨rfl, hm.below⟩

theorem spec_DrawEncodeMins_ok (w0 : World) (code : List UInt8) (v1 : Value) (h1 : GT.rep (hp w0) [v1] code) (r : Mins) (hq : spec_DrawEncodeMins code = some r) :
    Con Tryd.prog 16 [v1] w0 (fun v w' => v = (.agg #[(.int .i64 (r.op)), (.int .i64 (r.a_)), (.int .i64 (r.b)), (.int .i64 (r.c)), (.int .i64 (r.n_))]) ∧ Below w0.heap.size w0 w') := by
  unfold spec_DrawEncodeMins at hq
  refine con_body (l := [(0, v1)]) Tryd.func16 rfl Tryd.ntmps16 (Args.get ⟨rfl, trivial⟩) rfl ?_
  intro a hf
  have hm := Mem.start w0
  refine wp_seq ?_
  refine wp_region_lit ?_
  refine st_ef hf rfl rfl rfl (e_alloc hm Tryd.zeroValue27 rfl rfl) ?_
  clear hf a; rintro _ w0_1 a ⟨b0_1, rfl, hm⟩ hf
  refine st_end ?_
  refine x_then_n ?_
  refine wp_seq ?_
  refine wp_region_lit ?_
  refine st_y hf rfl rfl rfl (y_move rfl rfl) ?_
  clear hf a; intro a hf
  obtain ⟨r0_1, hx0_1, hq⟩ := bnd hq
  refine st_ef hf rfl rfl rfl (e_call hf rfl Tryd.call46 rfl (spec_DrawMinsText_ok _ code v1 (hm.now h1) _ hx0_1)) ?_
  clear hf a; rintro v0_1 w0_2 a ho0_1 hf
  obtain ⟨rfl, hB⟩ := ho0_1
  replace hm := hm.below' hB; clear hB
  refine st_ef0 hf rfl rfl (e_storeN 0 hf hm rfl Tryd.sizeOf27 rfl rfl rfl (one_cons rfl (one_cons rfl (one_cons rfl (one_cons rfl (one_cons rfl one_nil))))) rfl rfl) ?_
  clear hf a; rintro _ w0_3 a hm hf
  refine st_end ?_
  refine x_then_n ?_
  refine wp_ret ?_
  obtain rfl := Option.some.inj hq
  refine ret_cell 0 hf Tryd.results16 hm rfl rfl Tryd.isAgg27 Tryd.sizeOf27 ?_
  exact ⟨rfl, hm.below⟩

theorem impl_within_ok (w0 : World) (n_ : Int) (low : Int) (high : Int) (r : Bool) (hq : impl_within n_ low high = some r) :
    Con Tryd.prog 43 [(.int .i64 (n_)), (.int .i64 (low)), (.int .i64 (high))] w0 (fun v w' => v = (.bool (r)) ∧ Below w0.heap.size w0 w') := by
  unfold impl_within at hq
  refine con_body (l := [(0, (.int .i64 (n_))), (1, (.int .i64 (low))), (2, (.int .i64 (high)))]) Tryd.func43 rfl Tryd.ntmps43 (Args.get ⟨rfl, rfl, rfl, trivial⟩) rfl ?_
  intro a hf
  have hm := Mem.start w0
  refine wp_seq ?_
  refine wp_region_lit ?_
  refine st_y hf rfl rfl rfl (y_assign rfl rfl) ?_
  clear hf a; intro a hf
  refine st_end ?_
  refine x_then_n ?_
  refine wp_seq ?_
  obtain ⟨s0_1, hq0_1, hq⟩ := bnd hq
  refine code_cut (K := fun a w => Fr 15 [(6, (.bool (s0_1)))] a ∧ Mem w0 (hp w0) w []) ?_ ?_
  ·
    refine wp_region_lit ?_
    refine st_y hf rfl rfl rfl (y_move rfl rfl) ?_
    clear hf a; intro a hf
    refine st_y hf rfl rfl rfl (y_move rfl rfl) ?_
    clear hf a; intro a hf
    refine st_y hf rfl rfl rfl (y_leq rfl rfl rfl) ?_
    clear hf a; intro a hf
    refine st_y hf rfl rfl rfl (y_move rfl rfl) ?_
    clear hf a; intro a hf
    rcases bcases (decide (low ≤ n_)) with h1_1 | h1_1
    ·
      replace hq0_1 := (ite_t h1_1).symm.trans hq0_1
      have h1_2 := of_decide_eq_true h1_1
      refine st_yg hf rfl rfl (lk_b rfl h1_1) rfl rfl (y_move rfl rfl) ?_
      clear hf a; intro a hf
      refine st_yg hf rfl rfl (lk_b rfl h1_1) rfl rfl (y_move rfl rfl) ?_
      clear hf a; intro a hf
      refine st_yg hf rfl rfl (lk_b rfl h1_1) rfl rfl (y_leq rfl rfl rfl) ?_
      clear hf a; intro a hf
      refine st_y hf rfl rfl rfl (y_pick_t rfl (ev_b rfl h1_1) rfl) ?_
      clear hf a; intro a hf
      refine st_y hf rfl rfl rfl (y_assign rfl rfl) ?_
      clear hf a; intro a hf
      refine st_end ?_
      refine x_then_n ?_
      obtain rfl := Option.some.inj hq0_1
      exact ⟨hf.sub ⟨rfl, trivial⟩, hm.pick [] (by decide) rfl⟩
    ·
      replace hq0_1 := (ite_f h1_1).symm.trans hq0_1
      have h1_3 := of_decide_eq_false h1_1
      refine st_no hf rfl rfl (lk_b rfl h1_1) rfl rfl rfl ?_
      clear hf a; intro a hf
      refine st_no hf rfl rfl (lk_b rfl h1_1) rfl rfl rfl ?_
      clear hf a; intro a hf
      refine st_no hf rfl rfl (lk_b rfl h1_1) rfl rfl rfl ?_
      clear hf a; intro a hf
      refine st_y hf rfl rfl rfl (y_pick_f rfl (ev_b rfl h1_1) rfl) ?_
      clear hf a; intro a hf
      refine st_y hf rfl rfl rfl (y_assign rfl rfl) ?_
      clear hf a; intro a hf
      refine st_end ?_
      refine x_then_n ?_
      obtain rfl := Option.some.inj hq0_1
      exact ⟨hf.sub ⟨rfl, trivial⟩, hm.pick [] (by decide) rfl⟩
  ·
    clear hf hm
    rintro a w ⟨hf, hm⟩
    refine x_then_n ?_
    refine wp_ret ?_
    obtain rfl := Option.some.inj hq
    refine ret_tmp hf Tryd.results43 rfl ?_
    exact ⟨rfl, hm.below⟩

theorem impl_formOf_ok (w0 : World) (x_ : Mins) (hG0 : GT.rep (hp w0) [.slice (some ⟨0, 0, none⟩) 23 23] glob_impl_forms) (r : form × Bool) (hq : impl_formOf x_ = some r) :
    Con Tryd.prog 41 [(.agg #[(.int .i64 (x_.op)), (.int .i64 (x_.a_)), (.int .i64 (x_.b)), (.int .i64 (x_.c)), (.int .i64 (x_.n_))])] w0 (fun v w' => v = (.tuple #[(.agg #[(.string ⟨(r.1.name).b.toArray⟩), (.int .i64 (r.1.fields))]), (.bool (r.2))]) ∧ Below w0.heap.size w0 w') := by
  unfold impl_formOf at hq
  refine con_body (l := [(0, (.agg #[(.int .i64 (x_.op)), (.int .i64 (x_.a_)), (.int .i64 (x_.b)), (.int .i64 (x_.c)), (.int .i64 (x_.n_))]))]) Tryd.func41 rfl Tryd.ntmps41 (Args.get ⟨rfl, trivial⟩) rfl ?_
  intro a hf
  have hm := Mem.start w0
  refine wp_seq ?_
  refine wp_region_lit ?_
  refine st_ef hf rfl rfl rfl (e_box hf hm rfl rfl rfl) ?_
  clear hf a; rintro _ w0_1 a ⟨b0_1, rfl, hm⟩ hf
  refine st_ef hf rfl rfl rfl (e_alloc hm Tryd.zeroValue62 rfl rfl) ?_
  clear hf a; rintro _ w0_2 a ⟨b0_2, rfl, hm⟩ hf
  refine st_y hf rfl rfl rfl (y_assign rfl rfl) ?_
  clear hf a; intro a hf
  refine st_end ?_
  refine x_then_n ?_
  refine wp_seq ?_
  refine wp_seq ?_
  refine wp_region_lit ?_
  refine st_y hf rfl rfl rfl (y_fieldAddr fo_27_0 rfl rfl) ?_
  clear hf a; intro a hf
  refine st_y hf rfl rfl rfl (y_load1 Tryd.isAgg3 rfl rfl (hm.blk_cell 1 rfl rfl)) ?_
  clear hf a; intro a hf
  obtain ⟨r0_1, hx0_1, hq⟩ := bnd hq
  refine st_ef hf rfl rfl rfl (e_call hf rfl Tryd.call43 rfl (impl_within_ok _ x_.op 1 22 _ hx0_1)) ?_
  clear hf a; rintro v0_1 w0_3 a ho0_1 hf
  obtain ⟨rfl, hB⟩ := ho0_1
  replace hm := hm.below' hB; clear hB
  refine st_y hf rfl rfl rfl (y_not rfl rfl) ?_
  clear hf a; intro a hf
  refine st_end ?_
  refine x_then_n ?_
  rcases bcases (!(r0_1)) with h0_1 | h0_1
  ·
    replace hq := (ite_t h0_1).symm.trans hq
    have h0_2 := bnot_t' h0_1
    refine cond_t hf rfl h0_1 ?_
    refine wp_seq ?_
    refine wp_region_lit ?_
    refine st_y hf rfl rfl rfl (y_build (vs := []) (cs := #[(.string ⟨((mkS [])).b.toArray⟩), (.int .i64 (0))]) rfl rfl (by kernel_rfl)) ?_
    clear hf a; intro a hf
    refine st_ef0 hf rfl rfl (e_storeN 0 hf hm rfl Tryd.sizeOf62 rfl rfl rfl (one_cons rfl (one_cons rfl one_nil)) rfl rfl) ?_
    clear hf a; rintro _ w0_4 a hm hf
    refine st_y hf rfl rfl rfl (y_assign rfl rfl) ?_
    clear hf a; intro a hf
    refine st_end ?_
    refine x_then_n ?_
    refine wp_ret ?_
    refine x_then_ret ?_
    obtain rfl := Option.some.inj hq
    refine ret_cell_tmp 0 hf Tryd.results41 hm rfl rfl Tryd.isAgg62 Tryd.sizeOf62 rfl ?_
    exact ⟨rfl, hm.below⟩
  ·
    replace hq := (ite_f h0_1).symm.trans hq
    have h0_3 := bnot_f' h0_1
    refine cond_f hf rfl h0_1 ?_
    refine wp_skip ?_
    refine x_then_n ?_
    refine wp_seq ?_
    refine wp_region_lit ?_
    refine st_y hf rfl rfl rfl (y_fieldAddr fo_27_0 rfl rfl) ?_
    clear hf a; intro a hf
    refine st_y hf rfl rfl rfl (y_load1 Tryd.isAgg3 rfl rfl (hm.blk_cell 1 rfl rfl)) ?_
    clear hf a; intro a hf
    obtain ⟨x0_1, hx0_2, hq⟩ := bnd hq
    obtain ⟨h0_4, hx0_3⟩ := getI_some.1 hx0_2
    refine st_y hf rfl rfl rfl (y_indexArr Tryd.underlying91 Tryd.sizeOf62 rfl rfl rfl h0_4 (idx_lt2 hx0_3 rfl)) ?_
    clear hf a; intro a hf
    refine st_y hf rfl rfl rfl (y_loadN (cs := [(.string ⟨(x0_1.name).b.toArray⟩), (.int .i64 (x0_1.fields))]) Tryd.isAgg62 Tryd.sizeOf62 rfl rfl (flat_cells (cs := [(.string ⟨(x0_1.name).b.toArray⟩), (.int .i64 (x0_1.fields))]) (hm.now hG0) hx0_3 rfl)) ?_
    clear hf a; intro a hf
    refine st_ef hf rfl rfl rfl (e_alloc hm Tryd.zeroValue62 rfl rfl) ?_
    clear hf a; rintro _ w0_5 a ⟨b0_3, rfl, hm⟩ hf
    refine st_ef0 hf rfl rfl (e_storeN 0 hf hm rfl Tryd.sizeOf62 rfl rfl rfl (one_cons rfl (one_cons rfl one_nil)) rfl rfl) ?_
    clear hf a; rintro _ w0_6 a hm hf
    refine st_end ?_
    refine x_then_n ?_
    refine wp_seq ?_
    refine wp_seq ?_
    refine wp_region_lit ?_
    refine st_y hf rfl rfl rfl (y_fieldAddr fo_27_1 rfl rfl) ?_
    clear hf a; intro a hf
    refine st_y hf rfl rfl rfl (y_load1 Tryd.isAgg3 rfl rfl (hm.blk_cell 2 rfl rfl)) ?_
    clear hf a; intro a hf
    refine st_y hf rfl rfl rfl (y_fieldAddr fo_27_2 rfl rfl) ?_
    clear hf a; intro a hf
    refine st_y hf rfl rfl rfl (y_load1 Tryd.isAgg3 rfl rfl (hm.blk_cell 2 rfl rfl)) ?_
    clear hf a; intro a hf
    refine st_y hf rfl rfl rfl (y_fieldAddr fo_27_3 rfl rfl) ?_
    clear hf a; intro a hf
    refine st_y hf rfl rfl rfl (y_load1 Tryd.isAgg3 rfl rfl (hm.blk_cell 2 rfl rfl)) ?_
    clear hf a; intro a hf
    refine st_y hf rfl rfl rfl (y_fieldAddr fo_27_4 rfl rfl) ?_
    clear hf a; intro a hf
    refine st_y hf rfl rfl rfl (y_load1 Tryd.isAgg3 rfl rfl (hm.blk_cell 2 rfl rfl)) ?_
    clear hf a; intro a hf
    refine st_y hf rfl rfl rfl (y_build (vs := [(0, (.int .i64 (x_.a_))), (1, (.int .i64 (x_.b))), (2, (.int .i64 (x_.c))), (3, (.int .i64 (x_.n_)))]) (cs := #[(.int .i64 (x_.a_)), (.int .i64 (x_.b)), (.int .i64 (x_.c)), (.int .i64 (x_.n_))]) rfl rfl (by kernel_rfl)) ?_
    clear hf a; intro a hf
    refine st_y hf rfl rfl rfl (y_move rfl rfl) ?_
    clear hf a; intro a hf
    refine st_end ?_
    refine x_then_n ?_
    refine wp_block ?_
    obtain ⟨r0_2, hl0_1, hq⟩ := bnd hq
    refine wp_forN _ (fun i1_1 xs1_1 a w => Fr 42 [(2, (.pointer (some ⟨b0_2, 0, none⟩))), (4, (.pointer (some ⟨b0_3, 0, none⟩))), (24, (.agg #[(.int .i64 (x_.a_)), (.int .i64 (x_.b)), (.int .i64 (x_.c)), (.int .i64 (x_.n_))])), (25, (.int .i64 (i1_1)))] a ∧ Mem w0 (hp w0) w [blk b0_2 [(.string ⟨((mkS [])).b.toArray⟩), (.int .i64 (0))] 62, blk b0_3 [(.string ⟨(x0_1.name).b.toArray⟩), (.int .i64 (x0_1.fields))] 62]) (0) (4) hl0_1 ?_ ?_ ?_
    ·
      exact ⟨hf.sub ⟨rfl, rfl, rfl, rfl, trivial⟩, hm.pick [1, 0] (by decide) rfl⟩
    ·
      clear hf hm
      rintro i1_1 xs1_1 a w ⟨hf, hm⟩ hi1_1 hi1_2 q0_1 hb0_1 ho0_2
      refine wp_seq ?_
      refine wp_region_lit ?_
      refine st_y hf rfl rfl rfl (y_lss rfl rfl rfl) ?_
      clear hf a; intro a hf
      refine st_end ?_
      refine x_then_n ?_
      refine wp_seq ?_
      refine cond_t hf rfl (decide_eq_true (by omega)) ?_
      refine wp_skip ?_
      refine x_then_n ?_
      refine wp_seq ?_
      refine wp_block ?_
      refine wp_seq ?_
      refine wp_region_lit ?_
      refine st_y hf rfl rfl rfl (y_move rfl rfl) ?_
      clear hf a; intro a hf
      obtain ⟨x1_1, hx1_1, hb0_1⟩ := bnd hb0_1
      obtain ⟨h1_1, hx1_2⟩ := getI_some.1 hx1_1
      refine st_y hf rfl rfl rfl (y_idx_arr Tryd.underlying92 Tryd.sizeOf3 Tryd.isAgg3 rfl rfl rfl h1_1 (by have := idx_lt hx1_2; simp only [List.length_cons, List.length_nil] at this; omega) (idx_map (f := fun x => (.int .i64 (x))) hx1_2 rfl)) ?_
      clear hf a; intro a hf
      refine st_y hf rfl rfl rfl (y_assign rfl rfl) ?_
      clear hf a; intro a hf
      refine st_y hf rfl rfl rfl (y_assign rfl rfl) ?_
      clear hf a; intro a hf
      refine st_end ?_
      refine x_then_n ?_
      refine wp_seq ?_
      obtain ⟨s1_1, hq1_1, hb0_1⟩ := bnd hb0_1
      refine code_cut (K := fun a w => Fr 42 [(2, (.pointer (some ⟨b0_2, 0, none⟩))), (4, (.pointer (some ⟨b0_3, 0, none⟩))), (24, (.agg #[(.int .i64 (x_.a_)), (.int .i64 (x_.b)), (.int .i64 (x_.c)), (.int .i64 (x_.n_))])), (25, (.int .i64 (i1_1))), (38, (.bool (s1_1)))] a ∧ Mem w0 (hp w0) w [blk b0_2 [(.string ⟨((mkS [])).b.toArray⟩), (.int .i64 (0))] 62, blk b0_3 [(.string ⟨(x0_1.name).b.toArray⟩), (.int .i64 (x0_1.fields))] 62]) ?_ ?_
      ·
        refine wp_tree (.p 0 (.p 2 (.p 3 (.e 1 (.p 4 (.p 5 (.p 6 (.p 7 (.p 8 (.p 9 .fin)))))) .nil)))) [] [0, 2, 3, 4, 5, 6, 7, 8, 9] (fun w => Mem w0 (hp w0) w [blk b0_2 [(.string ⟨((mkS [])).b.toArray⟩), (.int .i64 (0))] 62, blk b0_3 [(.string ⟨(x0_1.name).b.toArray⟩), (.int .i64 (x0_1.fields))] 62]) (by kernel_rfl) (by kernel_rfl) (fun _ _ _ h => h.2) ?_
        replace hm := hm.drew
        have hS : Mem w0 (hp w0) _ [blk b0_2 [(.string ⟨((mkS [])).b.toArray⟩), (.int .i64 (0))] 62, blk b0_3 [(.string ⟨(x0_1.name).b.toArray⟩), (.int .i64 (x0_1.fields))] 62] := hm.pick [0, 1] (by decide) rfl
        refine td_p hf rfl rfl rfl rfl (fun w => y_fieldAddr fo_62_1 rfl rfl) ?_
        clear hf a; intro a hf
        refine td_p hf rfl rfl rfl rfl (fun w => y_move rfl rfl) ?_
        clear hf a; intro a hf
        refine td_p hf rfl rfl rfl rfl (fun w => y_shl rfl rfl rfl (by omega)) ?_
        clear hf a; intro a hf
        refine te_one ?_
        refine td_ef hf rfl rfl rfl rfl (ef_y hf (y_load1 Tryd.isAgg3 rfl rfl (hm.blk_cell 1 rfl rfl))) ?_
        clear hf a; rintro _ _ a ⟨rfl, rfl⟩ hf
        refine ⟨fun h => absurd h (by decide), ?_⟩
        refine td_p hf rfl rfl rfl rfl (fun w => y_and rfl rfl rfl) ?_
        clear hf a; intro a hf
        refine td_p hf rfl rfl rfl rfl (fun w => y_eql rfl rfl rfl) ?_
        clear hf a; intro a hf
        refine td_p hf rfl rfl rfl rfl (fun w => y_move rfl rfl) ?_
        clear hf a; intro a hf
        rcases bcases (decide ((andI x0_1.fields (shlI 1 i1_1)) = 0)) with h2_1 | h2_1
        ·
          replace hq1_1 := (ite_t h2_1).symm.trans hq1_1
          have h2_2 := of_decide_eq_true h2_1
          refine td_pg hf rfl rfl rfl (lk_b rfl h2_1) rfl rfl (fun w => y_move rfl rfl) ?_
          clear hf a; intro a hf
          refine td_pg hf rfl rfl rfl (lk_b rfl h2_1) rfl rfl (fun w => y_neq rfl rfl rfl) ?_
          clear hf a; intro a hf
          refine td_p hf rfl rfl rfl rfl (fun w => y_pick_t rfl (ev_b rfl h2_1) rfl) ?_
          clear hf a; intro a hf
          clear hS; refine td_end ?_
          refine x_then_n ?_
          obtain rfl := Option.some.inj hq1_1
          exact ⟨hf.sub ⟨rfl, rfl, rfl, rfl, rfl, trivial⟩, hm.pick [0, 1] (by decide) rfl⟩
        ·
          replace hq1_1 := (ite_f h2_1).symm.trans hq1_1
          have h2_3 := of_decide_eq_false h2_1
          refine td_pno hf rfl rfl rfl (lk_b rfl h2_1) rfl rfl rfl ?_
          clear hf a; intro a hf
          refine td_pno hf rfl rfl rfl (lk_b rfl h2_1) rfl rfl rfl ?_
          clear hf a; intro a hf
          refine td_p hf rfl rfl rfl rfl (fun w => y_pick_f rfl (ev_b rfl h2_1) rfl) ?_
          clear hf a; intro a hf
          clear hS; refine td_end ?_
          refine x_then_n ?_
          obtain rfl := Option.some.inj hq1_1
          exact ⟨hf.sub ⟨rfl, rfl, rfl, rfl, rfl, trivial⟩, hm.pick [0, 1] (by decide) rfl⟩
      ·
        clear hf hm
        rintro a w ⟨hf, hm⟩
        refine x_then_n ?_
        rcases bcases (s1_1) with h1_2 | h1_2
        ·
          replace hb0_1 := (ite_t h1_2).symm.trans hb0_1
          refine cond_t hf rfl h1_2 ?_
          refine wp_seq ?_
          refine wp_region_lit ?_
          refine st_y hf rfl rfl rfl (y_build (vs := []) (cs := #[(.string ⟨((mkS [])).b.toArray⟩), (.int .i64 (0))]) rfl rfl (by kernel_rfl)) ?_
          clear hf a; intro a hf
          refine st_ef0 hf rfl rfl (e_storeN 0 hf hm rfl Tryd.sizeOf62 rfl rfl rfl (one_cons rfl (one_cons rfl one_nil)) rfl rfl) ?_
          clear hf a; rintro _ w1_1 a hm hf
          refine st_y hf rfl rfl rfl (y_assign rfl rfl) ?_
          clear hf a; intro a hf
          refine st_end ?_
          refine x_then_n ?_
          refine wp_ret ?_
          refine x_blk_ret ?_
          refine x_then_ret ?_
          refine x_then_ret ?_
          refine x_blk_ret ?_
          refine x_then_ret ?_
          obtain rfl := Option.some.inj hb0_1
          obtain rfl := ho0_2 _ rfl
          replace hq := sum_r hq
          obtain rfl := Option.some.inj hq
          refine ret_cell_tmp 0 hf Tryd.results41 hm rfl rfl Tryd.isAgg62 Tryd.sizeOf62 rfl ?_
          exact ⟨rfl, hm.below⟩
        ·
          replace hb0_1 := (ite_f h1_2).symm.trans hb0_1
          refine cond_f hf rfl h1_2 ?_
          refine wp_skip ?_
          refine x_blk_n ?_
          refine x_then_n ?_
          refine wp_region_lit ?_
          refine st_y hf rfl rfl rfl (y_add64 rfl rfl rfl (by omega) (by omega)) ?_
          clear hf a; intro a hf
          refine st_y hf rfl rfl rfl (y_move rfl rfl) ?_
          clear hf a; intro a hf
          refine st_end ?_
          refine x_then_n ?_
          obtain rfl := Option.some.inj hb0_1
          exact ⟨_, rfl, hf.sub ⟨rfl, rfl, rfl, rfl, trivial⟩, hm.pick [0, 1] (by decide) rfl⟩
    ·
      clear hf hm
      rintro i0_1 xs0_1 a w ⟨hf, hm⟩ hi0_1 hi0_2 rfl
      replace hq := sum_l hq
      refine wp_seq ?_
      refine wp_region_lit ?_
      refine st_y hf rfl rfl rfl (y_lss rfl rfl rfl) ?_
      clear hf a; intro a hf
      refine st_end ?_
      refine x_then_n ?_
      refine wp_seq ?_
      refine cond_f hf rfl (decide_eq_false (by omega)) ?_
      refine wp_exit ?_
      refine x_then_exit ?_
      refine x_then_exit ?_
      refine x_blk_hit ?_
      refine x_then_n ?_
      refine wp_seq ?_
      refine wp_region_lit ?_
      refine st_y hf rfl rfl rfl (y_loadN (cs := [(.string ⟨(x0_1.name).b.toArray⟩), (.int .i64 (x0_1.fields))]) Tryd.isAgg62 Tryd.sizeOf62 rfl rfl (hm.blk_at 1 rfl)) ?_
      clear hf a; intro a hf
      refine st_ef0 hf rfl rfl (e_storeN 0 hf hm rfl Tryd.sizeOf62 rfl rfl rfl (one_cons rfl (one_cons rfl one_nil)) rfl rfl) ?_
      clear hf a; rintro _ w0_7 a hm hf
      refine st_y hf rfl rfl rfl (y_assign rfl rfl) ?_
      clear hf a; intro a hf
      refine st_end ?_
      refine x_then_n ?_
      refine wp_ret ?_
      obtain rfl := Option.some.inj hq
      refine ret_cell_tmp 0 hf Tryd.results41 hm rfl rfl Tryd.isAgg62 Tryd.sizeOf62 rfl ?_
      exact ⟨rfl, hm.below⟩

theorem impl_jumpOp_ok (w0 : World) (op : Int) (r : Bool) (hq : impl_jumpOp op = some r) :
    Con Tryd.prog 42 [(.int .i64 (op))] w0 (fun v w' => v = (.bool (r)) ∧ Below w0.heap.size w0 w') := by
  unfold impl_jumpOp at hq
  refine con_body (l := [(0, (.int .i64 (op)))]) Tryd.func42 rfl Tryd.ntmps42 (Args.get ⟨rfl, trivial⟩) rfl ?_
  intro a hf
  have hm := Mem.start w0
  refine wp_seq ?_
  refine wp_region_lit ?_
  refine st_y hf rfl rfl rfl (y_assign rfl rfl) ?_
  clear hf a; intro a hf
  refine st_end ?_
  refine x_then_n ?_
  refine wp_seq ?_
  obtain ⟨s0_1, hq0_1, hq⟩ := bnd hq
  refine code_cut (K := fun a w => Fr 9 [(2, (.bool (s0_1)))] a ∧ Mem w0 (hp w0) w []) ?_ ?_
  ·
    refine wp_region_lit ?_
    refine st_y hf rfl rfl rfl (y_move rfl rfl) ?_
    clear hf a; intro a hf
    refine st_y hf rfl rfl rfl (y_eql rfl rfl rfl) ?_
    clear hf a; intro a hf
    refine st_y hf rfl rfl rfl (y_move rfl rfl) ?_
    clear hf a; intro a hf
    rcases bcases (decide (op = 20)) with h1_1 | h1_1
    ·
      replace hq0_1 := (ite_t h1_1).symm.trans hq0_1
      have h1_2 := of_decide_eq_true h1_1
      refine st_no hf rfl rfl (lk_b rfl h1_1) rfl rfl rfl ?_
      clear hf a; intro a hf
      refine st_no hf rfl rfl (lk_b rfl h1_1) rfl rfl rfl ?_
      clear hf a; intro a hf
      refine st_y hf rfl rfl rfl (y_pick_t rfl (ev_b rfl h1_1) rfl) ?_
      clear hf a; intro a hf
      refine st_y hf rfl rfl rfl (y_assign rfl rfl) ?_
      clear hf a; intro a hf
      refine st_end ?_
      refine x_then_n ?_
      obtain rfl := Option.some.inj hq0_1
      exact ⟨hf.sub ⟨rfl, trivial⟩, hm.pick [] (by decide) rfl⟩
    ·
      replace hq0_1 := (ite_f h1_1).symm.trans hq0_1
      have h1_3 := of_decide_eq_false h1_1
      refine st_yg hf rfl rfl (lk_b rfl h1_1) rfl rfl (y_move rfl rfl) ?_
      clear hf a; intro a hf
      refine st_yg hf rfl rfl (lk_b rfl h1_1) rfl rfl (y_eql rfl rfl rfl) ?_
      clear hf a; intro a hf
      refine st_y hf rfl rfl rfl (y_pick_f rfl (ev_b rfl h1_1) rfl) ?_
      clear hf a; intro a hf
      refine st_y hf rfl rfl rfl (y_assign rfl rfl) ?_
      clear hf a; intro a hf
      refine st_end ?_
      refine x_then_n ?_
      obtain rfl := Option.some.inj hq0_1
      exact ⟨hf.sub ⟨rfl, trivial⟩, hm.pick [] (by decide) rfl⟩
  ·
    clear hf hm
    rintro a w ⟨hf, hm⟩
    refine x_then_n ?_
    refine wp_ret ?_
    obtain rfl := Option.some.inj hq
    refine ret_tmp hf Tryd.results42 rfl ?_
    exact ⟨rfl, hm.below⟩

theorem impl_isByte_ok (w0 : World) (n_ : Int) (r : Bool) (hq : impl_isByte n_ = some r) :
    Con Tryd.prog 44 [(.int .i64 (n_))] w0 (fun v w' => v = (.bool (r)) ∧ Below w0.heap.size w0 w') := by
  unfold impl_isByte at hq
  refine con_body (l := [(0, (.int .i64 (n_)))]) Tryd.func44 rfl Tryd.ntmps44 (Args.get ⟨rfl, trivial⟩) rfl ?_
  intro a hf
  have hm := Mem.start w0
  refine wp_seq ?_
  refine wp_region_lit ?_
  refine st_y hf rfl rfl rfl (y_assign rfl rfl) ?_
  clear hf a; intro a hf
  refine st_end ?_
  refine x_then_n ?_
  refine wp_seq ?_
  refine wp_region_lit ?_
  refine st_y hf rfl rfl rfl (y_move rfl rfl) ?_
  clear hf a; intro a hf
  obtain ⟨r0_1, hx0_1, hq⟩ := bnd hq
  refine st_ef hf rfl rfl rfl (e_call hf rfl Tryd.call43 rfl (impl_within_ok _ n_ 0 255 _ hx0_1)) ?_
  clear hf a; rintro v0_1 w0_1 a ho0_1 hf
  obtain ⟨rfl, hB⟩ := ho0_1
  replace hm := hm.below' hB; clear hB
  refine st_y hf rfl rfl rfl (y_assign rfl rfl) ?_
  clear hf a; intro a hf
  refine st_end ?_
  refine x_then_n ?_
  refine wp_ret ?_
  obtain rfl := Option.some.inj hq
  refine ret_tmp hf Tryd.results44 rfl ?_
  exact ⟨rfl, hm.below⟩

theorem impl_shapeOf_ok (w0 : World) (op : Int) (r : Int) (hq : impl_shapeOf op = some r) :
    Con Tryd.prog 65 [(.int .i64 (op))] w0 (fun v w' => v = (.int .i64 (r)) ∧ Below w0.heap.size w0 w') := by
  unfold impl_shapeOf at hq
  refine con_body (l := [(0, (.int .i64 (op)))]) Tryd.func65 rfl Tryd.ntmps65 (Args.get ⟨rfl, trivial⟩) rfl ?_
  intro a hf
  have hm := Mem.start w0
  refine wp_seq ?_
  refine wp_region_lit ?_
  refine st_y hf rfl rfl rfl (y_assign rfl rfl) ?_
  clear hf a; intro a hf
  refine st_end ?_
  refine x_then_n ?_
  refine wp_seq ?_
  refine wp_seq ?_
  refine wp_region_lit ?_
  refine st_y hf rfl rfl rfl (y_move rfl rfl) ?_
  clear hf a; intro a hf
  refine st_end ?_
  refine x_then_n ?_
  refine wp_block ?_
  refine wp_seq ?_
  refine wp_seq ?_
  refine wp_region_lit ?_
  refine st_y hf rfl rfl rfl (y_eql rfl rfl rfl) ?_
  clear hf a; intro a hf
  refine st_y hf rfl rfl rfl (y_assign rfl rfl) ?_
  clear hf a; intro a hf
  refine st_end ?_
  refine x_then_n ?_
  obtain ⟨s0_1, hq0_1, hq⟩ := bnd hq
  refine code_cut (K := fun a w => Fr 24 [(3, (.int .i64 (op))), (4, (.bool (s0_1)))] a ∧ Mem w0 (hp w0) w []) ?_ ?_
  ·
    rcases bcases (decide (op = 1)) with h1_1 | h1_1
    ·
      replace hq0_1 := (ite_t h1_1).symm.trans hq0_1
      have h1_2 := of_decide_eq_true h1_1
      refine cond_t hf rfl h1_1 ?_
      refine wp_skip ?_
      refine x_then_n ?_
      obtain rfl := Option.some.inj hq0_1
      exact ⟨hf.sub ⟨rfl, rfl, trivial⟩, hm.pick [] (by decide) rfl⟩
    ·
      replace hq0_1 := (ite_f h1_1).symm.trans hq0_1
      have h1_3 := of_decide_eq_false h1_1
      refine cond_f hf rfl h1_1 ?_
      refine wp_seq ?_
      refine wp_region_lit ?_
      refine st_y hf rfl rfl rfl (y_eql rfl rfl rfl) ?_
      clear hf a; intro a hf
      refine st_y hf rfl rfl rfl (y_assign rfl rfl) ?_
      clear hf a; intro a hf
      refine st_end ?_
      refine x_then_n ?_
      obtain ⟨s1_1, hq1_1, hq0_1⟩ := bnd hq0_1
      refine code_cut (K := fun a w => Fr 24 [(3, (.int .i64 (op))), (4, (.bool (s1_1)))] a ∧ Mem w0 (hp w0) w []) ?_ ?_
      ·
        rcases bcases (decide (op = 15)) with h2_1 | h2_1
        ·
          replace hq1_1 := (ite_t h2_1).symm.trans hq1_1
          have h2_2 := of_decide_eq_true h2_1
          refine cond_t hf rfl h2_1 ?_
          refine wp_skip ?_
          refine x_then_n ?_
          obtain rfl := Option.some.inj hq1_1
          exact ⟨hf.sub ⟨rfl, rfl, trivial⟩, hm.pick [] (by decide) rfl⟩
        ·
          replace hq1_1 := (ite_f h2_1).symm.trans hq1_1
          have h2_3 := of_decide_eq_false h2_1
          refine cond_f hf rfl h2_1 ?_
          refine wp_seq ?_
          refine wp_region_lit ?_
          refine st_y hf rfl rfl rfl (y_eql rfl rfl rfl) ?_
          clear hf a; intro a hf
          refine st_y hf rfl rfl rfl (y_assign rfl rfl) ?_
          clear hf a; intro a hf
          refine st_end ?_
          refine x_then_n ?_
          obtain ⟨s2_1, hq2_1, hq1_1⟩ := bnd hq1_1
          refine code_cut (K := fun a w => Fr 24 [(3, (.int .i64 (op))), (4, (.bool (s2_1)))] a ∧ Mem w0 (hp w0) w []) ?_ ?_
          ·
            rcases bcases (decide (op = 16)) with h3_1 | h3_1
            ·
              replace hq2_1 := (ite_t h3_1).symm.trans hq2_1
              have h3_2 := of_decide_eq_true h3_1
              refine cond_t hf rfl h3_1 ?_
              refine wp_skip ?_
              refine x_then_n ?_
              obtain rfl := Option.some.inj hq2_1
              exact ⟨hf.sub ⟨rfl, rfl, trivial⟩, hm.pick [] (by decide) rfl⟩
            ·
              replace hq2_1 := (ite_f h3_1).symm.trans hq2_1
              have h3_3 := of_decide_eq_false h3_1
              refine cond_f hf rfl h3_1 ?_
              refine wp_seq ?_
              refine wp_region_lit ?_
              refine st_y hf rfl rfl rfl (y_eql rfl rfl rfl) ?_
              clear hf a; intro a hf
              refine st_y hf rfl rfl rfl (y_assign rfl rfl) ?_
              clear hf a; intro a hf
              refine st_end ?_
              refine x_then_n ?_
              obtain ⟨s3_1, hq3_1, hq2_1⟩ := bnd hq2_1
              refine code_cut (K := fun a w => Fr 24 [(3, (.int .i64 (op))), (4, (.bool (s3_1)))] a ∧ Mem w0 (hp w0) w []) ?_ ?_
              ·
                rcases bcases (decide (op = 17)) with h4_1 | h4_1
                ·
                  replace hq3_1 := (ite_t h4_1).symm.trans hq3_1
                  have h4_2 := of_decide_eq_true h4_1
                  refine cond_t hf rfl h4_1 ?_
                  refine wp_skip ?_
                  refine x_then_n ?_
                  obtain rfl := Option.some.inj hq3_1
                  exact ⟨hf.sub ⟨rfl, rfl, trivial⟩, hm.pick [] (by decide) rfl⟩
                ·
                  replace hq3_1 := (ite_f h4_1).symm.trans hq3_1
                  have h4_3 := of_decide_eq_false h4_1
                  refine cond_f hf rfl h4_1 ?_
                  refine wp_region_lit ?_
                  refine st_y hf rfl rfl rfl (y_eql rfl rfl rfl) ?_
                  clear hf a; intro a hf
                  refine st_y hf rfl rfl rfl (y_assign rfl rfl) ?_
                  clear hf a; intro a hf
                  refine st_end ?_
                  refine x_then_n ?_
                  obtain rfl := Option.some.inj hq3_1
                  exact ⟨hf.sub ⟨rfl, rfl, trivial⟩, hm.pick [] (by decide) rfl⟩
              ·
                clear hf hm
                rintro a w ⟨hf, hm⟩
                refine x_then_n ?_
                obtain rfl := Option.some.inj hq2_1
                exact ⟨hf.sub ⟨rfl, rfl, trivial⟩, hm.pick [] (by decide) rfl⟩
          ·
            clear hf hm
            rintro a w ⟨hf, hm⟩
            refine x_then_n ?_
            obtain rfl := Option.some.inj hq1_1
            exact ⟨hf.sub ⟨rfl, rfl, trivial⟩, hm.pick [] (by decide) rfl⟩
      ·
        clear hf hm
        rintro a w ⟨hf, hm⟩
        refine x_then_n ?_
        obtain rfl := Option.some.inj hq0_1
        exact ⟨hf.sub ⟨rfl, rfl, trivial⟩, hm.pick [] (by decide) rfl⟩
  ·
    clear hf hm
    rintro a w ⟨hf, hm⟩
    refine x_then_n ?_
    rcases bcases (s0_1) with h0_1 | h0_1
    ·
      replace hq := (ite_t h0_1).symm.trans hq
      refine cond_t hf rfl h0_1 ?_
      refine wp_seq ?_
      refine wp_region_lit ?_
      refine st_y hf rfl rfl rfl (y_assign rfl rfl) ?_
      clear hf a; intro a hf
      refine st_end ?_
      refine x_then_n ?_
      refine wp_ret ?_
      refine x_blk_ret ?_
      refine x_then_ret ?_
      obtain rfl := Option.some.inj hq
      refine ret_tmp hf Tryd.results65 rfl ?_
      exact ⟨rfl, hm.below⟩
    ·
      replace hq := (ite_f h0_1).symm.trans hq
      refine cond_f hf rfl h0_1 ?_
      refine wp_seq ?_
      refine wp_seq ?_
      refine wp_region_lit ?_
      refine st_y hf rfl rfl rfl (y_eql rfl rfl rfl) ?_
      clear hf a; intro a hf
      refine st_y hf rfl rfl rfl (y_assign rfl rfl) ?_
      clear hf a; intro a hf
      refine st_end ?_
      refine x_then_n ?_
      obtain ⟨s0_2, hq0_2, hq⟩ := bnd hq
      refine code_cut (K := fun a w => Fr 24 [(3, (.int .i64 (op))), (10, (.bool (s0_2)))] a ∧ Mem w0 (hp w0) w []) ?_ ?_
      ·
        rcases bcases (decide (op = 2)) with h1_4 | h1_4
        ·
          replace hq0_2 := (ite_t h1_4).symm.trans hq0_2
          have h1_5 := of_decide_eq_true h1_4
          refine cond_t hf rfl h1_4 ?_
          refine wp_skip ?_
          refine x_then_n ?_
          obtain rfl := Option.some.inj hq0_2
          exact ⟨hf.sub ⟨rfl, rfl, trivial⟩, hm.pick [] (by decide) rfl⟩
        ·
          replace hq0_2 := (ite_f h1_4).symm.trans hq0_2
          have h1_6 := of_decide_eq_false h1_4
          refine cond_f hf rfl h1_4 ?_
          refine wp_seq ?_
          refine wp_region_lit ?_
          refine st_y hf rfl rfl rfl (y_eql rfl rfl rfl) ?_
          clear hf a; intro a hf
          refine st_y hf rfl rfl rfl (y_assign rfl rfl) ?_
          clear hf a; intro a hf
          refine st_end ?_
          refine x_then_n ?_
          obtain ⟨s1_2, hq1_2, hq0_2⟩ := bnd hq0_2
          refine code_cut (K := fun a w => Fr 24 [(3, (.int .i64 (op))), (10, (.bool (s1_2)))] a ∧ Mem w0 (hp w0) w []) ?_ ?_
          ·
            rcases bcases (decide (op = 10)) with h2_4 | h2_4
            ·
              replace hq1_2 := (ite_t h2_4).symm.trans hq1_2
              have h2_5 := of_decide_eq_true h2_4
              refine cond_t hf rfl h2_4 ?_
              refine wp_skip ?_
              refine x_then_n ?_
              obtain rfl := Option.some.inj hq1_2
              exact ⟨hf.sub ⟨rfl, rfl, trivial⟩, hm.pick [] (by decide) rfl⟩
            ·
              replace hq1_2 := (ite_f h2_4).symm.trans hq1_2
              have h2_6 := of_decide_eq_false h2_4
              refine cond_f hf rfl h2_4 ?_
              refine wp_seq ?_
              refine wp_region_lit ?_
              refine st_y hf rfl rfl rfl (y_eql rfl rfl rfl) ?_
              clear hf a; intro a hf
              refine st_y hf rfl rfl rfl (y_assign rfl rfl) ?_
              clear hf a; intro a hf
              refine st_end ?_
              refine x_then_n ?_
              obtain ⟨s2_2, hq2_2, hq1_2⟩ := bnd hq1_2
              refine code_cut (K := fun a w => Fr 24 [(3, (.int .i64 (op))), (10, (.bool (s2_2)))] a ∧ Mem w0 (hp w0) w []) ?_ ?_
              ·
                rcases bcases (decide (op = 11)) with h3_4 | h3_4
                ·
                  replace hq2_2 := (ite_t h3_4).symm.trans hq2_2
                  have h3_5 := of_decide_eq_true h3_4
                  refine cond_t hf rfl h3_4 ?_
                  refine wp_skip ?_
                  refine x_then_n ?_
                  obtain rfl := Option.some.inj hq2_2
                  exact ⟨hf.sub ⟨rfl, rfl, trivial⟩, hm.pick [] (by decide) rfl⟩
                ·
                  replace hq2_2 := (ite_f h3_4).symm.trans hq2_2
                  have h3_6 := of_decide_eq_false h3_4
                  refine cond_f hf rfl h3_4 ?_
                  refine wp_region_lit ?_
                  refine st_y hf rfl rfl rfl (y_eql rfl rfl rfl) ?_
                  clear hf a; intro a hf
                  refine st_y hf rfl rfl rfl (y_assign rfl rfl) ?_
                  clear hf a; intro a hf
                  refine st_end ?_
                  refine x_then_n ?_
                  obtain rfl := Option.some.inj hq2_2
                  exact ⟨hf.sub ⟨rfl, rfl, trivial⟩, hm.pick [] (by decide) rfl⟩
              ·
                clear hf hm
                rintro a w ⟨hf, hm⟩
                refine x_then_n ?_
                obtain rfl := Option.some.inj hq1_2
                exact ⟨hf.sub ⟨rfl, rfl, trivial⟩, hm.pick [] (by decide) rfl⟩
          ·
            clear hf hm
            rintro a w ⟨hf, hm⟩
            refine x_then_n ?_
            obtain rfl := Option.some.inj hq0_2
            exact ⟨hf.sub ⟨rfl, rfl, trivial⟩, hm.pick [] (by decide) rfl⟩
      ·
        clear hf hm
        rintro a w ⟨hf, hm⟩
        refine x_then_n ?_
        rcases bcases (s0_2) with h0_2 | h0_2
        ·
          replace hq := (ite_t h0_2).symm.trans hq
          refine cond_t hf rfl h0_2 ?_
          refine wp_seq ?_
          refine wp_region_lit ?_
          refine st_y hf rfl rfl rfl (y_assign rfl rfl) ?_
          clear hf a; intro a hf
          refine st_end ?_
          refine x_then_n ?_
          refine wp_ret ?_
          refine x_blk_ret ?_
          refine x_then_ret ?_
          obtain rfl := Option.some.inj hq
          refine ret_tmp hf Tryd.results65 rfl ?_
          exact ⟨rfl, hm.below⟩
        ·
          replace hq := (ite_f h0_2).symm.trans hq
          refine cond_f hf rfl h0_2 ?_
          refine wp_seq ?_
          refine wp_seq ?_
          refine wp_region_lit ?_
          refine st_y hf rfl rfl rfl (y_eql rfl rfl rfl) ?_
          clear hf a; intro a hf
          refine st_y hf rfl rfl rfl (y_assign rfl rfl) ?_
          clear hf a; intro a hf
          refine st_end ?_
          refine x_then_n ?_
          obtain ⟨s0_3, hq0_3, hq⟩ := bnd hq
          refine code_cut (K := fun a w => Fr 24 [(3, (.int .i64 (op))), (15, (.bool (s0_3)))] a ∧ Mem w0 (hp w0) w []) ?_ ?_
          ·
            rcases bcases (decide (op = 13)) with h1_7 | h1_7
            ·
              replace hq0_3 := (ite_t h1_7).symm.trans hq0_3
              have h1_8 := of_decide_eq_true h1_7
              refine cond_t hf rfl h1_7 ?_
              refine wp_skip ?_
              refine x_then_n ?_
              obtain rfl := Option.some.inj hq0_3
              exact ⟨hf.sub ⟨rfl, rfl, trivial⟩, hm.pick [] (by decide) rfl⟩
            ·
              replace hq0_3 := (ite_f h1_7).symm.trans hq0_3
              have h1_9 := of_decide_eq_false h1_7
              refine cond_f hf rfl h1_7 ?_
              refine wp_seq ?_
              refine wp_region_lit ?_
              refine st_y hf rfl rfl rfl (y_eql rfl rfl rfl) ?_
              clear hf a; intro a hf
              refine st_y hf rfl rfl rfl (y_assign rfl rfl) ?_
              clear hf a; intro a hf
              refine st_end ?_
              refine x_then_n ?_
              obtain ⟨s1_3, hq1_3, hq0_3⟩ := bnd hq0_3
              refine code_cut (K := fun a w => Fr 24 [(3, (.int .i64 (op))), (15, (.bool (s1_3)))] a ∧ Mem w0 (hp w0) w []) ?_ ?_
              ·
                rcases bcases (decide (op = 19)) with h2_7 | h2_7
                ·
                  replace hq1_3 := (ite_t h2_7).symm.trans hq1_3
                  have h2_8 := of_decide_eq_true h2_7
                  refine cond_t hf rfl h2_7 ?_
                  refine wp_skip ?_
                  refine x_then_n ?_
                  obtain rfl := Option.some.inj hq1_3
                  exact ⟨hf.sub ⟨rfl, rfl, trivial⟩, hm.pick [] (by decide) rfl⟩
                ·
                  replace hq1_3 := (ite_f h2_7).symm.trans hq1_3
                  have h2_9 := of_decide_eq_false h2_7
                  refine cond_f hf rfl h2_7 ?_
                  refine wp_region_lit ?_
                  refine st_y hf rfl rfl rfl (y_eql rfl rfl rfl) ?_
                  clear hf a; intro a hf
                  refine st_y hf rfl rfl rfl (y_assign rfl rfl) ?_
                  clear hf a; intro a hf
                  refine st_end ?_
                  refine x_then_n ?_
                  obtain rfl := Option.some.inj hq1_3
                  exact ⟨hf.sub ⟨rfl, rfl, trivial⟩, hm.pick [] (by decide) rfl⟩
              ·
                clear hf hm
                rintro a w ⟨hf, hm⟩
                refine x_then_n ?_
                obtain rfl := Option.some.inj hq0_3
                exact ⟨hf.sub ⟨rfl, rfl, trivial⟩, hm.pick [] (by decide) rfl⟩
          ·
            clear hf hm
            rintro a w ⟨hf, hm⟩
            refine x_then_n ?_
            rcases bcases (s0_3) with h0_3 | h0_3
            ·
              replace hq := (ite_t h0_3).symm.trans hq
              refine cond_t hf rfl h0_3 ?_
              refine wp_seq ?_
              refine wp_region_lit ?_
              refine st_y hf rfl rfl rfl (y_assign rfl rfl) ?_
              clear hf a; intro a hf
              refine st_end ?_
              refine x_then_n ?_
              refine wp_ret ?_
              refine x_blk_ret ?_
              refine x_then_ret ?_
              obtain rfl := Option.some.inj hq
              refine ret_tmp hf Tryd.results65 rfl ?_
              exact ⟨rfl, hm.below⟩
            ·
              replace hq := (ite_f h0_3).symm.trans hq
              refine cond_f hf rfl h0_3 ?_
              refine wp_seq ?_
              refine wp_region_lit ?_
              refine st_y hf rfl rfl rfl (y_eql rfl rfl rfl) ?_
              clear hf a; intro a hf
              refine st_y hf rfl rfl rfl (y_assign rfl rfl) ?_
              clear hf a; intro a hf
              refine st_end ?_
              refine x_then_n ?_
              rcases bcases (decide (op = 14)) with h0_4 | h0_4
              ·
                replace hq := (ite_t h0_4).symm.trans hq
                have h0_5 := of_decide_eq_true h0_4
                refine cond_t hf rfl h0_4 ?_
                refine wp_seq ?_
                refine wp_region_lit ?_
                refine st_y hf rfl rfl rfl (y_assign rfl rfl) ?_
                clear hf a; intro a hf
                refine st_end ?_
                refine x_then_n ?_
                refine wp_ret ?_
                refine x_blk_ret ?_
                refine x_then_ret ?_
                obtain rfl := Option.some.inj hq
                refine ret_tmp hf Tryd.results65 rfl ?_
                exact ⟨rfl, hm.below⟩
              ·
                replace hq := (ite_f h0_4).symm.trans hq
                have h0_6 := of_decide_eq_false h0_4
                refine cond_f hf rfl h0_4 ?_
                refine wp_seq ?_
                refine wp_seq ?_
                refine wp_region_lit ?_
                refine st_y hf rfl rfl rfl (y_eql rfl rfl rfl) ?_
                clear hf a; intro a hf
                refine st_y hf rfl rfl rfl (y_assign rfl rfl) ?_
                clear hf a; intro a hf
                refine st_end ?_
                refine x_then_n ?_
                obtain ⟨s0_4, hq0_4, hq⟩ := bnd hq
                refine code_cut (K := fun a w => Fr 24 [(21, (.bool (s0_4)))] a ∧ Mem w0 (hp w0) w []) ?_ ?_
                ·
                  rcases bcases (decide (op = 20)) with h1_10 | h1_10
                  ·
                    replace hq0_4 := (ite_t h1_10).symm.trans hq0_4
                    have h1_11 := of_decide_eq_true h1_10
                    refine cond_t hf rfl h1_10 ?_
                    refine wp_skip ?_
                    refine x_then_n ?_
                    obtain rfl := Option.some.inj hq0_4
                    exact ⟨hf.sub ⟨rfl, trivial⟩, hm.pick [] (by decide) rfl⟩
                  ·
                    replace hq0_4 := (ite_f h1_10).symm.trans hq0_4
                    have h1_12 := of_decide_eq_false h1_10
                    refine cond_f hf rfl h1_10 ?_
                    refine wp_region_lit ?_
                    refine st_y hf rfl rfl rfl (y_eql rfl rfl rfl) ?_
                    clear hf a; intro a hf
                    refine st_y hf rfl rfl rfl (y_assign rfl rfl) ?_
                    clear hf a; intro a hf
                    refine st_end ?_
                    refine x_then_n ?_
                    obtain rfl := Option.some.inj hq0_4
                    exact ⟨hf.sub ⟨rfl, trivial⟩, hm.pick [] (by decide) rfl⟩
                ·
                  clear hf hm
                  rintro a w ⟨hf, hm⟩
                  refine x_then_n ?_
                  rcases bcases (s0_4) with h0_7 | h0_7
                  ·
                    replace hq := (ite_t h0_7).symm.trans hq
                    refine cond_t hf rfl h0_7 ?_
                    refine wp_seq ?_
                    refine wp_region_lit ?_
                    refine st_y hf rfl rfl rfl (y_assign rfl rfl) ?_
                    clear hf a; intro a hf
                    refine st_end ?_
                    refine x_then_n ?_
                    refine wp_ret ?_
                    refine x_blk_ret ?_
                    refine x_then_ret ?_
                    obtain rfl := Option.some.inj hq
                    refine ret_tmp hf Tryd.results65 rfl ?_
                    exact ⟨rfl, hm.below⟩
                  ·
                    replace hq := (ite_f h0_7).symm.trans hq
                    refine cond_f hf rfl h0_7 ?_
                    refine wp_skip ?_
                    refine x_blk_n ?_
                    refine x_then_n ?_
                    refine wp_seq ?_
                    refine wp_region_lit ?_
                    refine st_y hf rfl rfl rfl (y_assign rfl rfl) ?_
                    clear hf a; intro a hf
                    refine st_end ?_
                    refine x_then_n ?_
                    refine wp_ret ?_
                    obtain rfl := Option.some.inj hq
                    refine ret_tmp hf Tryd.results65 rfl ?_
                    exact ⟨rfl, hm.below⟩

theorem impl_encoded_ok (w0 : World) (x_ : Mins) (r : (List UInt8)) (hq : impl_encoded x_ = some r) :
    Con Tryd.prog 45 [(.agg #[(.int .i64 (x_.op)), (.int .i64 (x_.a_)), (.int .i64 (x_.b)), (.int .i64 (x_.c)), (.int .i64 (x_.n_))])] w0 (fun v w' => ∃ (x1 : Value), v = x1 ∧ Mem w0 (hp w0) w' [ow [x1] r]) := by
  unfold impl_encoded at hq
  refine con_body (l := [(0, (.agg #[(.int .i64 (x_.op)), (.int .i64 (x_.a_)), (.int .i64 (x_.b)), (.int .i64 (x_.c)), (.int .i64 (x_.n_))]))]) Tryd.func45 rfl Tryd.ntmps45 (Args.get ⟨rfl, trivial⟩) rfl ?_
  intro a hf
  have hm := Mem.start w0
  refine wp_seq ?_
  refine wp_region_lit ?_
  refine st_ef hf rfl rfl rfl (e_box hf hm rfl rfl rfl) ?_
  clear hf a; rintro _ w0_1 a ⟨b0_1, rfl, hm⟩ hf
  refine st_y hf rfl rfl rfl (y_assign rfl rfl) ?_
  clear hf a; intro a hf
  refine st_end ?_
  refine x_then_n ?_
  refine wp_seq ?_
  refine wp_tree (.p 0 (.p 3 (.q 1 (.p 2 (.p 6 (.e 4 (.p 5 (.p 7 .fin)) .nil)))))) [4] [0, 2, 3, 5, 6, 7] (fun w => Mem w0 (hp w0) w [blk b0_1 [(.int .i64 (x_.op)), (.int .i64 (x_.a_)), (.int .i64 (x_.b)), (.int .i64 (x_.c)), (.int .i64 (x_.n_))] 27]) (by kernel_rfl) (by kernel_rfl) (fun _ _ _ h => h.2) ?_
  replace hm := hm.drew
  have hS : Mem w0 (hp w0) _ [blk b0_1 [(.int .i64 (x_.op)), (.int .i64 (x_.a_)), (.int .i64 (x_.b)), (.int .i64 (x_.c)), (.int .i64 (x_.n_))] 27] := hm.pick [0] (by decide) rfl
  refine td_p hf rfl rfl rfl rfl (fun w => y_fieldAddr fo_27_0 rfl rfl) ?_
  clear hf a; intro a hf
  refine td_p hf rfl rfl rfl rfl (fun w => y_fieldAddr fo_27_1 rfl rfl) ?_
  clear hf a; intro a hf
  refine td_y hf rfl rfl rfl rfl hS (fun w hm => y_load1 Tryd.isAgg3 rfl rfl (hm.blk_cell 0 rfl rfl)) ?_
  clear hf a; intro a hf
  refine td_p hf rfl rfl rfl rfl (fun w => y_conv8 Tryd.underlying3 Tryd.underlying5 rfl rfl) ?_
  clear hf a; intro a hf
  refine td_p hf rfl rfl rfl rfl (fun w => y_assign rfl rfl) ?_
  clear hf a; intro a hf
  refine te_one ?_
  refine td_ef hf rfl rfl rfl rfl (ef_y hf (y_load1 Tryd.isAgg3 rfl rfl (hm.blk_cell 0 rfl rfl))) ?_
  clear hf a; rintro _ _ a ⟨rfl, rfl⟩ hf
  refine ⟨fun _ => hS, ?_⟩
  refine td_p hf rfl rfl rfl rfl (fun w => y_conv8 Tryd.underlying3 Tryd.underlying5 rfl rfl) ?_
  clear hf a; intro a hf
  refine td_p hf rfl rfl rfl rfl (fun w => y_assign rfl rfl) ?_
  clear hf a; intro a hf
  clear hS; refine td_end ?_
  refine x_then_n ?_
  refine wp_seq ?_
  refine wp_seq ?_
  refine wp_region_lit ?_
  refine st_y hf rfl rfl rfl (y_fieldAddr fo_27_0 rfl rfl) ?_
  clear hf a; intro a hf
  refine st_y hf rfl rfl rfl (y_load1 Tryd.isAgg3 rfl rfl (hm.blk_cell 0 rfl rfl)) ?_
  clear hf a; intro a hf
  obtain ⟨r0_1, hx0_1, hq⟩ := bnd hq
  refine st_ef hf rfl rfl rfl (e_call hf rfl Tryd.call65 rfl (impl_shapeOf_ok _ x_.op _ hx0_1)) ?_
  clear hf a; rintro v0_1 w0_2 a ho0_1 hf
  obtain ⟨rfl, hB⟩ := ho0_1
  replace hm := hm.below' hB; clear hB
  refine st_end ?_
  refine x_then_n ?_
  refine wp_block ?_
  refine wp_seq ?_
  refine wp_region_lit ?_
  refine st_y hf rfl rfl rfl (y_eql rfl rfl rfl) ?_
  clear hf a; intro a hf
  refine st_y hf rfl rfl rfl (y_assign rfl rfl) ?_
  clear hf a; intro a hf
  refine st_end ?_
  refine x_then_n ?_
  rcases bcases (decide (r0_1 = 0)) with h0_1 | h0_1
  ·
    replace hq := (ite_t h0_1).symm.trans hq
    have h0_2 := of_decide_eq_true h0_1
    refine cond_t hf rfl h0_1 ?_
    refine wp_seq ?_
    refine wp_region_lit ?_
    refine st_y hf rfl rfl rfl (y_move rfl rfl) ?_
    clear hf a; intro a hf
    refine st_y hf rfl rfl rfl (y_move rfl rfl) ?_
    clear hf a; intro a hf
    refine st_y hf rfl rfl rfl (y_fieldAddr fo_27_4 rfl rfl) ?_
    clear hf a; intro a hf
    refine st_y hf rfl rfl rfl (y_load1 Tryd.isAgg3 rfl rfl (hm.blk_cell 0 rfl rfl)) ?_
    clear hf a; intro a hf
    refine st_y hf rfl rfl rfl (y_conv8 Tryd.underlying3 Tryd.underlying5 rfl rfl) ?_
    clear hf a; intro a hf
    refine st_ef hf rfl rfl rfl (e_build (vs := #[(0, (.int .u8 (((byteI x_.op)).toNat : Int))), (1, (.int .u8 (((byteI x_.a_)).toNat : Int))), (2, (.int .u8 (((byteI x_.n_)).toNat : Int)))]) (cs := [(.int .u8 (((byteI x_.op)).toNat : Int)), (.int .u8 (((byteI x_.a_)).toNat : Int)), (.int .u8 (((byteI x_.n_)).toNat : Int))]) et_24 hf hm rfl rfl (by kernel_rfl) rfl rfl) ?_
    clear hf a; rintro _ w0_3 a ⟨b0_2, rfl, hm⟩ hf
    replace hm := hm.lit (xs := ([(byteI x_.op), (byteI x_.a_), (byteI x_.n_)] : List UInt8)) 0 rfl rfl rfl rfl
    refine st_y hf rfl rfl rfl (y_assign rfl rfl) ?_
    clear hf a; intro a hf
    refine st_end ?_
    refine x_then_n ?_
    refine wp_ret ?_
    refine x_blk_ret ?_
    refine x_then_ret ?_
    obtain rfl := Option.some.inj hq
    refine ret_tmp hf Tryd.results45 rfl ?_
    exact ⟨(.slice (some ⟨b0_2, 0, none⟩) 3 3), rfl, hm.pick [0] (by decide) rfl⟩
  ·
    replace hq := (ite_f h0_1).symm.trans hq
    have h0_3 := of_decide_eq_false h0_1
    refine cond_f hf rfl h0_1 ?_
    refine wp_seq ?_
    refine wp_region_lit ?_
    refine st_y hf rfl rfl rfl (y_eql rfl rfl rfl) ?_
    clear hf a; intro a hf
    refine st_y hf rfl rfl rfl (y_assign rfl rfl) ?_
    clear hf a; intro a hf
    refine st_end ?_
    refine x_then_n ?_
    rcases bcases (decide (r0_1 = 1)) with h0_4 | h0_4
    ·
      replace hq := (ite_t h0_4).symm.trans hq
      have h0_5 := of_decide_eq_true h0_4
      refine cond_t hf rfl h0_4 ?_
      refine wp_seq ?_
      refine wp_region_lit ?_
      refine st_y hf rfl rfl rfl (y_move rfl rfl) ?_
      clear hf a; intro a hf
      refine st_y hf rfl rfl rfl (y_move rfl rfl) ?_
      clear hf a; intro a hf
      refine st_y hf rfl rfl rfl (y_fieldAddr fo_27_2 rfl rfl) ?_
      clear hf a; intro a hf
      refine st_y hf rfl rfl rfl (y_load1 Tryd.isAgg3 rfl rfl (hm.blk_cell 0 rfl rfl)) ?_
      clear hf a; intro a hf
      refine st_y hf rfl rfl rfl (y_conv8 Tryd.underlying3 Tryd.underlying5 rfl rfl) ?_
      clear hf a; intro a hf
      refine st_y hf rfl rfl rfl (y_mul8 (b := (8 : UInt8)) (c := (byteI x_.b)) rfl rfl rfl) ?_
      clear hf a; intro a hf
      refine st_y hf rfl rfl rfl (y_add8 (b := (byteI x_.a_)) (c := ((8 : UInt8) * (byteI x_.b))) rfl rfl rfl) ?_
      clear hf a; intro a hf
      refine st_ef hf rfl rfl rfl (e_build (vs := #[(0, (.int .u8 (((byteI x_.op)).toNat : Int))), (1, (.int .u8 ((((byteI x_.a_) + ((8 : UInt8) * (byteI x_.b)))).toNat : Int)))]) (cs := [(.int .u8 (((byteI x_.op)).toNat : Int)), (.int .u8 ((((byteI x_.a_) + ((8 : UInt8) * (byteI x_.b)))).toNat : Int))]) et_24 hf hm rfl rfl (by kernel_rfl) rfl rfl) ?_
      clear hf a; rintro _ w0_4 a ⟨b0_3, rfl, hm⟩ hf
      replace hm := hm.lit (xs := ([(byteI x_.op), ((byteI x_.a_) + ((8 : UInt8) * (byteI x_.b)))] : List UInt8)) 0 rfl rfl rfl rfl
      refine st_y hf rfl rfl rfl (y_assign rfl rfl) ?_
      clear hf a; intro a hf
      refine st_end ?_
      refine x_then_n ?_
      refine wp_ret ?_
      refine x_blk_ret ?_
      refine x_then_ret ?_
      obtain rfl := Option.some.inj hq
      refine ret_tmp hf Tryd.results45 rfl ?_
      exact ⟨(.slice (some ⟨b0_3, 0, none⟩) 2 2), rfl, hm.pick [0] (by decide) rfl⟩
    ·
      replace hq := (ite_f h0_4).symm.trans hq
      have h0_6 := of_decide_eq_false h0_4
      refine cond_f hf rfl h0_4 ?_
      refine wp_seq ?_
      refine wp_region_lit ?_
      refine st_y hf rfl rfl rfl (y_eql rfl rfl rfl) ?_
      clear hf a; intro a hf
      refine st_y hf rfl rfl rfl (y_assign rfl rfl) ?_
      clear hf a; intro a hf
      refine st_end ?_
      refine x_then_n ?_
      rcases bcases (decide (r0_1 = 2)) with h0_7 | h0_7
      ·
        replace hq := (ite_t h0_7).symm.trans hq
        have h0_8 := of_decide_eq_true h0_7
        refine cond_t hf rfl h0_7 ?_
        refine wp_seq ?_
        refine wp_region_lit ?_
        refine st_y hf rfl rfl rfl (y_move rfl rfl) ?_
        clear hf a; intro a hf
        refine st_y hf rfl rfl rfl (y_move rfl rfl) ?_
        clear hf a; intro a hf
        refine st_y hf rfl rfl rfl (y_fieldAddr fo_27_2 rfl rfl) ?_
        clear hf a; intro a hf
        refine st_y hf rfl rfl rfl (y_load1 Tryd.isAgg3 rfl rfl (hm.blk_cell 0 rfl rfl)) ?_
        clear hf a; intro a hf
        refine st_y hf rfl rfl rfl (y_conv8 Tryd.underlying3 Tryd.underlying5 rfl rfl) ?_
        clear hf a; intro a hf
        refine st_y hf rfl rfl rfl (y_mul8 (b := (8 : UInt8)) (c := (byteI x_.b)) rfl rfl rfl) ?_
        clear hf a; intro a hf
        refine st_y hf rfl rfl rfl (y_add8 (b := (byteI x_.a_)) (c := ((8 : UInt8) * (byteI x_.b))) rfl rfl rfl) ?_
        clear hf a; intro a hf
        refine st_y hf rfl rfl rfl (y_fieldAddr fo_27_3 rfl rfl) ?_
        clear hf a; intro a hf
        refine st_y hf rfl rfl rfl (y_load1 Tryd.isAgg3 rfl rfl (hm.blk_cell 0 rfl rfl)) ?_
        clear hf a; intro a hf
        refine st_y hf rfl rfl rfl (y_conv8 Tryd.underlying3 Tryd.underlying5 rfl rfl) ?_
        clear hf a; intro a hf
        refine st_ef hf rfl rfl rfl (e_build (vs := #[(0, (.int .u8 (((byteI x_.op)).toNat : Int))), (1, (.int .u8 ((((byteI x_.a_) + ((8 : UInt8) * (byteI x_.b)))).toNat : Int))), (2, (.int .u8 (((byteI x_.c)).toNat : Int)))]) (cs := [(.int .u8 (((byteI x_.op)).toNat : Int)), (.int .u8 ((((byteI x_.a_) + ((8 : UInt8) * (byteI x_.b)))).toNat : Int)), (.int .u8 (((byteI x_.c)).toNat : Int))]) et_24 hf hm rfl rfl (by kernel_rfl) rfl rfl) ?_
        clear hf a; rintro _ w0_5 a ⟨b0_4, rfl, hm⟩ hf
        replace hm := hm.lit (xs := ([(byteI x_.op), ((byteI x_.a_) + ((8 : UInt8) * (byteI x_.b))), (byteI x_.c)] : List UInt8)) 0 rfl rfl rfl rfl
        refine st_y hf rfl rfl rfl (y_assign rfl rfl) ?_
        clear hf a; intro a hf
        refine st_end ?_
        refine x_then_n ?_
        refine wp_ret ?_
        refine x_blk_ret ?_
        refine x_then_ret ?_
        obtain rfl := Option.some.inj hq
        refine ret_tmp hf Tryd.results45 rfl ?_
        exact ⟨(.slice (some ⟨b0_4, 0, none⟩) 3 3), rfl, hm.pick [0] (by decide) rfl⟩
      ·
        replace hq := (ite_f h0_7).symm.trans hq
        have h0_9 := of_decide_eq_false h0_7
        refine cond_f hf rfl h0_7 ?_
        refine wp_seq ?_
        refine wp_region_lit ?_
        refine st_y hf rfl rfl rfl (y_eql rfl rfl rfl) ?_
        clear hf a; intro a hf
        refine st_y hf rfl rfl rfl (y_assign rfl rfl) ?_
        clear hf a; intro a hf
        refine st_end ?_
        refine x_then_n ?_
        rcases bcases (decide (r0_1 = 4)) with h0_10 | h0_10
        ·
          replace hq := (ite_t h0_10).symm.trans hq
          have h0_11 := of_decide_eq_true h0_10
          refine cond_t hf rfl h0_10 ?_
          refine wp_seq ?_
          refine wp_region_lit ?_
          refine st_y hf rfl rfl rfl (y_move rfl rfl) ?_
          clear hf a; intro a hf
          refine st_y hf rfl rfl rfl (y_fieldAddr fo_27_4 rfl rfl) ?_
          clear hf a; intro a hf
          refine st_y hf rfl rfl rfl (y_load1 Tryd.isAgg3 rfl rfl (hm.blk_cell 0 rfl rfl)) ?_
          clear hf a; intro a hf
          refine st_y hf rfl rfl rfl (y_conv8 Tryd.underlying3 Tryd.underlying5 rfl rfl) ?_
          clear hf a; intro a hf
          refine st_ef hf rfl rfl rfl (e_build (vs := #[(0, (.int .u8 (((byteI x_.op)).toNat : Int))), (1, (.int .u8 (((byteI x_.n_)).toNat : Int)))]) (cs := [(.int .u8 (((byteI x_.op)).toNat : Int)), (.int .u8 (((byteI x_.n_)).toNat : Int))]) et_24 hf hm rfl rfl (by kernel_rfl) rfl rfl) ?_
          clear hf a; rintro _ w0_6 a ⟨b0_5, rfl, hm⟩ hf
          replace hm := hm.lit (xs := ([(byteI x_.op), (byteI x_.n_)] : List UInt8)) 0 rfl rfl rfl rfl
          refine st_y hf rfl rfl rfl (y_assign rfl rfl) ?_
          clear hf a; intro a hf
          refine st_end ?_
          refine x_then_n ?_
          refine wp_ret ?_
          refine x_blk_ret ?_
          refine x_then_ret ?_
          obtain rfl := Option.some.inj hq
          refine ret_tmp hf Tryd.results45 rfl ?_
          exact ⟨(.slice (some ⟨b0_5, 0, none⟩) 2 2), rfl, hm.pick [0] (by decide) rfl⟩
        ·
          replace hq := (ite_f h0_10).symm.trans hq
          have h0_12 := of_decide_eq_false h0_10
          refine cond_f hf rfl h0_10 ?_
          refine wp_skip ?_
          refine x_blk_n ?_
          refine x_then_n ?_
          refine wp_seq ?_
          refine wp_region_lit ?_
          refine st_y hf rfl rfl rfl (y_move rfl rfl) ?_
          clear hf a; intro a hf
          refine st_y hf rfl rfl rfl (y_move rfl rfl) ?_
          clear hf a; intro a hf
          refine st_ef hf rfl rfl rfl (e_build (vs := #[(0, (.int .u8 (((byteI x_.op)).toNat : Int))), (1, (.int .u8 (((byteI x_.a_)).toNat : Int)))]) (cs := [(.int .u8 (((byteI x_.op)).toNat : Int)), (.int .u8 (((byteI x_.a_)).toNat : Int))]) et_24 hf hm rfl rfl (by kernel_rfl) rfl rfl) ?_
          clear hf a; rintro _ w0_7 a ⟨b0_6, rfl, hm⟩ hf
          replace hm := hm.lit (xs := ([(byteI x_.op), (byteI x_.a_)] : List UInt8)) 0 rfl rfl rfl rfl
          refine st_y hf rfl rfl rfl (y_assign rfl rfl) ?_
          clear hf a; intro a hf
          refine st_end ?_
          refine x_then_n ?_
          refine wp_ret ?_
          obtain rfl := Option.some.inj hq
          refine ret_tmp hf Tryd.results45 rfl ?_
          exact ⟨(.slice (some ⟨b0_6, 0, none⟩) 2 2), rfl, hm.pick [0] (by decide) rfl⟩

end Go.Proofs.YtmhjfaoefcdelaaDoor
