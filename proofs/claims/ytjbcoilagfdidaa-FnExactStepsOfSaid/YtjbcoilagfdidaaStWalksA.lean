/- A part of the proof of FnExactStepsOfSaid. -/
import Derived.Test.YtjbcoilagfdidaaStModels
import Derived.Test.YtjbcoilagfdidaaChecked
import Derived.Laws.Pointers
import Derived.Tactics
import Derived.Tactics2
namespace Go.Proofs.Ytjbcoilagfdidaa
open Go Go.Wk Go.RowKit
set_option maxRecDepth 4000
set_option maxHeartbeats 4000000

theorem fo_40_0 : FieldOff Try.prog 40 0 0 := by have h := FieldOff.mk (k := 0) Try.underlying40 rfl Try.sizeOf38; exact h
theorem fo_44_0 : FieldOff Try.prog 44 0 0 := by have h := FieldOff.mk (k := 0) Try.underlying44 rfl Try.sizeOf26; exact h
theorem fo_44_1 : FieldOff Try.prog 44 1 1 := by have h := FieldOff.mk (k := 1) Try.underlying44 rfl Try.sizeOf3; exact h
theorem fo_44_2 : FieldOff Try.prog 44 2 2 := by have h := FieldOff.mk (k := 2) Try.underlying44 rfl Try.sizeOf3; exact h
theorem fo_44_3 : FieldOff Try.prog 44 3 3 := by have h := FieldOff.mk (k := 3) Try.underlying44 rfl Try.sizeOf26; exact h
theorem fo_55_0 : FieldOff Try.prog 55 0 0 := by have h := FieldOff.mk (k := 0) Try.underlying55 rfl Try.sizeOf3; exact h
theorem fo_55_1 : FieldOff Try.prog 55 1 1 := by have h := FieldOff.mk (k := 1) Try.underlying55 rfl Try.sizeOf3; exact h
theorem fo_55_2 : FieldOff Try.prog 55 2 2 := by have h := FieldOff.mk (k := 2) Try.underlying55 rfl Try.sizeOf53; exact h
theorem fo_57_0 : FieldOff Try.prog 57 0 0 := by have h := FieldOff.mk (k := 0) Try.underlying57 rfl Try.sizeOf3; exact h
theorem fo_57_1 : FieldOff Try.prog 57 1 1 := by have h := FieldOff.mk (k := 1) Try.underlying57 rfl Try.sizeOf3; exact h
theorem fo_57_2 : FieldOff Try.prog 57 2 2 := by have h := FieldOff.mk (k := 2) Try.underlying57 rfl Try.sizeOf26; exact h
theorem fo_57_3 : FieldOff Try.prog 57 3 3 := by have h := FieldOff.mk (k := 3) Try.underlying57 rfl Try.sizeOf3; exact h
theorem fo_61_0 : FieldOff Try.prog 61 0 0 := by have h := FieldOff.mk (k := 0) Try.underlying61 rfl Try.sizeOf59; exact h
theorem fo_61_1 : FieldOff Try.prog 61 1 1 := by have h := FieldOff.mk (k := 1) Try.underlying61 rfl Try.sizeOf58; exact h
theorem fo_61_2 : FieldOff Try.prog 61 2 2 := by have h := FieldOff.mk (k := 2) Try.underlying61 rfl Try.sizeOf3; exact h
theorem fo_61_3 : FieldOff Try.prog 61 3 3 := by have h := FieldOff.mk (k := 3) Try.underlying61 rfl Try.sizeOf3; exact h
theorem fo_61_4 : FieldOff Try.prog 61 4 4 := by have h := FieldOff.mk (k := 4) Try.underlying61 rfl Try.sizeOf26; exact h
theorem fo_69_0 : FieldOff Try.prog 69 0 0 := by have h := FieldOff.mk (k := 0) Try.underlying69 rfl Try.sizeOf67; exact h
theorem fo_101_0 : FieldOff Try.prog 101 0 0 := by have h := FieldOff.mk (k := 0) Try.underlying101 rfl Try.sizeOf40; exact h
theorem fo_101_1 : FieldOff Try.prog 101 1 1 := by have h := FieldOff.mk (k := 1) Try.underlying101 rfl Try.sizeOf44; exact h
theorem fo_101_2 : FieldOff Try.prog 101 2 5 := by have h := FieldOff.mk (k := 2) Try.underlying101 rfl Try.sizeOf3; exact h
theorem fo_101_3 : FieldOff Try.prog 101 3 6 := by have h := FieldOff.mk (k := 3) Try.underlying101 rfl Try.sizeOf4; exact h
theorem fo_101_4 : FieldOff Try.prog 101 4 7 := by have h := FieldOff.mk (k := 4) Try.underlying101 rfl Try.sizeOf26; exact h
theorem fo_106_0 : FieldOff Try.prog 106 0 0 := by have h := FieldOff.mk (k := 0) Try.underlying106 rfl Try.sizeOf40; exact h
theorem fo_106_1 : FieldOff Try.prog 106 1 1 := by have h := FieldOff.mk (k := 1) Try.underlying106 rfl Try.sizeOf3; exact h
theorem fo_106_2 : FieldOff Try.prog 106 2 2 := by have h := FieldOff.mk (k := 2) Try.underlying106 rfl Try.sizeOf3; exact h
theorem fo_106_3 : FieldOff Try.prog 106 3 3 := by have h := FieldOff.mk (k := 3) Try.underlying106 rfl Try.sizeOf26; exact h
theorem fo_106_4 : FieldOff Try.prog 106 4 4 := by have h := FieldOff.mk (k := 4) Try.underlying106 rfl Try.sizeOf104; exact h
theorem fo_106_5 : FieldOff Try.prog 106 5 20 := by have h := FieldOff.mk (k := 5) Try.underlying106 rfl Try.sizeOf26; exact h
theorem fo_127_0 : FieldOff Try.prog 127 0 0 := by have h := FieldOff.mk (k := 0) Try.underlying127 rfl Try.sizeOf3; exact h
theorem fo_127_1 : FieldOff Try.prog 127 1 1 := by have h := FieldOff.mk (k := 1) Try.underlying127 rfl Try.sizeOf26; exact h
theorem fo_145_0 : FieldOff Try.prog 145 0 0 := by have h := FieldOff.mk (k := 0) Try.underlying145 rfl Try.sizeOf3; exact h
theorem fo_145_1 : FieldOff Try.prog 145 1 1 := by have h := FieldOff.mk (k := 1) Try.underlying145 rfl Try.sizeOf3; exact h
theorem fo_145_2 : FieldOff Try.prog 145 2 2 := by have h := FieldOff.mk (k := 2) Try.underlying145 rfl Try.sizeOf143; exact h
theorem fo_189_0 : FieldOff Try.prog 189 0 0 := by have h := FieldOff.mk (k := 0) Try.underlying189 rfl Try.sizeOf186; exact h
theorem fo_189_1 : FieldOff Try.prog 189 1 1 := by have h := FieldOff.mk (k := 1) Try.underlying189 rfl Try.sizeOf187; exact h
theorem fo_189_2 : FieldOff Try.prog 189 2 2 := by have h := FieldOff.mk (k := 2) Try.underlying189 rfl Try.sizeOf3; exact h
theorem fo_189_3 : FieldOff Try.prog 189 3 3 := by have h := FieldOff.mk (k := 3) Try.underlying189 rfl Try.sizeOf3; exact h
theorem fo_189_4 : FieldOff Try.prog 189 4 4 := by have h := FieldOff.mk (k := 4) Try.underlying189 rfl Try.sizeOf26; exact h
theorem fo_217_0 : FieldOff Try.prog 217 0 0 := by have h := FieldOff.mk (k := 0) Try.underlying217 rfl Try.sizeOf3; exact h
theorem fo_217_1 : FieldOff Try.prog 217 1 1 := by have h := FieldOff.mk (k := 1) Try.underlying217 rfl Try.sizeOf26; exact h
theorem fo_219_0 : FieldOff Try.prog 219 0 0 := by have h := FieldOff.mk (k := 0) Try.underlying219 rfl Try.sizeOf3; exact h
theorem fo_219_1 : FieldOff Try.prog 219 1 1 := by have h := FieldOff.mk (k := 1) Try.underlying219 rfl Try.sizeOf3; exact h
theorem fo_219_2 : FieldOff Try.prog 219 2 2 := by have h := FieldOff.mk (k := 2) Try.underlying219 rfl Try.sizeOf26; exact h
theorem fo_219_3 : FieldOff Try.prog 219 3 3 := by have h := FieldOff.mk (k := 3) Try.underlying219 rfl Try.sizeOf3; exact h
theorem st_26 : SliceTy Try.prog 26 3 1 := ⟨Try.underlying26, Try.sizeOf3⟩
theorem st_38 : SliceTy Try.prog 38 55 3 := ⟨Try.underlying38, Try.sizeOf55⟩
theorem st_53 : SliceTy Try.prog 53 61 5 := ⟨Try.underlying53, Try.sizeOf61⟩
theorem st_58 : SliceTy Try.prog 58 57 4 := ⟨Try.underlying58, Try.sizeOf57⟩
theorem st_59 : SliceTy Try.prog 59 127 2 := ⟨Try.underlying59, Try.sizeOf127⟩
theorem st_67 : SliceTy Try.prog 67 145 3 := ⟨Try.underlying67, Try.sizeOf145⟩
theorem st_143 : SliceTy Try.prog 143 189 5 := ⟨Try.underlying143, Try.sizeOf189⟩
theorem st_186 : SliceTy Try.prog 186 217 2 := ⟨Try.underlying186, Try.sizeOf217⟩
theorem st_187 : SliceTy Try.prog 187 219 4 := ⟨Try.underlying187, Try.sizeOf219⟩
theorem et_26 : ElemTy Try.prog 26 3 1 (.int .i64 (0)) := ⟨Try.underlying26, ⟨_, (by kernel_rfl : Try.prog.info? 3 = some Try.t3), rfl, by decide, rfl⟩, rfl, by decide⟩
theorem et_38 : ElemTy Try.prog 38 55 3 (.agg #[(.int .i64 (0)), (.int .i64 (0)), (.slice none 0 0)]) := ⟨Try.underlying38, ⟨_, (by kernel_rfl : Try.prog.info? 55 = some Try.t55), rfl, by decide, rfl⟩, rfl, by decide⟩
theorem et_53 : ElemTy Try.prog 53 61 5 (.agg #[(.slice none 0 0), (.slice none 0 0), (.int .i64 (0)), (.int .i64 (0)), (.slice none 0 0)]) := ⟨Try.underlying53, ⟨_, (by kernel_rfl : Try.prog.info? 61 = some Try.t61), rfl, by decide, rfl⟩, rfl, by decide⟩
theorem et_58 : ElemTy Try.prog 58 57 4 (.agg #[(.int .i64 (0)), (.int .i64 (0)), (.slice none 0 0), (.int .i64 (0))]) := ⟨Try.underlying58, ⟨_, (by kernel_rfl : Try.prog.info? 57 = some Try.t57), rfl, by decide, rfl⟩, rfl, by decide⟩
theorem et_59 : ElemTy Try.prog 59 127 2 (.agg #[(.int .i64 (0)), (.slice none 0 0)]) := ⟨Try.underlying59, ⟨_, (by kernel_rfl : Try.prog.info? 127 = some Try.t127), rfl, by decide, rfl⟩, rfl, by decide⟩

theorem laws_szIntS_ok (w0 : World) (a_ : List Int) (v1 : Value) (h1 : GT.rep (hp w0) [v1] a_) (left : Int) (r : Int) (hq : laws_szIntS a_ left = some r) :
    Con Try.prog 176 [v1, (.int .i64 (left))] w0 (fun v w' => v = (.int .i64 (r)) ∧ Below w0.heap.size w0 w') := by
  unfold laws_szIntS at hq
  refine con_body (l := [(0, v1), (1, (.int .i64 (left)))]) Try.func176 rfl Try.ntmps176 (Args.get ⟨rfl, rfl, trivial⟩) rfl ?_
  intro a hf
  have hm := Mem.start w0
  refine wp_seq ?_
  refine wp_region_lit ?_
  refine st_y hf rfl rfl rfl (y_assign rfl rfl) ?_
  clear hf a; intro a hf
  refine st_end ?_
  refine x_then_n ?_
  refine wp_seq ?_
  refine wp_region_lit ?_
  refine st_y hf rfl rfl rfl (y_move rfl rfl) ?_
  clear hf a; intro a hf
  refine st_y hf rfl rfl rfl (y_move rfl rfl) ?_
  clear hf a; intro a hf
  obtain ⟨p0_1, c0_1, he, hl0_1⟩ := ro_slice h1
  subst he
  refine st_y hf rfl rfl rfl (y_len_slice st_26.und rfl rfl) ?_
  clear hf a; intro a hf
  refine st_y hf rfl rfl rfl (y_subw rfl rfl rfl) ?_
  clear hf a; intro a hf
  refine st_y hf rfl rfl rfl (y_assign rfl rfl) ?_
  clear hf a; intro a hf
  refine st_end ?_
  refine x_then_n ?_
  refine wp_seq ?_
  refine wp_seq ?_
  refine wp_region_lit ?_
  refine st_y hf rfl rfl rfl (y_move rfl rfl) ?_
  clear hf a; intro a hf
  refine st_y hf rfl rfl rfl (y_lss rfl rfl rfl) ?_
  clear hf a; intro a hf
  refine st_end ?_
  refine x_then_n ?_
  rcases bcases (decide ((w64 (left - ((a_.length : Int)))) < 0)) with h0_1 | h0_1
  ·
   replace hq := (ite_t h0_1).symm.trans hq
   have h0_2 := of_decide_eq_true h0_1
   refine cond_t hf rfl h0_1 ?_
   refine wp_seq ?_
   refine wp_region_lit ?_
   refine st_y hf rfl rfl rfl (y_assign rfl rfl) ?_
   clear hf a; intro a hf
   refine st_end ?_
   refine x_then_n ?_
   refine wp_ret ?_
   refine x_then_ret ?_
   obtain rfl := Option.some.inj hq
   refine ret_tmp hf Try.results176 rfl ?_
   exact ⟨rfl, hm.below⟩
  ·
   replace hq := (ite_f h0_1).symm.trans hq
   have h0_3 := of_decide_eq_false h0_1
   refine cond_f hf rfl h0_1 ?_
   refine wp_skip ?_
   refine x_then_n ?_
   refine wp_seq ?_
   refine wp_region_lit ?_
   refine st_y hf rfl rfl rfl (y_move rfl rfl) ?_
   clear hf a; intro a hf
   refine st_y hf rfl rfl rfl (y_assign rfl rfl) ?_
   clear hf a; intro a hf
   refine st_end ?_
   refine x_then_n ?_
   refine wp_ret ?_
   obtain rfl := Option.some.inj hq
   refine ret_tmp hf Try.results176 rfl ?_
   exact ⟨rfl, hm.below⟩

theorem laws_szPhi_ok (w0 : World) (a_ : Phi_) (v1 : Value) (h1 : GT.rep (hp w0) [v1] a_.args) (left : Int) (r : Int) (hq : laws_szPhi a_ left = some r) :
    Con Try.prog 187 [(.agg #[(.int .i64 (a_.to)), v1]), (.int .i64 (left))] w0 (fun v w' => v = (.int .i64 (r)) ∧ Below w0.heap.size w0 w') := by
  unfold laws_szPhi at hq
  refine con_body (l := [(0, (.agg #[(.int .i64 (a_.to)), v1])), (1, (.int .i64 (left)))]) Try.func187 rfl Try.ntmps187 (Args.get ⟨rfl, rfl, trivial⟩) rfl ?_
  intro a hf
  have hm := Mem.start w0
  refine wp_seq ?_
  refine wp_region_lit ?_
  refine st_ef hf rfl rfl rfl (e_box hf hm rfl rfl rfl) ?_
  clear hf a; rintro _ w0_1 a ⟨b0_1, rfl, hm⟩ hf
  refine st_y hf rfl rfl rfl (y_assign rfl rfl) ?_
  clear hf a; intro a hf
  refine st_end ?_
  refine x_then_n ?_
  refine wp_seq ?_
  refine wp_region_lit ?_
  refine st_y hf rfl rfl rfl (y_fieldAddr fo_217_1 rfl rfl) ?_
  clear hf a; intro a hf
  refine st_y hf rfl rfl rfl (y_load1 Try.isAgg26 rfl rfl (hm.blk_cell 0 rfl rfl)) ?_
  clear hf a; intro a hf
  refine st_y hf rfl rfl rfl (y_move rfl rfl) ?_
  clear hf a; intro a hf
  obtain ⟨r0_1, hx0_1, hq⟩ := bnd hq
  refine st_ef hf rfl rfl rfl (e_call hf rfl Try.call176 rfl (laws_szIntS_ok _ a_.args v1 (hm.now h1) left _ hx0_1)) ?_
  clear hf a; rintro v0_1 w0_2 a ho0_1 hf
  obtain ⟨rfl, hB⟩ := ho0_1
  replace hm := hm.below' hB; clear hB
  refine st_y hf rfl rfl rfl (y_assign rfl rfl) ?_
  clear hf a; intro a hf
  refine st_end ?_
  refine x_then_n ?_
  refine wp_seq ?_
  refine wp_seq ?_
  refine wp_region_lit ?_
  refine st_y hf rfl rfl rfl (y_move rfl rfl) ?_
  clear hf a; intro a hf
  refine st_y hf rfl rfl rfl (y_lss rfl rfl rfl) ?_
  clear hf a; intro a hf
  refine st_end ?_
  refine x_then_n ?_
  rcases bcases (decide (r0_1 < 0)) with h0_1 | h0_1
  ·
   replace hq := (ite_t h0_1).symm.trans hq
   have h0_2 := of_decide_eq_true h0_1
   refine cond_t hf rfl h0_1 ?_
   refine wp_seq ?_
   refine wp_region_lit ?_
   refine st_y hf rfl rfl rfl (y_assign rfl rfl) ?_
   clear hf a; intro a hf
   refine st_end ?_
   refine x_then_n ?_
   refine wp_ret ?_
   refine x_then_ret ?_
   obtain rfl := Option.some.inj hq
   refine ret_tmp hf Try.results187 rfl ?_
   exact ⟨rfl, hm.below⟩
  ·
   replace hq := (ite_f h0_1).symm.trans hq
   have h0_3 := of_decide_eq_false h0_1
   refine cond_f hf rfl h0_1 ?_
   refine wp_skip ?_
   refine x_then_n ?_
   refine wp_seq ?_
   refine wp_region_lit ?_
   refine st_y hf rfl rfl rfl (y_move rfl rfl) ?_
   clear hf a; intro a hf
   refine st_y hf rfl rfl rfl (y_assign rfl rfl) ?_
   clear hf a; intro a hf
   refine st_end ?_
   refine x_then_n ?_
   refine wp_ret ?_
   obtain rfl := Option.some.inj hq
   refine ret_tmp hf Try.results187 rfl ?_
   exact ⟨rfl, hm.below⟩

theorem laws_szPhiS_ok (w0 : World) (a_ : List Phi_) (v1 : Value) (h1 : GT.rep (hp w0) [v1] a_) (left : Int) (r : Int) (hq : laws_szPhiS a_ left = some r) :
    Con Try.prog 174 [v1, (.int .i64 (left))] w0 (fun v w' => v = (.int .i64 (r)) ∧ Below w0.heap.size w0 w') := by
  unfold laws_szPhiS at hq
  refine con_body (l := [(0, v1), (1, (.int .i64 (left)))]) Try.func174 rfl Try.ntmps174 (Args.get ⟨rfl, rfl, trivial⟩) rfl ?_
  intro a hf
  have hm := Mem.start w0
  refine wp_seq ?_
  refine wp_region_lit ?_
  refine st_y hf rfl rfl rfl (y_assign rfl rfl) ?_
  clear hf a; intro a hf
  refine st_end ?_
  refine x_then_n ?_
  refine wp_seq ?_
  refine wp_region_lit ?_
  refine st_y hf rfl rfl rfl (y_move rfl rfl) ?_
  clear hf a; intro a hf
  refine st_y hf rfl rfl rfl (y_move rfl rfl) ?_
  clear hf a; intro a hf
  obtain ⟨p0_1, c0_1, he, hl0_1⟩ := ro_slice h1
  subst he
  refine st_y hf rfl rfl rfl (y_len_slice st_186.und rfl rfl) ?_
  clear hf a; intro a hf
  refine st_y hf rfl rfl rfl (y_subw rfl rfl rfl) ?_
  clear hf a; intro a hf
  refine st_y hf rfl rfl rfl (y_assign rfl rfl) ?_
  clear hf a; intro a hf
  refine st_end ?_
  refine x_then_n ?_
  refine wp_seq ?_
  refine wp_seq ?_
  refine wp_region_lit ?_
  refine st_y hf rfl rfl rfl (y_move rfl rfl) ?_
  clear hf a; intro a hf
  refine st_y hf rfl rfl rfl (y_lss rfl rfl rfl) ?_
  clear hf a; intro a hf
  refine st_end ?_
  refine x_then_n ?_
  rcases bcases (decide ((w64 (left - ((a_.length : Int)))) < 0)) with h0_1 | h0_1
  ·
   replace hq := (ite_t h0_1).symm.trans hq
   have h0_2 := of_decide_eq_true h0_1
   refine cond_t hf rfl h0_1 ?_
   refine wp_seq ?_
   refine wp_region_lit ?_
   refine st_y hf rfl rfl rfl (y_assign rfl rfl) ?_
   clear hf a; intro a hf
   refine st_end ?_
   refine x_then_n ?_
   refine wp_ret ?_
   refine x_then_ret ?_
   obtain rfl := Option.some.inj hq
   refine ret_tmp hf Try.results174 rfl ?_
   exact ⟨rfl, hm.below⟩
  ·
   replace hq := (ite_f h0_1).symm.trans hq
   have h0_3 := of_decide_eq_false h0_1
   refine cond_f hf rfl h0_1 ?_
   refine wp_skip ?_
   refine x_then_n ?_
   refine wp_seq ?_
   refine wp_seq ?_
   refine wp_region_lit ?_
   refine st_y hf rfl rfl rfl (y_assign rfl rfl) ?_
   clear hf a; intro a hf
   refine st_end ?_
   refine x_then_n ?_
   refine wp_block ?_
   obtain ⟨r0_1, hl0_2, hq⟩ := bnd hq
   refine wp_forN _ (fun i1_1 xs1_1 a w => 0 ≤ xs1_1 ∧ Fr 27 [(0, (.slice p0_1 a_.length c0_1)), (1, (.int .i64 (xs1_1))), (5, (.int .i64 (i1_1)))] a ∧ Mem w0 (hp w0) w []) (0) ((a_.length : Int)) hl0_2 ?_ ?_ ?_
   ·
    exact ⟨(by first | omega | (dsimp only; omega)), hf.sub ⟨rfl, rfl, rfl, trivial⟩, hm.pick [] (by decide) rfl⟩
   ·
    clear hf hm
    rintro i1_1 xs1_1 a w ⟨hn1_1, hf, hm⟩ hi1_1 hi1_2 q0_1 hb0_1 ho0_1
    refine wp_seq ?_
    refine wp_seq ?_
    refine wp_region_lit ?_
    refine st_y hf rfl rfl rfl (y_move rfl rfl) ?_
    clear hf a; intro a hf
    refine st_y hf rfl rfl rfl (y_move rfl rfl) ?_
    clear hf a; intro a hf
    refine st_y hf rfl rfl rfl (y_len_slice st_186.und rfl rfl) ?_
    clear hf a; intro a hf
    refine st_y hf rfl rfl rfl (y_lss rfl rfl rfl) ?_
    clear hf a; intro a hf
    refine st_end ?_
    refine x_then_n ?_
    refine cond_t hf rfl (decide_eq_true (by omega)) ?_
    refine wp_skip ?_
    refine x_then_n ?_
    refine wp_seq ?_
    refine wp_block ?_
    refine wp_seq ?_
    refine wp_region_lit ?_
    refine st_y hf rfl rfl rfl (y_move rfl rfl) ?_
    clear hf a; intro a hf
    refine st_y hf rfl rfl rfl (y_move rfl rfl) ?_
    clear hf a; intro a hf
    obtain ⟨x1_1, hx1_1, hb0_1⟩ := bnd hb0_1
    obtain ⟨h1_1, hx1_2⟩ := getI_some.1 hx1_1
    obtain ⟨b1_1, o1_1, c1_1, he⟩ := idx_form' h1 hx1_2
    simp only [Value.slice.injEq, Option.some.injEq] at he; obtain ⟨rfl, _, rfl⟩ := he
    obtain ⟨_, _, hc1_1, hr1_1⟩ := ro_get' h1 hx1_2
    obtain ⟨_, _, rfl, rfl, h1_2⟩ := hr1_1
    obtain ⟨v1_1, rfl, -⟩ := id h1_2
    replace h1_2 : GT.rep (hp w0) [v1_1] x1_1.args := h1_2
    replace hc1_1 : CellsAt (hp w0) b1_1 (o1_1 + (i1_1).toNat * 2) [(.int .i64 (x1_1.to)), v1_1] := hc1_1
    refine st_y hf rfl rfl rfl (y_indexAddr st_186 rfl rfl rfl h1_1 (idx_lt hx1_2)) ?_
    clear hf a; intro a hf
    refine st_y hf rfl rfl rfl (y_loadN (cs := [(.int .i64 (x1_1.to)), v1_1]) Try.isAgg217 Try.sizeOf217 rfl rfl (hc1_1.mono hm.lez)) ?_
    clear hf a; intro a hf
    refine st_y hf rfl rfl rfl (y_move rfl rfl) ?_
    clear hf a; intro a hf
    obtain ⟨r1_1, hx1_3, hb0_1⟩ := bnd hb0_1
    refine st_ef hf rfl rfl rfl (e_call hf rfl Try.call187 rfl (laws_szPhi_ok _ x1_1 v1_1 (hm.now h1_2) xs1_1 _ hx1_3)) ?_
    clear hf a; rintro v1_2 w1_1 a ho1_1 hf
    obtain ⟨rfl, hB⟩ := ho1_1
    replace hm := hm.below' hB; clear hB
    refine st_y hf rfl rfl rfl (y_assign rfl rfl) ?_
    clear hf a; intro a hf
    refine st_end ?_
    refine x_then_n ?_
    refine wp_seq ?_
    refine wp_region_lit ?_
    refine st_y hf rfl rfl rfl (y_move rfl rfl) ?_
    clear hf a; intro a hf
    refine st_y hf rfl rfl rfl (y_lss rfl rfl rfl) ?_
    clear hf a; intro a hf
    refine st_end ?_
    refine x_then_n ?_
    rcases bcases (decide (r1_1 < 0)) with h1_3 | h1_3
    ·
     replace hb0_1 := (ite_t h1_3).symm.trans hb0_1
     have h1_4 := of_decide_eq_true h1_3
     refine cond_t hf rfl h1_3 ?_
     refine wp_seq ?_
     refine wp_region_lit ?_
     refine st_y hf rfl rfl rfl (y_assign rfl rfl) ?_
     clear hf a; intro a hf
     refine st_end ?_
     refine x_then_n ?_
     refine wp_ret ?_
     refine x_blk_ret ?_
     refine x_then_ret ?_
     refine x_then_ret ?_
     refine x_blk_ret ?_
     refine x_then_ret ?_
     obtain rfl := Option.some.inj hb0_1
     obtain rfl := ho0_1 _ rfl
     replace hq := sum_r hq
     obtain rfl := Option.some.inj hq
     refine ret_tmp hf Try.results174 rfl ?_
     exact ⟨rfl, hm.below⟩
    ·
     replace hb0_1 := (ite_f h1_3).symm.trans hb0_1
     have h1_5 := of_decide_eq_false h1_3
     refine cond_f hf rfl h1_3 ?_
     refine wp_skip ?_
     refine x_blk_n ?_
     refine x_then_n ?_
     refine wp_region_lit ?_
     refine st_y hf rfl rfl rfl (y_move rfl rfl) ?_
     clear hf a; intro a hf
     refine st_y hf rfl rfl rfl (y_add64 rfl rfl rfl (by omega) (by omega)) ?_
     clear hf a; intro a hf
     refine st_y hf rfl rfl rfl (y_assign rfl rfl) ?_
     clear hf a; intro a hf
     refine st_end ?_
     refine x_then_n ?_
     obtain rfl := Option.some.inj hb0_1
     exact ⟨_, rfl, (by first | omega | (dsimp only; omega)), hf.sub ⟨rfl, rfl, rfl, trivial⟩, hm.pick [] (by decide) rfl⟩
   ·
    clear hf hm
    rintro i0_1 xs0_1 a w ⟨hn0_1, hf, hm⟩ hi0_1 hi0_2 rfl
    replace hq := sum_l hq
    refine wp_seq ?_
    refine wp_seq ?_
    refine wp_region_lit ?_
    refine st_y hf rfl rfl rfl (y_move rfl rfl) ?_
    clear hf a; intro a hf
    refine st_y hf rfl rfl rfl (y_move rfl rfl) ?_
    clear hf a; intro a hf
    refine st_y hf rfl rfl rfl (y_len_slice st_186.und rfl rfl) ?_
    clear hf a; intro a hf
    refine st_y hf rfl rfl rfl (y_lss rfl rfl rfl) ?_
    clear hf a; intro a hf
    refine st_end ?_
    refine x_then_n ?_
    refine cond_f hf rfl (decide_eq_false (by omega)) ?_
    refine wp_exit ?_
    refine x_then_exit ?_
    refine x_then_exit ?_
    refine x_blk_hit ?_
    refine x_then_n ?_
    refine wp_seq ?_
    refine wp_region_lit ?_
    refine st_y hf rfl rfl rfl (y_move rfl rfl) ?_
    clear hf a; intro a hf
    refine st_y hf rfl rfl rfl (y_assign rfl rfl) ?_
    clear hf a; intro a hf
    refine st_end ?_
    refine x_then_n ?_
    refine wp_ret ?_
    obtain rfl := Option.some.inj hq
    refine ret_tmp hf Try.results174 rfl ?_
    exact ⟨rfl, hm.below⟩

theorem laws_szIns_ok (w0 : World) (a_ : Ins_) (v1 : Value) (h1 : GT.rep (hp w0) [v1] a_.args) (left : Int) (r : Int) (hq : laws_szIns a_ left = some r) :
    Con Try.prog 188 [(.agg #[(.int .i64 (a_.op)), (.int .i64 (a_.to)), v1, (.int .i64 (a_.n_))]), (.int .i64 (left))] w0 (fun v w' => v = (.int .i64 (r)) ∧ Below w0.heap.size w0 w') := by
  unfold laws_szIns at hq
  refine con_body (l := [(0, (.agg #[(.int .i64 (a_.op)), (.int .i64 (a_.to)), v1, (.int .i64 (a_.n_))])), (1, (.int .i64 (left)))]) Try.func188 rfl Try.ntmps188 (Args.get ⟨rfl, rfl, trivial⟩) rfl ?_
  intro a hf
  have hm := Mem.start w0
  refine wp_seq ?_
  refine wp_region_lit ?_
  refine st_ef hf rfl rfl rfl (e_box hf hm rfl rfl rfl) ?_
  clear hf a; rintro _ w0_1 a ⟨b0_1, rfl, hm⟩ hf
  refine st_y hf rfl rfl rfl (y_assign rfl rfl) ?_
  clear hf a; intro a hf
  refine st_end ?_
  refine x_then_n ?_
  refine wp_seq ?_
  refine wp_region_lit ?_
  refine st_y hf rfl rfl rfl (y_fieldAddr fo_219_2 rfl rfl) ?_
  clear hf a; intro a hf
  refine st_y hf rfl rfl rfl (y_load1 Try.isAgg26 rfl rfl (hm.blk_cell 0 rfl rfl)) ?_
  clear hf a; intro a hf
  refine st_y hf rfl rfl rfl (y_move rfl rfl) ?_
  clear hf a; intro a hf
  obtain ⟨r0_1, hx0_1, hq⟩ := bnd hq
  refine st_ef hf rfl rfl rfl (e_call hf rfl Try.call176 rfl (laws_szIntS_ok _ a_.args v1 (hm.now h1) left _ hx0_1)) ?_
  clear hf a; rintro v0_1 w0_2 a ho0_1 hf
  obtain ⟨rfl, hB⟩ := ho0_1
  replace hm := hm.below' hB; clear hB
  refine st_y hf rfl rfl rfl (y_assign rfl rfl) ?_
  clear hf a; intro a hf
  refine st_end ?_
  refine x_then_n ?_
  refine wp_seq ?_
  refine wp_seq ?_
  refine wp_region_lit ?_
  refine st_y hf rfl rfl rfl (y_move rfl rfl) ?_
  clear hf a; intro a hf
  refine st_y hf rfl rfl rfl (y_lss rfl rfl rfl) ?_
  clear hf a; intro a hf
  refine st_end ?_
  refine x_then_n ?_
  rcases bcases (decide (r0_1 < 0)) with h0_1 | h0_1
  ·
   replace hq := (ite_t h0_1).symm.trans hq
   have h0_2 := of_decide_eq_true h0_1
   refine cond_t hf rfl h0_1 ?_
   refine wp_seq ?_
   refine wp_region_lit ?_
   refine st_y hf rfl rfl rfl (y_assign rfl rfl) ?_
   clear hf a; intro a hf
   refine st_end ?_
   refine x_then_n ?_
   refine wp_ret ?_
   refine x_then_ret ?_
   obtain rfl := Option.some.inj hq
   refine ret_tmp hf Try.results188 rfl ?_
   exact ⟨rfl, hm.below⟩
  ·
   replace hq := (ite_f h0_1).symm.trans hq
   have h0_3 := of_decide_eq_false h0_1
   refine cond_f hf rfl h0_1 ?_
   refine wp_skip ?_
   refine x_then_n ?_
   refine wp_seq ?_
   refine wp_region_lit ?_
   refine st_y hf rfl rfl rfl (y_move rfl rfl) ?_
   clear hf a; intro a hf
   refine st_y hf rfl rfl rfl (y_assign rfl rfl) ?_
   clear hf a; intro a hf
   refine st_end ?_
   refine x_then_n ?_
   refine wp_ret ?_
   obtain rfl := Option.some.inj hq
   refine ret_tmp hf Try.results188 rfl ?_
   exact ⟨rfl, hm.below⟩

theorem laws_szInsS_ok (w0 : World) (a_ : List Ins_) (v1 : Value) (h1 : GT.rep (hp w0) [v1] a_) (left : Int) (r : Int) (hq : laws_szInsS a_ left = some r) :
    Con Try.prog 175 [v1, (.int .i64 (left))] w0 (fun v w' => v = (.int .i64 (r)) ∧ Below w0.heap.size w0 w') := by
  unfold laws_szInsS at hq
  refine con_body (l := [(0, v1), (1, (.int .i64 (left)))]) Try.func175 rfl Try.ntmps175 (Args.get ⟨rfl, rfl, trivial⟩) rfl ?_
  intro a hf
  have hm := Mem.start w0
  refine wp_seq ?_
  refine wp_region_lit ?_
  refine st_y hf rfl rfl rfl (y_assign rfl rfl) ?_
  clear hf a; intro a hf
  refine st_end ?_
  refine x_then_n ?_
  refine wp_seq ?_
  refine wp_region_lit ?_
  refine st_y hf rfl rfl rfl (y_move rfl rfl) ?_
  clear hf a; intro a hf
  refine st_y hf rfl rfl rfl (y_move rfl rfl) ?_
  clear hf a; intro a hf
  obtain ⟨p0_1, c0_1, he, hl0_1⟩ := ro_slice h1
  subst he
  refine st_y hf rfl rfl rfl (y_len_slice st_187.und rfl rfl) ?_
  clear hf a; intro a hf
  refine st_y hf rfl rfl rfl (y_subw rfl rfl rfl) ?_
  clear hf a; intro a hf
  refine st_y hf rfl rfl rfl (y_assign rfl rfl) ?_
  clear hf a; intro a hf
  refine st_end ?_
  refine x_then_n ?_
  refine wp_seq ?_
  refine wp_seq ?_
  refine wp_region_lit ?_
  refine st_y hf rfl rfl rfl (y_move rfl rfl) ?_
  clear hf a; intro a hf
  refine st_y hf rfl rfl rfl (y_lss rfl rfl rfl) ?_
  clear hf a; intro a hf
  refine st_end ?_
  refine x_then_n ?_
  rcases bcases (decide ((w64 (left - ((a_.length : Int)))) < 0)) with h0_1 | h0_1
  ·
   replace hq := (ite_t h0_1).symm.trans hq
   have h0_2 := of_decide_eq_true h0_1
   refine cond_t hf rfl h0_1 ?_
   refine wp_seq ?_
   refine wp_region_lit ?_
   refine st_y hf rfl rfl rfl (y_assign rfl rfl) ?_
   clear hf a; intro a hf
   refine st_end ?_
   refine x_then_n ?_
   refine wp_ret ?_
   refine x_then_ret ?_
   obtain rfl := Option.some.inj hq
   refine ret_tmp hf Try.results175 rfl ?_
   exact ⟨rfl, hm.below⟩
  ·
   replace hq := (ite_f h0_1).symm.trans hq
   have h0_3 := of_decide_eq_false h0_1
   refine cond_f hf rfl h0_1 ?_
   refine wp_skip ?_
   refine x_then_n ?_
   refine wp_seq ?_
   refine wp_seq ?_
   refine wp_region_lit ?_
   refine st_y hf rfl rfl rfl (y_assign rfl rfl) ?_
   clear hf a; intro a hf
   refine st_end ?_
   refine x_then_n ?_
   refine wp_block ?_
   obtain ⟨r0_1, hl0_2, hq⟩ := bnd hq
   refine wp_forN _ (fun i1_1 xs1_1 a w => 0 ≤ xs1_1 ∧ Fr 27 [(0, (.slice p0_1 a_.length c0_1)), (1, (.int .i64 (xs1_1))), (5, (.int .i64 (i1_1)))] a ∧ Mem w0 (hp w0) w []) (0) ((a_.length : Int)) hl0_2 ?_ ?_ ?_
   ·
    exact ⟨(by first | omega | (dsimp only; omega)), hf.sub ⟨rfl, rfl, rfl, trivial⟩, hm.pick [] (by decide) rfl⟩
   ·
    clear hf hm
    rintro i1_1 xs1_1 a w ⟨hn1_1, hf, hm⟩ hi1_1 hi1_2 q0_1 hb0_1 ho0_1
    refine wp_seq ?_
    refine wp_seq ?_
    refine wp_region_lit ?_
    refine st_y hf rfl rfl rfl (y_move rfl rfl) ?_
    clear hf a; intro a hf
    refine st_y hf rfl rfl rfl (y_move rfl rfl) ?_
    clear hf a; intro a hf
    refine st_y hf rfl rfl rfl (y_len_slice st_187.und rfl rfl) ?_
    clear hf a; intro a hf
    refine st_y hf rfl rfl rfl (y_lss rfl rfl rfl) ?_
    clear hf a; intro a hf
    refine st_end ?_
    refine x_then_n ?_
    refine cond_t hf rfl (decide_eq_true (by omega)) ?_
    refine wp_skip ?_
    refine x_then_n ?_
    refine wp_seq ?_
    refine wp_block ?_
    refine wp_seq ?_
    refine wp_region_lit ?_
    refine st_y hf rfl rfl rfl (y_move rfl rfl) ?_
    clear hf a; intro a hf
    refine st_y hf rfl rfl rfl (y_move rfl rfl) ?_
    clear hf a; intro a hf
    obtain ⟨x1_1, hx1_1, hb0_1⟩ := bnd hb0_1
    obtain ⟨h1_1, hx1_2⟩ := getI_some.1 hx1_1
    obtain ⟨b1_1, o1_1, c1_1, he⟩ := idx_form' h1 hx1_2
    simp only [Value.slice.injEq, Option.some.injEq] at he; obtain ⟨rfl, _, rfl⟩ := he
    obtain ⟨_, _, hc1_1, hr1_1⟩ := ro_get' h1 hx1_2
    obtain ⟨_, _, rfl, rfl, _, _, rfl, rfl, _, _, rfl, h1_2, rfl⟩ := hr1_1
    obtain ⟨v1_1, rfl, -⟩ := id h1_2
    replace h1_2 : GT.rep (hp w0) [v1_1] x1_1.args := h1_2
    replace hc1_1 : CellsAt (hp w0) b1_1 (o1_1 + (i1_1).toNat * 4) [(.int .i64 (x1_1.op)), (.int .i64 (x1_1.to)), v1_1, (.int .i64 (x1_1.n_))] := hc1_1
    refine st_y hf rfl rfl rfl (y_indexAddr st_187 rfl rfl rfl h1_1 (idx_lt hx1_2)) ?_
    clear hf a; intro a hf
    refine st_y hf rfl rfl rfl (y_loadN (cs := [(.int .i64 (x1_1.op)), (.int .i64 (x1_1.to)), v1_1, (.int .i64 (x1_1.n_))]) Try.isAgg219 Try.sizeOf219 rfl rfl (hc1_1.mono hm.lez)) ?_
    clear hf a; intro a hf
    refine st_y hf rfl rfl rfl (y_move rfl rfl) ?_
    clear hf a; intro a hf
    obtain ⟨r1_1, hx1_3, hb0_1⟩ := bnd hb0_1
    refine st_ef hf rfl rfl rfl (e_call hf rfl Try.call188 rfl (laws_szIns_ok _ x1_1 v1_1 (hm.now h1_2) xs1_1 _ hx1_3)) ?_
    clear hf a; rintro v1_2 w1_1 a ho1_1 hf
    obtain ⟨rfl, hB⟩ := ho1_1
    replace hm := hm.below' hB; clear hB
    refine st_y hf rfl rfl rfl (y_assign rfl rfl) ?_
    clear hf a; intro a hf
    refine st_end ?_
    refine x_then_n ?_
    refine wp_seq ?_
    refine wp_region_lit ?_
    refine st_y hf rfl rfl rfl (y_move rfl rfl) ?_
    clear hf a; intro a hf
    refine st_y hf rfl rfl rfl (y_lss rfl rfl rfl) ?_
    clear hf a; intro a hf
    refine st_end ?_
    refine x_then_n ?_
    rcases bcases (decide (r1_1 < 0)) with h1_3 | h1_3
    ·
     replace hb0_1 := (ite_t h1_3).symm.trans hb0_1
     have h1_4 := of_decide_eq_true h1_3
     refine cond_t hf rfl h1_3 ?_
     refine wp_seq ?_
     refine wp_region_lit ?_
     refine st_y hf rfl rfl rfl (y_assign rfl rfl) ?_
     clear hf a; intro a hf
     refine st_end ?_
     refine x_then_n ?_
     refine wp_ret ?_
     refine x_blk_ret ?_
     refine x_then_ret ?_
     refine x_then_ret ?_
     refine x_blk_ret ?_
     refine x_then_ret ?_
     obtain rfl := Option.some.inj hb0_1
     obtain rfl := ho0_1 _ rfl
     replace hq := sum_r hq
     obtain rfl := Option.some.inj hq
     refine ret_tmp hf Try.results175 rfl ?_
     exact ⟨rfl, hm.below⟩
    ·
     replace hb0_1 := (ite_f h1_3).symm.trans hb0_1
     have h1_5 := of_decide_eq_false h1_3
     refine cond_f hf rfl h1_3 ?_
     refine wp_skip ?_
     refine x_blk_n ?_
     refine x_then_n ?_
     refine wp_region_lit ?_
     refine st_y hf rfl rfl rfl (y_move rfl rfl) ?_
     clear hf a; intro a hf
     refine st_y hf rfl rfl rfl (y_add64 rfl rfl rfl (by omega) (by omega)) ?_
     clear hf a; intro a hf
     refine st_y hf rfl rfl rfl (y_assign rfl rfl) ?_
     clear hf a; intro a hf
     refine st_end ?_
     refine x_then_n ?_
     obtain rfl := Option.some.inj hb0_1
     exact ⟨_, rfl, (by first | omega | (dsimp only; omega)), hf.sub ⟨rfl, rfl, rfl, trivial⟩, hm.pick [] (by decide) rfl⟩
   ·
    clear hf hm
    rintro i0_1 xs0_1 a w ⟨hn0_1, hf, hm⟩ hi0_1 hi0_2 rfl
    replace hq := sum_l hq
    refine wp_seq ?_
    refine wp_seq ?_
    refine wp_region_lit ?_
    refine st_y hf rfl rfl rfl (y_move rfl rfl) ?_
    clear hf a; intro a hf
    refine st_y hf rfl rfl rfl (y_move rfl rfl) ?_
    clear hf a; intro a hf
    refine st_y hf rfl rfl rfl (y_len_slice st_187.und rfl rfl) ?_
    clear hf a; intro a hf
    refine st_y hf rfl rfl rfl (y_lss rfl rfl rfl) ?_
    clear hf a; intro a hf
    refine st_end ?_
    refine x_then_n ?_
    refine cond_f hf rfl (decide_eq_false (by omega)) ?_
    refine wp_exit ?_
    refine x_then_exit ?_
    refine x_then_exit ?_
    refine x_blk_hit ?_
    refine x_then_n ?_
    refine wp_seq ?_
    refine wp_region_lit ?_
    refine st_y hf rfl rfl rfl (y_move rfl rfl) ?_
    clear hf a; intro a hf
    refine st_y hf rfl rfl rfl (y_assign rfl rfl) ?_
    clear hf a; intro a hf
    refine st_end ?_
    refine x_then_n ?_
    refine wp_ret ?_
    obtain rfl := Option.some.inj hq
    refine ret_tmp hf Try.results175 rfl ?_
    exact ⟨rfl, hm.below⟩

theorem laws_szBlock_ok (w0 : World) (a_ : Block_) (v1 : Value) (h1 : GT.rep (hp w0) [v1] a_.phis) (v2 : Value) (h2 : GT.rep (hp w0) [v2] a_.ins) (v3 : Value) (h3 : GT.rep (hp w0) [v3] a_.next_) (left : Int) (r : Int) (hq : laws_szBlock a_ left = some r) :
    Con Try.prog 157 [(.agg #[v1, v2, (.int .i64 (a_.jump)), (.int .i64 (a_.on)), v3]), (.int .i64 (left))] w0 (fun v w' => v = (.int .i64 (r)) ∧ Below w0.heap.size w0 w') := by
  unfold laws_szBlock at hq
  refine con_body (l := [(0, (.agg #[v1, v2, (.int .i64 (a_.jump)), (.int .i64 (a_.on)), v3])), (1, (.int .i64 (left)))]) Try.func157 rfl Try.ntmps157 (Args.get ⟨rfl, rfl, trivial⟩) rfl ?_
  intro a hf
  have hm := Mem.start w0
  refine wp_seq ?_
  refine wp_region_lit ?_
  refine st_ef hf rfl rfl rfl (e_box hf hm rfl rfl rfl) ?_
  clear hf a; rintro _ w0_1 a ⟨b0_1, rfl, hm⟩ hf
  refine st_y hf rfl rfl rfl (y_assign rfl rfl) ?_
  clear hf a; intro a hf
  refine st_end ?_
  refine x_then_n ?_
  refine wp_seq ?_
  refine wp_region_lit ?_
  refine st_y hf rfl rfl rfl (y_fieldAddr fo_189_0 rfl rfl) ?_
  clear hf a; intro a hf
  refine st_y hf rfl rfl rfl (y_load1 Try.isAgg186 rfl rfl (hm.blk_cell 0 rfl rfl)) ?_
  clear hf a; intro a hf
  refine st_y hf rfl rfl rfl (y_move rfl rfl) ?_
  clear hf a; intro a hf
  obtain ⟨r0_1, hx0_1, hq⟩ := bnd hq
  refine st_ef hf rfl rfl rfl (e_call hf rfl Try.call174 rfl (laws_szPhiS_ok _ a_.phis v1 (hm.now h1) left _ hx0_1)) ?_
  clear hf a; rintro v0_1 w0_2 a ho0_1 hf
  obtain ⟨rfl, hB⟩ := ho0_1
  replace hm := hm.below' hB; clear hB
  refine st_y hf rfl rfl rfl (y_assign rfl rfl) ?_
  clear hf a; intro a hf
  refine st_end ?_
  refine x_then_n ?_
  refine wp_seq ?_
  refine wp_seq ?_
  refine wp_region_lit ?_
  refine st_y hf rfl rfl rfl (y_move rfl rfl) ?_
  clear hf a; intro a hf
  refine st_y hf rfl rfl rfl (y_lss rfl rfl rfl) ?_
  clear hf a; intro a hf
  refine st_end ?_
  refine x_then_n ?_
  rcases bcases (decide (r0_1 < 0)) with h0_1 | h0_1
  ·
   replace hq := (ite_t h0_1).symm.trans hq
   have h0_2 := of_decide_eq_true h0_1
   refine cond_t hf rfl h0_1 ?_
   refine wp_seq ?_
   refine wp_region_lit ?_
   refine st_y hf rfl rfl rfl (y_assign rfl rfl) ?_
   clear hf a; intro a hf
   refine st_end ?_
   refine x_then_n ?_
   refine wp_ret ?_
   refine x_then_ret ?_
   obtain rfl := Option.some.inj hq
   refine ret_tmp hf Try.results157 rfl ?_
   exact ⟨rfl, hm.below⟩
  ·
   replace hq := (ite_f h0_1).symm.trans hq
   have h0_3 := of_decide_eq_false h0_1
   refine cond_f hf rfl h0_1 ?_
   refine wp_skip ?_
   refine x_then_n ?_
   refine wp_seq ?_
   refine wp_region_lit ?_
   refine st_y hf rfl rfl rfl (y_fieldAddr fo_189_1 rfl rfl) ?_
   clear hf a; intro a hf
   refine st_y hf rfl rfl rfl (y_load1 Try.isAgg187 rfl rfl (hm.blk_cell 0 rfl rfl)) ?_
   clear hf a; intro a hf
   refine st_y hf rfl rfl rfl (y_move rfl rfl) ?_
   clear hf a; intro a hf
   obtain ⟨r0_2, hx0_2, hq⟩ := bnd hq
   refine st_ef hf rfl rfl rfl (e_call hf rfl Try.call175 rfl (laws_szInsS_ok _ a_.ins v2 (hm.now h2) r0_1 _ hx0_2)) ?_
   clear hf a; rintro v0_2 w0_3 a ho0_2 hf
   obtain ⟨rfl, hB⟩ := ho0_2
   replace hm := hm.below' hB; clear hB
   refine st_y hf rfl rfl rfl (y_assign rfl rfl) ?_
   clear hf a; intro a hf
   refine st_end ?_
   refine x_then_n ?_
   refine wp_seq ?_
   refine wp_seq ?_
   refine wp_region_lit ?_
   refine st_y hf rfl rfl rfl (y_move rfl rfl) ?_
   clear hf a; intro a hf
   refine st_y hf rfl rfl rfl (y_lss rfl rfl rfl) ?_
   clear hf a; intro a hf
   refine st_end ?_
   refine x_then_n ?_
   rcases bcases (decide (r0_2 < 0)) with h0_4 | h0_4
   ·
    replace hq := (ite_t h0_4).symm.trans hq
    have h0_5 := of_decide_eq_true h0_4
    refine cond_t hf rfl h0_4 ?_
    refine wp_seq ?_
    refine wp_region_lit ?_
    refine st_y hf rfl rfl rfl (y_assign rfl rfl) ?_
    clear hf a; intro a hf
    refine st_end ?_
    refine x_then_n ?_
    refine wp_ret ?_
    refine x_then_ret ?_
    obtain rfl := Option.some.inj hq
    refine ret_tmp hf Try.results157 rfl ?_
    exact ⟨rfl, hm.below⟩
   ·
    replace hq := (ite_f h0_4).symm.trans hq
    have h0_6 := of_decide_eq_false h0_4
    refine cond_f hf rfl h0_4 ?_
    refine wp_skip ?_
    refine x_then_n ?_
    refine wp_seq ?_
    refine wp_region_lit ?_
    refine st_y hf rfl rfl rfl (y_fieldAddr fo_189_4 rfl rfl) ?_
    clear hf a; intro a hf
    refine st_y hf rfl rfl rfl (y_load1 Try.isAgg26 rfl rfl (hm.blk_cell 0 rfl rfl)) ?_
    clear hf a; intro a hf
    refine st_y hf rfl rfl rfl (y_move rfl rfl) ?_
    clear hf a; intro a hf
    obtain ⟨r0_3, hx0_3, hq⟩ := bnd hq
    refine st_ef hf rfl rfl rfl (e_call hf rfl Try.call176 rfl (laws_szIntS_ok _ a_.next_ v3 (hm.now h3) r0_2 _ hx0_3)) ?_
    clear hf a; rintro v0_3 w0_4 a ho0_3 hf
    obtain ⟨rfl, hB⟩ := ho0_3
    replace hm := hm.below' hB; clear hB
    refine st_y hf rfl rfl rfl (y_assign rfl rfl) ?_
    clear hf a; intro a hf
    refine st_end ?_
    refine x_then_n ?_
    refine wp_seq ?_
    refine wp_seq ?_
    refine wp_region_lit ?_
    refine st_y hf rfl rfl rfl (y_move rfl rfl) ?_
    clear hf a; intro a hf
    refine st_y hf rfl rfl rfl (y_lss rfl rfl rfl) ?_
    clear hf a; intro a hf
    refine st_end ?_
    refine x_then_n ?_
    rcases bcases (decide (r0_3 < 0)) with h0_7 | h0_7
    ·
     replace hq := (ite_t h0_7).symm.trans hq
     have h0_8 := of_decide_eq_true h0_7
     refine cond_t hf rfl h0_7 ?_
     refine wp_seq ?_
     refine wp_region_lit ?_
     refine st_y hf rfl rfl rfl (y_assign rfl rfl) ?_
     clear hf a; intro a hf
     refine st_end ?_
     refine x_then_n ?_
     refine wp_ret ?_
     refine x_then_ret ?_
     obtain rfl := Option.some.inj hq
     refine ret_tmp hf Try.results157 rfl ?_
     exact ⟨rfl, hm.below⟩
    ·
     replace hq := (ite_f h0_7).symm.trans hq
     have h0_9 := of_decide_eq_false h0_7
     refine cond_f hf rfl h0_7 ?_
     refine wp_skip ?_
     refine x_then_n ?_
     refine wp_seq ?_
     refine wp_region_lit ?_
     refine st_y hf rfl rfl rfl (y_move rfl rfl) ?_
     clear hf a; intro a hf
     refine st_y hf rfl rfl rfl (y_assign rfl rfl) ?_
     clear hf a; intro a hf
     refine st_end ?_
     refine x_then_n ?_
     refine wp_ret ?_
     obtain rfl := Option.some.inj hq
     refine ret_tmp hf Try.results157 rfl ?_
     exact ⟨rfl, hm.below⟩

theorem laws_szBlockS_ok (w0 : World) (a_ : List Block_) (v1 : Value) (h1 : GT.rep (hp w0) [v1] a_) (left : Int) (r : Int) (hq : laws_szBlockS a_ left = some r) :
    Con Try.prog 130 [v1, (.int .i64 (left))] w0 (fun v w' => v = (.int .i64 (r)) ∧ Below w0.heap.size w0 w') := by
  unfold laws_szBlockS at hq
  refine con_body (l := [(0, v1), (1, (.int .i64 (left)))]) Try.func130 rfl Try.ntmps130 (Args.get ⟨rfl, rfl, trivial⟩) rfl ?_
  intro a hf
  have hm := Mem.start w0
  refine wp_seq ?_
  refine wp_region_lit ?_
  refine st_y hf rfl rfl rfl (y_assign rfl rfl) ?_
  clear hf a; intro a hf
  refine st_end ?_
  refine x_then_n ?_
  refine wp_seq ?_
  refine wp_region_lit ?_
  refine st_y hf rfl rfl rfl (y_move rfl rfl) ?_
  clear hf a; intro a hf
  refine st_y hf rfl rfl rfl (y_move rfl rfl) ?_
  clear hf a; intro a hf
  obtain ⟨p0_1, c0_1, he, hl0_1⟩ := ro_slice h1
  subst he
  refine st_y hf rfl rfl rfl (y_len_slice st_143.und rfl rfl) ?_
  clear hf a; intro a hf
  refine st_y hf rfl rfl rfl (y_subw rfl rfl rfl) ?_
  clear hf a; intro a hf
  refine st_y hf rfl rfl rfl (y_assign rfl rfl) ?_
  clear hf a; intro a hf
  refine st_end ?_
  refine x_then_n ?_
  refine wp_seq ?_
  refine wp_seq ?_
  refine wp_region_lit ?_
  refine st_y hf rfl rfl rfl (y_move rfl rfl) ?_
  clear hf a; intro a hf
  refine st_y hf rfl rfl rfl (y_lss rfl rfl rfl) ?_
  clear hf a; intro a hf
  refine st_end ?_
  refine x_then_n ?_
  rcases bcases (decide ((w64 (left - ((a_.length : Int)))) < 0)) with h0_1 | h0_1
  ·
   replace hq := (ite_t h0_1).symm.trans hq
   have h0_2 := of_decide_eq_true h0_1
   refine cond_t hf rfl h0_1 ?_
   refine wp_seq ?_
   refine wp_region_lit ?_
   refine st_y hf rfl rfl rfl (y_assign rfl rfl) ?_
   clear hf a; intro a hf
   refine st_end ?_
   refine x_then_n ?_
   refine wp_ret ?_
   refine x_then_ret ?_
   obtain rfl := Option.some.inj hq
   refine ret_tmp hf Try.results130 rfl ?_
   exact ⟨rfl, hm.below⟩
  ·
   replace hq := (ite_f h0_1).symm.trans hq
   have h0_3 := of_decide_eq_false h0_1
   refine cond_f hf rfl h0_1 ?_
   refine wp_skip ?_
   refine x_then_n ?_
   refine wp_seq ?_
   refine wp_seq ?_
   refine wp_region_lit ?_
   refine st_y hf rfl rfl rfl (y_assign rfl rfl) ?_
   clear hf a; intro a hf
   refine st_end ?_
   refine x_then_n ?_
   refine wp_block ?_
   obtain ⟨r0_1, hl0_2, hq⟩ := bnd hq
   refine wp_forN _ (fun i1_1 xs1_1 a w => 0 ≤ xs1_1 ∧ Fr 27 [(0, (.slice p0_1 a_.length c0_1)), (1, (.int .i64 (xs1_1))), (5, (.int .i64 (i1_1)))] a ∧ Mem w0 (hp w0) w []) (0) ((a_.length : Int)) hl0_2 ?_ ?_ ?_
   ·
    exact ⟨(by first | omega | (dsimp only; omega)), hf.sub ⟨rfl, rfl, rfl, trivial⟩, hm.pick [] (by decide) rfl⟩
   ·
    clear hf hm
    rintro i1_1 xs1_1 a w ⟨hn1_1, hf, hm⟩ hi1_1 hi1_2 q0_1 hb0_1 ho0_1
    refine wp_seq ?_
    refine wp_seq ?_
    refine wp_region_lit ?_
    refine st_y hf rfl rfl rfl (y_move rfl rfl) ?_
    clear hf a; intro a hf
    refine st_y hf rfl rfl rfl (y_move rfl rfl) ?_
    clear hf a; intro a hf
    refine st_y hf rfl rfl rfl (y_len_slice st_143.und rfl rfl) ?_
    clear hf a; intro a hf
    refine st_y hf rfl rfl rfl (y_lss rfl rfl rfl) ?_
    clear hf a; intro a hf
    refine st_end ?_
    refine x_then_n ?_
    refine cond_t hf rfl (decide_eq_true (by omega)) ?_
    refine wp_skip ?_
    refine x_then_n ?_
    refine wp_seq ?_
    refine wp_block ?_
    refine wp_seq ?_
    refine wp_region_lit ?_
    refine st_y hf rfl rfl rfl (y_move rfl rfl) ?_
    clear hf a; intro a hf
    refine st_y hf rfl rfl rfl (y_move rfl rfl) ?_
    clear hf a; intro a hf
    obtain ⟨x1_1, hx1_1, hb0_1⟩ := bnd hb0_1
    obtain ⟨h1_1, hx1_2⟩ := getI_some.1 hx1_1
    obtain ⟨b1_1, o1_1, c1_1, he⟩ := idx_form' h1 hx1_2
    simp only [Value.slice.injEq, Option.some.injEq] at he; obtain ⟨rfl, _, rfl⟩ := he
    obtain ⟨_, _, hc1_1, hr1_1⟩ := ro_get' h1 hx1_2
    obtain ⟨_, _, rfl, h1_2, _, _, rfl, h1_3, _, _, rfl, rfl, _, _, rfl, rfl, h1_4⟩ := hr1_1
    obtain ⟨v1_1, rfl, -⟩ := id h1_2
    replace h1_2 : GT.rep (hp w0) [v1_1] x1_1.phis := h1_2
    obtain ⟨v1_2, rfl, -⟩ := id h1_3
    replace h1_3 : GT.rep (hp w0) [v1_2] x1_1.ins := h1_3
    obtain ⟨v1_3, rfl, -⟩ := id h1_4
    replace h1_4 : GT.rep (hp w0) [v1_3] x1_1.next_ := h1_4
    replace hc1_1 : CellsAt (hp w0) b1_1 (o1_1 + (i1_1).toNat * 5) [v1_1, v1_2, (.int .i64 (x1_1.jump)), (.int .i64 (x1_1.on)), v1_3] := hc1_1
    refine st_y hf rfl rfl rfl (y_indexAddr st_143 rfl rfl rfl h1_1 (idx_lt hx1_2)) ?_
    clear hf a; intro a hf
    refine st_y hf rfl rfl rfl (y_loadN (cs := [v1_1, v1_2, (.int .i64 (x1_1.jump)), (.int .i64 (x1_1.on)), v1_3]) Try.isAgg189 Try.sizeOf189 rfl rfl (hc1_1.mono hm.lez)) ?_
    clear hf a; intro a hf
    refine st_y hf rfl rfl rfl (y_move rfl rfl) ?_
    clear hf a; intro a hf
    obtain ⟨r1_1, hx1_3, hb0_1⟩ := bnd hb0_1
    refine st_ef hf rfl rfl rfl (e_call hf rfl Try.call157 rfl (laws_szBlock_ok _ x1_1 v1_1 (hm.now h1_2) v1_2 (hm.now h1_3) v1_3 (hm.now h1_4) xs1_1 _ hx1_3)) ?_
    clear hf a; rintro v1_4 w1_1 a ho1_1 hf
    obtain ⟨rfl, hB⟩ := ho1_1
    replace hm := hm.below' hB; clear hB
    refine st_y hf rfl rfl rfl (y_assign rfl rfl) ?_
    clear hf a; intro a hf
    refine st_end ?_
    refine x_then_n ?_
    refine wp_seq ?_
    refine wp_region_lit ?_
    refine st_y hf rfl rfl rfl (y_move rfl rfl) ?_
    clear hf a; intro a hf
    refine st_y hf rfl rfl rfl (y_lss rfl rfl rfl) ?_
    clear hf a; intro a hf
    refine st_end ?_
    refine x_then_n ?_
    rcases bcases (decide (r1_1 < 0)) with h1_5 | h1_5
    ·
     replace hb0_1 := (ite_t h1_5).symm.trans hb0_1
     have h1_6 := of_decide_eq_true h1_5
     refine cond_t hf rfl h1_5 ?_
     refine wp_seq ?_
     refine wp_region_lit ?_
     refine st_y hf rfl rfl rfl (y_assign rfl rfl) ?_
     clear hf a; intro a hf
     refine st_end ?_
     refine x_then_n ?_
     refine wp_ret ?_
     refine x_blk_ret ?_
     refine x_then_ret ?_
     refine x_then_ret ?_
     refine x_blk_ret ?_
     refine x_then_ret ?_
     obtain rfl := Option.some.inj hb0_1
     obtain rfl := ho0_1 _ rfl
     replace hq := sum_r hq
     obtain rfl := Option.some.inj hq
     refine ret_tmp hf Try.results130 rfl ?_
     exact ⟨rfl, hm.below⟩
    ·
     replace hb0_1 := (ite_f h1_5).symm.trans hb0_1
     have h1_7 := of_decide_eq_false h1_5
     refine cond_f hf rfl h1_5 ?_
     refine wp_skip ?_
     refine x_blk_n ?_
     refine x_then_n ?_
     refine wp_region_lit ?_
     refine st_y hf rfl rfl rfl (y_move rfl rfl) ?_
     clear hf a; intro a hf
     refine st_y hf rfl rfl rfl (y_add64 rfl rfl rfl (by omega) (by omega)) ?_
     clear hf a; intro a hf
     refine st_y hf rfl rfl rfl (y_assign rfl rfl) ?_
     clear hf a; intro a hf
     refine st_end ?_
     refine x_then_n ?_
     obtain rfl := Option.some.inj hb0_1
     exact ⟨_, rfl, (by first | omega | (dsimp only; omega)), hf.sub ⟨rfl, rfl, rfl, trivial⟩, hm.pick [] (by decide) rfl⟩
   ·
    clear hf hm
    rintro i0_1 xs0_1 a w ⟨hn0_1, hf, hm⟩ hi0_1 hi0_2 rfl
    replace hq := sum_l hq
    refine wp_seq ?_
    refine wp_seq ?_
    refine wp_region_lit ?_
    refine st_y hf rfl rfl rfl (y_move rfl rfl) ?_
    clear hf a; intro a hf
    refine st_y hf rfl rfl rfl (y_move rfl rfl) ?_
    clear hf a; intro a hf
    refine st_y hf rfl rfl rfl (y_len_slice st_143.und rfl rfl) ?_
    clear hf a; intro a hf
    refine st_y hf rfl rfl rfl (y_lss rfl rfl rfl) ?_
    clear hf a; intro a hf
    refine st_end ?_
    refine x_then_n ?_
    refine cond_f hf rfl (decide_eq_false (by omega)) ?_
    refine wp_exit ?_
    refine x_then_exit ?_
    refine x_then_exit ?_
    refine x_blk_hit ?_
    refine x_then_n ?_
    refine wp_seq ?_
    refine wp_region_lit ?_
    refine st_y hf rfl rfl rfl (y_move rfl rfl) ?_
    clear hf a; intro a hf
    refine st_y hf rfl rfl rfl (y_assign rfl rfl) ?_
    clear hf a; intro a hf
    refine st_end ?_
    refine x_then_n ?_
    refine wp_ret ?_
    obtain rfl := Option.some.inj hq
    refine ret_tmp hf Try.results130 rfl ?_
    exact ⟨rfl, hm.below⟩

theorem laws_szCode_ok (w0 : World) (a_ : Code_) (v1 : Value) (h1 : GT.rep (hp w0) [v1] a_.blocks) (left : Int) (r : Int) (hq : laws_szCode a_ left = some r) :
    Con Try.prog 94 [(.agg #[(.int .i64 (a_.params)), (.int .i64 (a_.regs)), v1]), (.int .i64 (left))] w0 (fun v w' => v = (.int .i64 (r)) ∧ Below w0.heap.size w0 w') := by
  unfold laws_szCode at hq
  refine con_body (l := [(0, (.agg #[(.int .i64 (a_.params)), (.int .i64 (a_.regs)), v1])), (1, (.int .i64 (left)))]) Try.func94 rfl Try.ntmps94 (Args.get ⟨rfl, rfl, trivial⟩) rfl ?_
  intro a hf
  have hm := Mem.start w0
  refine wp_seq ?_
  refine wp_region_lit ?_
  refine st_ef hf rfl rfl rfl (e_box hf hm rfl rfl rfl) ?_
  clear hf a; rintro _ w0_1 a ⟨b0_1, rfl, hm⟩ hf
  refine st_y hf rfl rfl rfl (y_assign rfl rfl) ?_
  clear hf a; intro a hf
  refine st_end ?_
  refine x_then_n ?_
  refine wp_seq ?_
  refine wp_region_lit ?_
  refine st_y hf rfl rfl rfl (y_fieldAddr fo_145_2 rfl rfl) ?_
  clear hf a; intro a hf
  refine st_y hf rfl rfl rfl (y_load1 Try.isAgg143 rfl rfl (hm.blk_cell 0 rfl rfl)) ?_
  clear hf a; intro a hf
  refine st_y hf rfl rfl rfl (y_move rfl rfl) ?_
  clear hf a; intro a hf
  obtain ⟨r0_1, hx0_1, hq⟩ := bnd hq
  refine st_ef hf rfl rfl rfl (e_call hf rfl Try.call130 rfl (laws_szBlockS_ok _ a_.blocks v1 (hm.now h1) left _ hx0_1)) ?_
  clear hf a; rintro v0_1 w0_2 a ho0_1 hf
  obtain ⟨rfl, hB⟩ := ho0_1
  replace hm := hm.below' hB; clear hB
  refine st_y hf rfl rfl rfl (y_assign rfl rfl) ?_
  clear hf a; intro a hf
  refine st_end ?_
  refine x_then_n ?_
  refine wp_seq ?_
  refine wp_seq ?_
  refine wp_region_lit ?_
  refine st_y hf rfl rfl rfl (y_move rfl rfl) ?_
  clear hf a; intro a hf
  refine st_y hf rfl rfl rfl (y_lss rfl rfl rfl) ?_
  clear hf a; intro a hf
  refine st_end ?_
  refine x_then_n ?_
  rcases bcases (decide (r0_1 < 0)) with h0_1 | h0_1
  ·
   replace hq := (ite_t h0_1).symm.trans hq
   have h0_2 := of_decide_eq_true h0_1
   refine cond_t hf rfl h0_1 ?_
   refine wp_seq ?_
   refine wp_region_lit ?_
   refine st_y hf rfl rfl rfl (y_assign rfl rfl) ?_
   clear hf a; intro a hf
   refine st_end ?_
   refine x_then_n ?_
   refine wp_ret ?_
   refine x_then_ret ?_
   obtain rfl := Option.some.inj hq
   refine ret_tmp hf Try.results94 rfl ?_
   exact ⟨rfl, hm.below⟩
  ·
   replace hq := (ite_f h0_1).symm.trans hq
   have h0_3 := of_decide_eq_false h0_1
   refine cond_f hf rfl h0_1 ?_
   refine wp_skip ?_
   refine x_then_n ?_
   refine wp_seq ?_
   refine wp_region_lit ?_
   refine st_y hf rfl rfl rfl (y_move rfl rfl) ?_
   clear hf a; intro a hf
   refine st_y hf rfl rfl rfl (y_assign rfl rfl) ?_
   clear hf a; intro a hf
   refine st_end ?_
   refine x_then_n ?_
   refine wp_ret ?_
   obtain rfl := Option.some.inj hq
   refine ret_tmp hf Try.results94 rfl ?_
   exact ⟨rfl, hm.below⟩

theorem laws_szCodeS_ok (w0 : World) (a_ : List Code_) (v1 : Value) (h1 : GT.rep (hp w0) [v1] a_) (left : Int) (r : Int) (hq : laws_szCodeS a_ left = some r) :
    Con Try.prog 66 [v1, (.int .i64 (left))] w0 (fun v w' => v = (.int .i64 (r)) ∧ Below w0.heap.size w0 w') := by
  unfold laws_szCodeS at hq
  refine con_body (l := [(0, v1), (1, (.int .i64 (left)))]) Try.func66 rfl Try.ntmps66 (Args.get ⟨rfl, rfl, trivial⟩) rfl ?_
  intro a hf
  have hm := Mem.start w0
  refine wp_seq ?_
  refine wp_region_lit ?_
  refine st_y hf rfl rfl rfl (y_assign rfl rfl) ?_
  clear hf a; intro a hf
  refine st_end ?_
  refine x_then_n ?_
  refine wp_seq ?_
  refine wp_region_lit ?_
  refine st_y hf rfl rfl rfl (y_move rfl rfl) ?_
  clear hf a; intro a hf
  refine st_y hf rfl rfl rfl (y_move rfl rfl) ?_
  clear hf a; intro a hf
  obtain ⟨p0_1, c0_1, he, hl0_1⟩ := ro_slice h1
  subst he
  refine st_y hf rfl rfl rfl (y_len_slice st_67.und rfl rfl) ?_
  clear hf a; intro a hf
  refine st_y hf rfl rfl rfl (y_subw rfl rfl rfl) ?_
  clear hf a; intro a hf
  refine st_y hf rfl rfl rfl (y_assign rfl rfl) ?_
  clear hf a; intro a hf
  refine st_end ?_
  refine x_then_n ?_
  refine wp_seq ?_
  refine wp_seq ?_
  refine wp_region_lit ?_
  refine st_y hf rfl rfl rfl (y_move rfl rfl) ?_
  clear hf a; intro a hf
  refine st_y hf rfl rfl rfl (y_lss rfl rfl rfl) ?_
  clear hf a; intro a hf
  refine st_end ?_
  refine x_then_n ?_
  rcases bcases (decide ((w64 (left - ((a_.length : Int)))) < 0)) with h0_1 | h0_1
  ·
   replace hq := (ite_t h0_1).symm.trans hq
   have h0_2 := of_decide_eq_true h0_1
   refine cond_t hf rfl h0_1 ?_
   refine wp_seq ?_
   refine wp_region_lit ?_
   refine st_y hf rfl rfl rfl (y_assign rfl rfl) ?_
   clear hf a; intro a hf
   refine st_end ?_
   refine x_then_n ?_
   refine wp_ret ?_
   refine x_then_ret ?_
   obtain rfl := Option.some.inj hq
   refine ret_tmp hf Try.results66 rfl ?_
   exact ⟨rfl, hm.below⟩
  ·
   replace hq := (ite_f h0_1).symm.trans hq
   have h0_3 := of_decide_eq_false h0_1
   refine cond_f hf rfl h0_1 ?_
   refine wp_skip ?_
   refine x_then_n ?_
   refine wp_seq ?_
   refine wp_seq ?_
   refine wp_region_lit ?_
   refine st_y hf rfl rfl rfl (y_assign rfl rfl) ?_
   clear hf a; intro a hf
   refine st_end ?_
   refine x_then_n ?_
   refine wp_block ?_
   obtain ⟨r0_1, hl0_2, hq⟩ := bnd hq
   refine wp_forN _ (fun i1_1 xs1_1 a w => 0 ≤ xs1_1 ∧ Fr 27 [(0, (.slice p0_1 a_.length c0_1)), (1, (.int .i64 (xs1_1))), (5, (.int .i64 (i1_1)))] a ∧ Mem w0 (hp w0) w []) (0) ((a_.length : Int)) hl0_2 ?_ ?_ ?_
   ·
    exact ⟨(by first | omega | (dsimp only; omega)), hf.sub ⟨rfl, rfl, rfl, trivial⟩, hm.pick [] (by decide) rfl⟩
   ·
    clear hf hm
    rintro i1_1 xs1_1 a w ⟨hn1_1, hf, hm⟩ hi1_1 hi1_2 q0_1 hb0_1 ho0_1
    refine wp_seq ?_
    refine wp_seq ?_
    refine wp_region_lit ?_
    refine st_y hf rfl rfl rfl (y_move rfl rfl) ?_
    clear hf a; intro a hf
    refine st_y hf rfl rfl rfl (y_move rfl rfl) ?_
    clear hf a; intro a hf
    refine st_y hf rfl rfl rfl (y_len_slice st_67.und rfl rfl) ?_
    clear hf a; intro a hf
    refine st_y hf rfl rfl rfl (y_lss rfl rfl rfl) ?_
    clear hf a; intro a hf
    refine st_end ?_
    refine x_then_n ?_
    refine cond_t hf rfl (decide_eq_true (by omega)) ?_
    refine wp_skip ?_
    refine x_then_n ?_
    refine wp_seq ?_
    refine wp_block ?_
    refine wp_seq ?_
    refine wp_region_lit ?_
    refine st_y hf rfl rfl rfl (y_move rfl rfl) ?_
    clear hf a; intro a hf
    refine st_y hf rfl rfl rfl (y_move rfl rfl) ?_
    clear hf a; intro a hf
    obtain ⟨x1_1, hx1_1, hb0_1⟩ := bnd hb0_1
    obtain ⟨h1_1, hx1_2⟩ := getI_some.1 hx1_1
    obtain ⟨b1_1, o1_1, c1_1, he⟩ := idx_form' h1 hx1_2
    simp only [Value.slice.injEq, Option.some.injEq] at he; obtain ⟨rfl, _, rfl⟩ := he
    obtain ⟨_, _, hc1_1, hr1_1⟩ := ro_get' h1 hx1_2
    obtain ⟨_, _, rfl, rfl, _, _, rfl, rfl, h1_2⟩ := hr1_1
    obtain ⟨v1_1, rfl, -⟩ := id h1_2
    replace h1_2 : GT.rep (hp w0) [v1_1] x1_1.blocks := h1_2
    replace hc1_1 : CellsAt (hp w0) b1_1 (o1_1 + (i1_1).toNat * 3) [(.int .i64 (x1_1.params)), (.int .i64 (x1_1.regs)), v1_1] := hc1_1
    refine st_y hf rfl rfl rfl (y_indexAddr st_67 rfl rfl rfl h1_1 (idx_lt hx1_2)) ?_
    clear hf a; intro a hf
    refine st_y hf rfl rfl rfl (y_loadN (cs := [(.int .i64 (x1_1.params)), (.int .i64 (x1_1.regs)), v1_1]) Try.isAgg145 Try.sizeOf145 rfl rfl (hc1_1.mono hm.lez)) ?_
    clear hf a; intro a hf
    refine st_y hf rfl rfl rfl (y_move rfl rfl) ?_
    clear hf a; intro a hf
    obtain ⟨r1_1, hx1_3, hb0_1⟩ := bnd hb0_1
    refine st_ef hf rfl rfl rfl (e_call hf rfl Try.call94 rfl (laws_szCode_ok _ x1_1 v1_1 (hm.now h1_2) xs1_1 _ hx1_3)) ?_
    clear hf a; rintro v1_2 w1_1 a ho1_1 hf
    obtain ⟨rfl, hB⟩ := ho1_1
    replace hm := hm.below' hB; clear hB
    refine st_y hf rfl rfl rfl (y_assign rfl rfl) ?_
    clear hf a; intro a hf
    refine st_end ?_
    refine x_then_n ?_
    refine wp_seq ?_
    refine wp_region_lit ?_
    refine st_y hf rfl rfl rfl (y_move rfl rfl) ?_
    clear hf a; intro a hf
    refine st_y hf rfl rfl rfl (y_lss rfl rfl rfl) ?_
    clear hf a; intro a hf
    refine st_end ?_
    refine x_then_n ?_
    rcases bcases (decide (r1_1 < 0)) with h1_3 | h1_3
    ·
     replace hb0_1 := (ite_t h1_3).symm.trans hb0_1
     have h1_4 := of_decide_eq_true h1_3
     refine cond_t hf rfl h1_3 ?_
     refine wp_seq ?_
     refine wp_region_lit ?_
     refine st_y hf rfl rfl rfl (y_assign rfl rfl) ?_
     clear hf a; intro a hf
     refine st_end ?_
     refine x_then_n ?_
     refine wp_ret ?_
     refine x_blk_ret ?_
     refine x_then_ret ?_
     refine x_then_ret ?_
     refine x_blk_ret ?_
     refine x_then_ret ?_
     obtain rfl := Option.some.inj hb0_1
     obtain rfl := ho0_1 _ rfl
     replace hq := sum_r hq
     obtain rfl := Option.some.inj hq
     refine ret_tmp hf Try.results66 rfl ?_
     exact ⟨rfl, hm.below⟩
    ·
     replace hb0_1 := (ite_f h1_3).symm.trans hb0_1
     have h1_5 := of_decide_eq_false h1_3
     refine cond_f hf rfl h1_3 ?_
     refine wp_skip ?_
     refine x_blk_n ?_
     refine x_then_n ?_
     refine wp_region_lit ?_
     refine st_y hf rfl rfl rfl (y_move rfl rfl) ?_
     clear hf a; intro a hf
     refine st_y hf rfl rfl rfl (y_add64 rfl rfl rfl (by omega) (by omega)) ?_
     clear hf a; intro a hf
     refine st_y hf rfl rfl rfl (y_assign rfl rfl) ?_
     clear hf a; intro a hf
     refine st_end ?_
     refine x_then_n ?_
     obtain rfl := Option.some.inj hb0_1
     exact ⟨_, rfl, (by first | omega | (dsimp only; omega)), hf.sub ⟨rfl, rfl, rfl, trivial⟩, hm.pick [] (by decide) rfl⟩
   ·
    clear hf hm
    rintro i0_1 xs0_1 a w ⟨hn0_1, hf, hm⟩ hi0_1 hi0_2 rfl
    replace hq := sum_l hq
    refine wp_seq ?_
    refine wp_seq ?_
    refine wp_region_lit ?_
    refine st_y hf rfl rfl rfl (y_move rfl rfl) ?_
    clear hf a; intro a hf
    refine st_y hf rfl rfl rfl (y_move rfl rfl) ?_
    clear hf a; intro a hf
    refine st_y hf rfl rfl rfl (y_len_slice st_67.und rfl rfl) ?_
    clear hf a; intro a hf
    refine st_y hf rfl rfl rfl (y_lss rfl rfl rfl) ?_
    clear hf a; intro a hf
    refine st_end ?_
    refine x_then_n ?_
    refine cond_f hf rfl (decide_eq_false (by omega)) ?_
    refine wp_exit ?_
    refine x_then_exit ?_
    refine x_then_exit ?_
    refine x_blk_hit ?_
    refine x_then_n ?_
    refine wp_seq ?_
    refine wp_region_lit ?_
    refine st_y hf rfl rfl rfl (y_move rfl rfl) ?_
    clear hf a; intro a hf
    refine st_y hf rfl rfl rfl (y_assign rfl rfl) ?_
    clear hf a; intro a hf
    refine st_end ?_
    refine x_then_n ?_
    refine wp_ret ?_
    obtain rfl := Option.some.inj hq
    refine ret_tmp hf Try.results66 rfl ?_
    exact ⟨rfl, hm.below⟩

theorem laws_szUnit_ok (w0 : World) (a_ : Unit_) (v1 : Value) (h1 : GT.rep (hp w0) [v1] a_.codes) (left : Int) (r : Int) (hq : laws_szUnit a_ left = some r) :
    Con Try.prog 32 [(.agg #[v1]), (.int .i64 (left))] w0 (fun v w' => v = (.int .i64 (r)) ∧ Below w0.heap.size w0 w') := by
  unfold laws_szUnit at hq
  refine con_body (l := [(0, (.agg #[v1])), (1, (.int .i64 (left)))]) Try.func32 rfl Try.ntmps32 (Args.get ⟨rfl, rfl, trivial⟩) rfl ?_
  intro a hf
  have hm := Mem.start w0
  refine wp_seq ?_
  refine wp_region_lit ?_
  refine st_ef hf rfl rfl rfl (e_box hf hm rfl rfl rfl) ?_
  clear hf a; rintro _ w0_1 a ⟨b0_1, rfl, hm⟩ hf
  refine st_y hf rfl rfl rfl (y_assign rfl rfl) ?_
  clear hf a; intro a hf
  refine st_end ?_
  refine x_then_n ?_
  refine wp_seq ?_
  refine wp_region_lit ?_
  refine st_y hf rfl rfl rfl (y_fieldAddr fo_69_0 rfl rfl) ?_
  clear hf a; intro a hf
  refine st_y hf rfl rfl rfl (y_load1 Try.isAgg67 rfl rfl (hm.blk_cell 0 rfl rfl)) ?_
  clear hf a; intro a hf
  refine st_y hf rfl rfl rfl (y_move rfl rfl) ?_
  clear hf a; intro a hf
  obtain ⟨r0_1, hx0_1, hq⟩ := bnd hq
  refine st_ef hf rfl rfl rfl (e_call hf rfl Try.call66 rfl (laws_szCodeS_ok _ a_.codes v1 (hm.now h1) left _ hx0_1)) ?_
  clear hf a; rintro v0_1 w0_2 a ho0_1 hf
  obtain ⟨rfl, hB⟩ := ho0_1
  replace hm := hm.below' hB; clear hB
  refine st_y hf rfl rfl rfl (y_assign rfl rfl) ?_
  clear hf a; intro a hf
  refine st_end ?_
  refine x_then_n ?_
  refine wp_seq ?_
  refine wp_seq ?_
  refine wp_region_lit ?_
  refine st_y hf rfl rfl rfl (y_move rfl rfl) ?_
  clear hf a; intro a hf
  refine st_y hf rfl rfl rfl (y_lss rfl rfl rfl) ?_
  clear hf a; intro a hf
  refine st_end ?_
  refine x_then_n ?_
  rcases bcases (decide (r0_1 < 0)) with h0_1 | h0_1
  ·
   replace hq := (ite_t h0_1).symm.trans hq
   have h0_2 := of_decide_eq_true h0_1
   refine cond_t hf rfl h0_1 ?_
   refine wp_seq ?_
   refine wp_region_lit ?_
   refine st_y hf rfl rfl rfl (y_assign rfl rfl) ?_
   clear hf a; intro a hf
   refine st_end ?_
   refine x_then_n ?_
   refine wp_ret ?_
   refine x_then_ret ?_
   obtain rfl := Option.some.inj hq
   refine ret_tmp hf Try.results32 rfl ?_
   exact ⟨rfl, hm.below⟩
  ·
   replace hq := (ite_f h0_1).symm.trans hq
   have h0_3 := of_decide_eq_false h0_1
   refine cond_f hf rfl h0_1 ?_
   refine wp_skip ?_
   refine x_then_n ?_
   refine wp_seq ?_
   refine wp_region_lit ?_
   refine st_y hf rfl rfl rfl (y_move rfl rfl) ?_
   clear hf a; intro a hf
   refine st_y hf rfl rfl rfl (y_assign rfl rfl) ?_
   clear hf a; intro a hf
   refine st_end ?_
   refine x_then_n ?_
   refine wp_ret ?_
   obtain rfl := Option.some.inj hq
   refine ret_tmp hf Try.results32 rfl ?_
   exact ⟨rfl, hm.below⟩

theorem laws_toIntS_ok (w0 : World) (a_ : List Int) (v1 : Value) (h1 : GT.rep (hp w0) [v1] a_) (r : (List Int)) (hq : laws_toIntS a_ = some r) :
    Con Try.prog 34 [v1] w0 (fun v w' => ∃ (x1 : Value), v = x1 ∧ Mem w0 (hp w0) w' [ow [x1] r]) := by
  unfold laws_toIntS at hq
  refine con_body (l := [(0, v1)]) Try.func34 rfl Try.ntmps34 (Args.get ⟨rfl, trivial⟩) rfl ?_
  intro a hf
  have hm := Mem.start w0
  refine wp_seq ?_
  refine wp_region_lit ?_
  refine st_y hf rfl rfl rfl (y_assign rfl rfl) ?_
  clear hf a; intro a hf
  refine st_end ?_
  refine x_then_n ?_
  refine wp_seq ?_
  refine wp_region_lit ?_
  refine st_y hf rfl rfl rfl (y_move rfl rfl) ?_
  clear hf a; intro a hf
  obtain ⟨p0_1, c0_1, he, hl0_1⟩ := ro_slice h1
  subst he
  refine st_y hf rfl rfl rfl (y_len_slice st_26.und rfl rfl) ?_
  clear hf a; intro a hf
  obtain ⟨ys0_1, hx0_1, hq⟩ := bnd hq
  obtain ⟨⟨h0_11, h0_12⟩, h0_1e⟩ := makeM_some.1 hx0_1
  refine st_ef hf rfl rfl rfl (e_make (x0 := (0 : Int)) et_26 (fun _ => (Flat.own_iff.2 rfl)) hf hm rfl rfl rfl h0_11 (Int.le_refl _) h0_12) ?_
  clear hf a; rintro v0_1 w0_1 a hm hf
  rw [h0_1e] at hm
  have h0_1l : (ys0_1.length : Int) = (a_.length : Int) := by rw [← h0_1e]; simp only [List.length_replicate]; omega
  refine st_y hf rfl rfl rfl (y_assign rfl rfl) ?_
  clear hf a; intro a hf
  refine st_end ?_
  refine x_then_n ?_
  refine wp_seq ?_
  refine wp_seq ?_
  refine wp_region_lit ?_
  refine st_y hf rfl rfl rfl (y_assign rfl rfl) ?_
  clear hf a; intro a hf
  refine st_end ?_
  refine x_then_n ?_
  obtain ⟨p0_2, c0_2, he, hl0_2⟩ := ro_slice (hm.ow_rep 0 rfl)
  subst he
  refine wp_block ?_
  obtain ⟨r0_1, hl0_3, hq⟩ := bnd hq
  refine wp_forN _ (fun i1_1 xs1_1 a w => Fr 22 [(0, (.slice p0_1 a_.length c0_1)), (3, (.slice p0_2 ys0_1.length c0_2)), (4, (.int .i64 (i1_1)))] a ∧ Mem w0 (hp w0) w [ow [(.slice p0_2 ys0_1.length c0_2)] xs1_1]) (0) ((a_.length : Int)) hl0_3 ?_ ?_ ?_
  ·
   exact ⟨hf.sub ⟨rfl, rfl, rfl, trivial⟩, hm.pick [0] (by decide) rfl⟩
  ·
   clear hf hm
   rintro i1_1 xs1_1 a w ⟨hf, hm⟩ hi1_1 hi1_2 q0_1 hb0_1 ho0_1
   refine wp_seq ?_
   refine wp_seq ?_
   refine wp_region_lit ?_
   refine st_y hf rfl rfl rfl (y_move rfl rfl) ?_
   clear hf a; intro a hf
   refine st_y hf rfl rfl rfl (y_move rfl rfl) ?_
   clear hf a; intro a hf
   refine st_y hf rfl rfl rfl (y_len_slice st_26.und rfl rfl) ?_
   clear hf a; intro a hf
   refine st_y hf rfl rfl rfl (y_lss rfl rfl rfl) ?_
   clear hf a; intro a hf
   refine st_end ?_
   refine x_then_n ?_
   refine cond_t hf rfl (decide_eq_true (by omega)) ?_
   refine wp_skip ?_
   refine x_then_n ?_
   refine wp_seq ?_
   refine wp_block ?_
   refine wp_region_lit ?_
   refine st_y hf rfl rfl rfl (y_move rfl rfl) ?_
   clear hf a; intro a hf
   refine st_y hf rfl rfl rfl (y_move rfl rfl) ?_
   clear hf a; intro a hf
   refine st_y hf rfl rfl rfl (y_move rfl rfl) ?_
   clear hf a; intro a hf
   refine st_y hf rfl rfl rfl (y_move rfl rfl) ?_
   clear hf a; intro a hf
   obtain ⟨x1_1, hx1_1, hb0_1⟩ := bnd hb0_1
   obtain ⟨h1_1, hx1_2⟩ := getI_some.1 hx1_1
   obtain ⟨b1_1, o1_1, c1_1, he⟩ := idx_form h1 hx1_2
   simp only [Value.slice.injEq, Option.some.injEq] at he; obtain ⟨rfl, _, rfl⟩ := he
   refine st_y hf rfl rfl rfl (y_indexAddr st_26 rfl rfl rfl h1_1 (idx_lt hx1_2)) ?_
   clear hf a; intro a hf
   refine st_y hf rfl rfl rfl (y_load1 Try.isAgg3 rfl rfl ((flat_cells (cs := [(.int .i64 (x1_1))]) (hm.now h1) hx1_2 rfl).cell (j := 0) rfl)) ?_
   clear hf a; intro a hf
   obtain ⟨x1_2, hx1_3, hb0_1⟩ := bnd hb0_1
   obtain ⟨h1_2, hx1_4⟩ := getI_some.1 hx1_3
   obtain ⟨b1_2, o1_2, c1_2, he⟩ := idx_form (hm.ow_rep 0 rfl) hx1_4
   simp only [Value.slice.injEq, Option.some.injEq] at he; obtain ⟨rfl, _, rfl⟩ := he
   have hL1_1 := rep_slice_len (hm.ow_rep 0 rfl)
   refine st_y hf rfl rfl rfl (y_indexAddr st_26 rfl rfl rfl h1_2 (idx_lt2 hx1_4 hL1_1)) ?_
   clear hf a; intro a hf
   refine st_ef0 hf rfl rfl (e_setElem (x1 := x1_1) (j := 0) (vs := [(.int .i64 (x1_1))]) 0 hf hm rfl hx1_4 rfl Try.sizeOf3 rfl rfl rfl (one_cons rfl one_nil) rfl rfl) ?_
   clear hf a; rintro _ w1_1 a hm hf
   have hx1_5 := List.getElem?_set_self (a := x1_1) (idx_lt hx1_4)
   refine st_end ?_
   refine x_blk_n ?_
   refine x_then_n ?_
   refine wp_region_lit ?_
   refine st_y hf rfl rfl rfl (y_move rfl rfl) ?_
   clear hf a; intro a hf
   refine st_y hf rfl rfl rfl (y_add64 rfl rfl rfl (by omega) (by omega)) ?_
   clear hf a; intro a hf
   refine st_y hf rfl rfl rfl (y_assign rfl rfl) ?_
   clear hf a; intro a hf
   refine st_end ?_
   refine x_then_n ?_
   obtain rfl := Option.some.inj hb0_1
   exact ⟨_, rfl, hf.sub ⟨rfl, rfl, rfl, trivial⟩, hm.pick [0] (by decide) rfl⟩
  ·
   clear hf hm
   rintro i0_1 xs0_1 a w ⟨hf, hm⟩ hi0_1 hi0_2 rfl
   replace hq := sum_l hq
   refine wp_seq ?_
   refine wp_seq ?_
   refine wp_region_lit ?_
   refine st_y hf rfl rfl rfl (y_move rfl rfl) ?_
   clear hf a; intro a hf
   refine st_y hf rfl rfl rfl (y_move rfl rfl) ?_
   clear hf a; intro a hf
   refine st_y hf rfl rfl rfl (y_len_slice st_26.und rfl rfl) ?_
   clear hf a; intro a hf
   refine st_y hf rfl rfl rfl (y_lss rfl rfl rfl) ?_
   clear hf a; intro a hf
   refine st_end ?_
   refine x_then_n ?_
   refine cond_f hf rfl (decide_eq_false (by omega)) ?_
   refine wp_exit ?_
   refine x_then_exit ?_
   refine x_then_exit ?_
   refine x_blk_hit ?_
   refine x_then_n ?_
   refine wp_seq ?_
   refine wp_region_lit ?_
   refine st_y hf rfl rfl rfl (y_move rfl rfl) ?_
   clear hf a; intro a hf
   refine st_y hf rfl rfl rfl (y_assign rfl rfl) ?_
   clear hf a; intro a hf
   refine st_end ?_
   refine x_then_n ?_
   refine wp_ret ?_
   obtain rfl := Option.some.inj hq
   refine ret_tmp hf Try.results34 rfl ?_
   exact ⟨(.slice p0_2 ys0_1.length c0_2), rfl, hm.pick [0] (by decide) rfl⟩

theorem laws_toPhi_ok (w0 : World) (a_ : Phi_) (v1 : Value) (h1 : GT.rep (hp w0) [v1] a_.args) (r : Phi_) (hq : laws_toPhi a_ = some r) :
    Con Try.prog 189 [(.agg #[(.int .i64 (a_.to)), v1])] w0 (fun v w' => ∃ (x1 : Value), v = (.agg #[(.int .i64 (r.to)), x1]) ∧ Mem w0 (hp w0) w' [ow [x1] r.args]) := by
  unfold laws_toPhi at hq
  refine con_body (l := [(0, (.agg #[(.int .i64 (a_.to)), v1]))]) Try.func189 rfl Try.ntmps189 (Args.get ⟨rfl, trivial⟩) rfl ?_
  intro a hf
  have hm := Mem.start w0
  refine wp_seq ?_
  refine wp_region_lit ?_
  refine st_ef hf rfl rfl rfl (e_box hf hm rfl rfl rfl) ?_
  clear hf a; rintro _ w0_1 a ⟨b0_1, rfl, hm⟩ hf
  refine st_ef hf rfl rfl rfl (e_alloc hm Try.zeroValue127 rfl rfl) ?_
  clear hf a; rintro _ w0_2 a ⟨b0_2, rfl, hm⟩ hf
  refine st_end ?_
  refine x_then_n ?_
  refine wp_seq ?_
  refine wp_region_lit ?_
  refine st_ef hf rfl rfl rfl (e_alloc hm Try.zeroValue127 rfl rfl) ?_
  clear hf a; rintro _ w0_3 a ⟨b0_3, rfl, hm⟩ hf
  refine st_end ?_
  refine x_then_n ?_
  refine wp_seq ?_
  refine wp_region_lit ?_
  refine st_y hf rfl rfl rfl (y_fieldAddr fo_217_0 rfl rfl) ?_
  clear hf a; intro a hf
  refine st_y hf rfl rfl rfl (y_load1 Try.isAgg3 rfl rfl (hm.blk_cell 2 rfl rfl)) ?_
  clear hf a; intro a hf
  refine st_y hf rfl rfl rfl (y_fieldAddr fo_127_0 rfl rfl) ?_
  clear hf a; intro a hf
  refine st_ef0 hf rfl rfl (e_store1 0 hf hm rfl Try.sizeOf3 rfl rfl rfl rfl rfl) ?_
  clear hf a; rintro _ w0_4 a hm hf
  refine st_end ?_
  refine x_then_n ?_
  refine wp_seq ?_
  refine wp_region_lit ?_
  refine st_y hf rfl rfl rfl (y_fieldAddr fo_217_1 rfl rfl) ?_
  clear hf a; intro a hf
  refine st_y hf rfl rfl rfl (y_load1 Try.isAgg26 rfl rfl (hm.blk_cell 2 rfl rfl)) ?_
  clear hf a; intro a hf
  obtain ⟨r0_1, hx0_1, hq⟩ := bnd hq
  refine st_ef hf rfl rfl rfl (e_call hf rfl Try.call34 rfl (laws_toIntS_ok _ a_.args v1 (hm.now h1) _ hx0_1)) ?_
  clear hf a; rintro v0_1 w0_5 a ho0_1 hf
  obtain ⟨_, rfl, hB⟩ := ho0_1
  replace hm := hm.give hB; clear hB
  refine st_y hf rfl rfl rfl (y_fieldAddr fo_127_1 rfl rfl) ?_
  clear hf a; intro a hf
  refine st_ef0 hf rfl rfl (e_store1 1 hf hm rfl Try.sizeOf26 rfl rfl rfl (rep_one (hm.ow_rep 0 rfl)) rfl) ?_
  clear hf a; rintro _ w0_6 a hm hf
  refine st_end ?_
  refine x_then_n ?_
  refine wp_seq ?_
  refine wp_region_lit ?_
  refine st_y hf rfl rfl rfl (y_loadN (cs := [(.int .i64 (a_.to)), v0_1]) Try.isAgg127 Try.sizeOf127 rfl rfl (hm.blk_at 1 rfl)) ?_
  clear hf a; intro a hf
  refine st_ef0 hf rfl rfl (e_storeN 2 hf hm rfl Try.sizeOf127 rfl rfl rfl (one_cons rfl (one_cons (rep_one (hm.ow_rep 0 rfl)) one_nil)) rfl rfl) ?_
  clear hf a; rintro _ w0_7 a hm hf
  refine st_end ?_
  refine x_then_n ?_
  refine wp_ret ?_
  obtain rfl := Option.some.inj hq
  refine ret_cell 2 hf Try.results189 hm rfl rfl Try.isAgg127 Try.sizeOf127 ?_
  exact ⟨v0_1, rfl, hm.pick [0] (by decide) rfl⟩

theorem laws_toPhiS_ok (w0 : World) (a_ : List Phi_) (v1 : Value) (h1 : GT.rep (hp w0) [v1] a_) (r : (List Phi_)) (hq : laws_toPhiS a_ = some r) :
    Con Try.prog 177 [v1] w0 (fun v w' => ∃ (x1 : Value), v = x1 ∧ Mem w0 (hp w0) w' [ow [x1] r]) := by
  unfold laws_toPhiS at hq
  refine con_body (l := [(0, v1)]) Try.func177 rfl Try.ntmps177 (Args.get ⟨rfl, trivial⟩) rfl ?_
  intro a hf
  have hm := Mem.start w0
  refine wp_seq ?_
  refine wp_region_lit ?_
  refine st_y hf rfl rfl rfl (y_assign rfl rfl) ?_
  clear hf a; intro a hf
  refine st_end ?_
  refine x_then_n ?_
  refine wp_seq ?_
  refine wp_region_lit ?_
  refine st_y hf rfl rfl rfl (y_move rfl rfl) ?_
  clear hf a; intro a hf
  obtain ⟨p0_1, c0_1, he, hl0_1⟩ := ro_slice h1
  subst he
  refine st_y hf rfl rfl rfl (y_len_slice st_186.und rfl rfl) ?_
  clear hf a; intro a hf
  obtain ⟨ys0_1, hx0_1, hq⟩ := bnd hq
  obtain ⟨⟨h0_11, h0_12⟩, h0_1e⟩ := makeM_some.1 hx0_1
  refine st_ef hf rfl rfl rfl (e_make (x0 := ((⟨0, []⟩ : Phi_) : Phi_)) et_59 (fun _ => ⟨[(.int .i64 (0))], [(.slice none 0 0)], rfl, fun _ => False, fun _ => False, fun _ h => h.elim, fun _ h => h.elim, fun _ h => h.elim, (Flat.own_iff.2 rfl), (own_list.2 (.inl ⟨rfl, rfl⟩))⟩) hf hm rfl rfl rfl h0_11 (Int.le_refl _) h0_12) ?_
  clear hf a; rintro v0_1 w0_1 a hm hf
  rw [h0_1e] at hm
  have h0_1l : (ys0_1.length : Int) = (a_.length : Int) := by rw [← h0_1e]; simp only [List.length_replicate]; omega
  refine st_y hf rfl rfl rfl (y_assign rfl rfl) ?_
  clear hf a; intro a hf
  refine st_end ?_
  refine x_then_n ?_
  refine wp_seq ?_
  refine wp_seq ?_
  refine wp_region_lit ?_
  refine st_y hf rfl rfl rfl (y_assign rfl rfl) ?_
  clear hf a; intro a hf
  refine st_end ?_
  refine x_then_n ?_
  obtain ⟨p0_2, c0_2, he, hl0_2⟩ := ro_slice (hm.ow_rep 0 rfl)
  subst he
  refine wp_block ?_
  obtain ⟨r0_1, hl0_3, hq⟩ := bnd hq
  refine wp_forN _ (fun i1_1 xs1_1 a w => Fr 23 [(0, (.slice p0_1 a_.length c0_1)), (3, (.slice p0_2 ys0_1.length c0_2)), (4, (.int .i64 (i1_1)))] a ∧ Mem w0 (hp w0) w [ow [(.slice p0_2 ys0_1.length c0_2)] xs1_1]) (0) ((a_.length : Int)) hl0_3 ?_ ?_ ?_
  ·
   exact ⟨hf.sub ⟨rfl, rfl, rfl, trivial⟩, hm.pick [0] (by decide) rfl⟩
  ·
   clear hf hm
   rintro i1_1 xs1_1 a w ⟨hf, hm⟩ hi1_1 hi1_2 q0_1 hb0_1 ho0_1
   refine wp_seq ?_
   refine wp_seq ?_
   refine wp_region_lit ?_
   refine st_y hf rfl rfl rfl (y_move rfl rfl) ?_
   clear hf a; intro a hf
   refine st_y hf rfl rfl rfl (y_move rfl rfl) ?_
   clear hf a; intro a hf
   refine st_y hf rfl rfl rfl (y_len_slice st_186.und rfl rfl) ?_
   clear hf a; intro a hf
   refine st_y hf rfl rfl rfl (y_lss rfl rfl rfl) ?_
   clear hf a; intro a hf
   refine st_end ?_
   refine x_then_n ?_
   refine cond_t hf rfl (decide_eq_true (by omega)) ?_
   refine wp_skip ?_
   refine x_then_n ?_
   refine wp_seq ?_
   refine wp_block ?_
   refine wp_region_lit ?_
   refine st_y hf rfl rfl rfl (y_move rfl rfl) ?_
   clear hf a; intro a hf
   refine st_y hf rfl rfl rfl (y_move rfl rfl) ?_
   clear hf a; intro a hf
   refine st_y hf rfl rfl rfl (y_move rfl rfl) ?_
   clear hf a; intro a hf
   refine st_y hf rfl rfl rfl (y_move rfl rfl) ?_
   clear hf a; intro a hf
   obtain ⟨x1_1, hx1_1, hb0_1⟩ := bnd hb0_1
   obtain ⟨h1_1, hx1_2⟩ := getI_some.1 hx1_1
   obtain ⟨b1_1, o1_1, c1_1, he⟩ := idx_form' h1 hx1_2
   simp only [Value.slice.injEq, Option.some.injEq] at he; obtain ⟨rfl, _, rfl⟩ := he
   obtain ⟨_, _, hc1_1, hr1_1⟩ := ro_get' h1 hx1_2
   obtain ⟨_, _, rfl, rfl, h1_2⟩ := hr1_1
   obtain ⟨v1_1, rfl, -⟩ := id h1_2
   replace h1_2 : GT.rep (hp w0) [v1_1] x1_1.args := h1_2
   replace hc1_1 : CellsAt (hp w0) b1_1 (o1_1 + (i1_1).toNat * 2) [(.int .i64 (x1_1.to)), v1_1] := hc1_1
   refine st_y hf rfl rfl rfl (y_indexAddr st_186 rfl rfl rfl h1_1 (idx_lt hx1_2)) ?_
   clear hf a; intro a hf
   refine st_y hf rfl rfl rfl (y_loadN (cs := [(.int .i64 (x1_1.to)), v1_1]) Try.isAgg217 Try.sizeOf217 rfl rfl (hc1_1.mono hm.lez)) ?_
   clear hf a; intro a hf
   obtain ⟨r1_1, hx1_3, hb0_1⟩ := bnd hb0_1
   refine st_ef hf rfl rfl rfl (e_call hf rfl Try.call189 rfl (laws_toPhi_ok _ x1_1 v1_1 (hm.now h1_2) _ hx1_3)) ?_
   clear hf a; rintro v1_2 w1_1 a ho1_1 hf
   obtain ⟨v1_3, rfl, hB⟩ := ho1_1
   replace hm := hm.give hB; clear hB
   obtain ⟨x1_2, hx1_4, hb0_1⟩ := bnd hb0_1
   obtain ⟨h1_3, hx1_5⟩ := getI_some.1 hx1_4
   obtain ⟨b1_2, o1_2, c1_2, he⟩ := idx_form' (hm.ow_rep 1 rfl) hx1_5
   simp only [Value.slice.injEq, Option.some.injEq] at he; obtain ⟨rfl, _, rfl⟩ := he
   obtain ⟨_, _, hc1_2, hr1_2⟩ := ro_get' (hm.ow_rep 1 rfl) hx1_5
   obtain ⟨_, _, rfl, rfl, h1_4⟩ := hr1_2
   obtain ⟨v1_4, rfl, -⟩ := id h1_4
   replace h1_4 : GT.rep (hp _) [v1_4] x1_2.args := h1_4
   replace hc1_2 : CellsAt (hp _) b1_2 (o1_2 + (i1_1).toNat * 2) [(.int .i64 (x1_2.to)), v1_4] := hc1_2
   have hL1_1 := rep_slice_len (hm.ow_rep 1 rfl)
   refine st_y hf rfl rfl rfl (y_indexAddr st_59 rfl rfl rfl h1_3 (idx_lt2 hx1_5 hL1_1)) ?_
   clear hf a; intro a hf
   replace hm := hm.own0 (c := [(.int .i64 (r1_1.to))]) (x := (r1_1.to : Int)) (fun h => Flat.own_iff.2 rfl)
   replace hm := (hm.pair (x := (r1_1.to : Int)) (y := (r1_1.args : List Int)) 0 1 (by decide) rfl rfl).pick (L' := [ow [(.int .i64 (r1_1.to)), v1_3] ((r1_1.to, r1_1.args) : Int × (List Int)), ow [(.slice (some ⟨b1_2, o1_2, none⟩) ys0_1.length c0_2)] xs1_1]) [0, 2] (by decide) rfl
   replace hm := hm.imp (c' := ow [(.int .i64 (r1_1.to)), v1_3] (r1_1 : Phi_)) 0 rfl (fun F h0 => h0)
   replace hm := (hm.both 1 0 (by decide) rfl rfl).pick (L' := [both (ow [(.slice (some ⟨b1_2, o1_2, none⟩) ys0_1.length c0_2)] xs1_1) (ow [(.int .i64 (r1_1.to)), v1_3] (r1_1 : Phi_))]) [1] (by decide) rfl
   refine st_ef0 hf rfl rfl (e_putElem (x1 := (r1_1 : Phi_)) (vs := [(.int .i64 (r1_1.to)), v1_3]) 0 hf hm rfl hx1_5 rfl Try.sizeOf127 rfl rfl rfl rfl) ?_
   clear hf a; rintro _ w1_2 a hm hf
   have hx1_6 := List.getElem?_set_self (a := (r1_1 : Phi_)) (idx_lt hx1_5)
   refine st_end ?_
   refine x_blk_n ?_
   refine x_then_n ?_
   refine wp_region_lit ?_
   refine st_y hf rfl rfl rfl (y_move rfl rfl) ?_
   clear hf a; intro a hf
   refine st_y hf rfl rfl rfl (y_add64 rfl rfl rfl (by omega) (by omega)) ?_
   clear hf a; intro a hf
   refine st_y hf rfl rfl rfl (y_assign rfl rfl) ?_
   clear hf a; intro a hf
   refine st_end ?_
   refine x_then_n ?_
   obtain rfl := Option.some.inj hb0_1
   exact ⟨_, rfl, hf.sub ⟨rfl, rfl, rfl, trivial⟩, hm.pick [0] (by decide) rfl⟩
  ·
   clear hf hm
   rintro i0_1 xs0_1 a w ⟨hf, hm⟩ hi0_1 hi0_2 rfl
   replace hq := sum_l hq
   refine wp_seq ?_
   refine wp_seq ?_
   refine wp_region_lit ?_
   refine st_y hf rfl rfl rfl (y_move rfl rfl) ?_
   clear hf a; intro a hf
   refine st_y hf rfl rfl rfl (y_move rfl rfl) ?_
   clear hf a; intro a hf
   refine st_y hf rfl rfl rfl (y_len_slice st_186.und rfl rfl) ?_
   clear hf a; intro a hf
   refine st_y hf rfl rfl rfl (y_lss rfl rfl rfl) ?_
   clear hf a; intro a hf
   refine st_end ?_
   refine x_then_n ?_
   refine cond_f hf rfl (decide_eq_false (by omega)) ?_
   refine wp_exit ?_
   refine x_then_exit ?_
   refine x_then_exit ?_
   refine x_blk_hit ?_
   refine x_then_n ?_
   refine wp_seq ?_
   refine wp_region_lit ?_
   refine st_y hf rfl rfl rfl (y_move rfl rfl) ?_
   clear hf a; intro a hf
   refine st_y hf rfl rfl rfl (y_assign rfl rfl) ?_
   clear hf a; intro a hf
   refine st_end ?_
   refine x_then_n ?_
   refine wp_ret ?_
   obtain rfl := Option.some.inj hq
   refine ret_tmp hf Try.results177 rfl ?_
   exact ⟨(.slice p0_2 ys0_1.length c0_2), rfl, hm.pick [0] (by decide) rfl⟩

theorem laws_toIns_ok (w0 : World) (a_ : Ins_) (v1 : Value) (h1 : GT.rep (hp w0) [v1] a_.args) (r : Ins_) (hq : laws_toIns a_ = some r) :
    Con Try.prog 190 [(.agg #[(.int .i64 (a_.op)), (.int .i64 (a_.to)), v1, (.int .i64 (a_.n_))])] w0 (fun v w' => ∃ (x1 : Value), v = (.agg #[(.int .i64 (r.op)), (.int .i64 (r.to)), x1, (.int .i64 (r.n_))]) ∧ Mem w0 (hp w0) w' [ow [x1] r.args]) := by
  unfold laws_toIns at hq
  refine con_body (l := [(0, (.agg #[(.int .i64 (a_.op)), (.int .i64 (a_.to)), v1, (.int .i64 (a_.n_))]))]) Try.func190 rfl Try.ntmps190 (Args.get ⟨rfl, trivial⟩) rfl ?_
  intro a hf
  have hm := Mem.start w0
  refine wp_seq ?_
  refine wp_region_lit ?_
  refine st_ef hf rfl rfl rfl (e_box hf hm rfl rfl rfl) ?_
  clear hf a; rintro _ w0_1 a ⟨b0_1, rfl, hm⟩ hf
  refine st_ef hf rfl rfl rfl (e_alloc hm Try.zeroValue57 rfl rfl) ?_
  clear hf a; rintro _ w0_2 a ⟨b0_2, rfl, hm⟩ hf
  refine st_end ?_
  refine x_then_n ?_
  refine wp_seq ?_
  refine wp_region_lit ?_
  refine st_ef hf rfl rfl rfl (e_alloc hm Try.zeroValue57 rfl rfl) ?_
  clear hf a; rintro _ w0_3 a ⟨b0_3, rfl, hm⟩ hf
  refine st_end ?_
  refine x_then_n ?_
  refine wp_seq ?_
  refine wp_region_lit ?_
  refine st_y hf rfl rfl rfl (y_fieldAddr fo_219_0 rfl rfl) ?_
  clear hf a; intro a hf
  refine st_y hf rfl rfl rfl (y_load1 Try.isAgg3 rfl rfl (hm.blk_cell 2 rfl rfl)) ?_
  clear hf a; intro a hf
  refine st_y hf rfl rfl rfl (y_fieldAddr fo_57_0 rfl rfl) ?_
  clear hf a; intro a hf
  refine st_ef0 hf rfl rfl (e_store1 0 hf hm rfl Try.sizeOf3 rfl rfl rfl rfl rfl) ?_
  clear hf a; rintro _ w0_4 a hm hf
  refine st_end ?_
  refine x_then_n ?_
  refine wp_seq ?_
  refine wp_region_lit ?_
  refine st_y hf rfl rfl rfl (y_fieldAddr fo_219_1 rfl rfl) ?_
  clear hf a; intro a hf
  refine st_y hf rfl rfl rfl (y_load1 Try.isAgg3 rfl rfl (hm.blk_cell 2 rfl rfl)) ?_
  clear hf a; intro a hf
  refine st_y hf rfl rfl rfl (y_fieldAddr fo_57_1 rfl rfl) ?_
  clear hf a; intro a hf
  refine st_ef0 hf rfl rfl (e_store1 0 hf hm rfl Try.sizeOf3 rfl rfl rfl rfl rfl) ?_
  clear hf a; rintro _ w0_5 a hm hf
  refine st_end ?_
  refine x_then_n ?_
  refine wp_seq ?_
  refine wp_region_lit ?_
  refine st_y hf rfl rfl rfl (y_fieldAddr fo_219_2 rfl rfl) ?_
  clear hf a; intro a hf
  refine st_y hf rfl rfl rfl (y_load1 Try.isAgg26 rfl rfl (hm.blk_cell 2 rfl rfl)) ?_
  clear hf a; intro a hf
  obtain ⟨r0_1, hx0_1, hq⟩ := bnd hq
  refine st_ef hf rfl rfl rfl (e_call hf rfl Try.call34 rfl (laws_toIntS_ok _ a_.args v1 (hm.now h1) _ hx0_1)) ?_
  clear hf a; rintro v0_1 w0_6 a ho0_1 hf
  obtain ⟨_, rfl, hB⟩ := ho0_1
  replace hm := hm.give hB; clear hB
  refine st_y hf rfl rfl rfl (y_fieldAddr fo_57_2 rfl rfl) ?_
  clear hf a; intro a hf
  refine st_ef0 hf rfl rfl (e_store1 1 hf hm rfl Try.sizeOf26 rfl rfl rfl (rep_one (hm.ow_rep 0 rfl)) rfl) ?_
  clear hf a; rintro _ w0_7 a hm hf
  refine st_end ?_
  refine x_then_n ?_
  refine wp_seq ?_
  refine wp_region_lit ?_
  refine st_y hf rfl rfl rfl (y_fieldAddr fo_219_3 rfl rfl) ?_
  clear hf a; intro a hf
  refine st_y hf rfl rfl rfl (y_load1 Try.isAgg3 rfl rfl (hm.blk_cell 3 rfl rfl)) ?_
  clear hf a; intro a hf
  refine st_y hf rfl rfl rfl (y_fieldAddr fo_57_3 rfl rfl) ?_
  clear hf a; intro a hf
  refine st_ef0 hf rfl rfl (e_store1 1 hf hm rfl Try.sizeOf3 rfl rfl rfl rfl rfl) ?_
  clear hf a; rintro _ w0_8 a hm hf
  refine st_end ?_
  refine x_then_n ?_
  refine wp_seq ?_
  refine wp_region_lit ?_
  refine st_y hf rfl rfl rfl (y_loadN (cs := [(.int .i64 (a_.op)), (.int .i64 (a_.to)), v0_1, (.int .i64 (a_.n_))]) Try.isAgg57 Try.sizeOf57 rfl rfl (hm.blk_at 1 rfl)) ?_
  clear hf a; intro a hf
  refine st_ef0 hf rfl rfl (e_storeN 2 hf hm rfl Try.sizeOf57 rfl rfl rfl (one_cons rfl (one_cons rfl (one_cons (rep_one (hm.ow_rep 0 rfl)) (one_cons rfl one_nil)))) rfl rfl) ?_
  clear hf a; rintro _ w0_9 a hm hf
  refine st_end ?_
  refine x_then_n ?_
  refine wp_ret ?_
  obtain rfl := Option.some.inj hq
  refine ret_cell 2 hf Try.results190 hm rfl rfl Try.isAgg57 Try.sizeOf57 ?_
  exact ⟨v0_1, rfl, hm.pick [0] (by decide) rfl⟩

theorem laws_toInsS_ok (w0 : World) (a_ : List Ins_) (v1 : Value) (h1 : GT.rep (hp w0) [v1] a_) (r : (List Ins_)) (hq : laws_toInsS a_ = some r) :
    Con Try.prog 178 [v1] w0 (fun v w' => ∃ (x1 : Value), v = x1 ∧ Mem w0 (hp w0) w' [ow [x1] r]) := by
  unfold laws_toInsS at hq
  refine con_body (l := [(0, v1)]) Try.func178 rfl Try.ntmps178 (Args.get ⟨rfl, trivial⟩) rfl ?_
  intro a hf
  have hm := Mem.start w0
  refine wp_seq ?_
  refine wp_region_lit ?_
  refine st_y hf rfl rfl rfl (y_assign rfl rfl) ?_
  clear hf a; intro a hf
  refine st_end ?_
  refine x_then_n ?_
  refine wp_seq ?_
  refine wp_region_lit ?_
  refine st_y hf rfl rfl rfl (y_move rfl rfl) ?_
  clear hf a; intro a hf
  obtain ⟨p0_1, c0_1, he, hl0_1⟩ := ro_slice h1
  subst he
  refine st_y hf rfl rfl rfl (y_len_slice st_187.und rfl rfl) ?_
  clear hf a; intro a hf
  obtain ⟨ys0_1, hx0_1, hq⟩ := bnd hq
  obtain ⟨⟨h0_11, h0_12⟩, h0_1e⟩ := makeM_some.1 hx0_1
  refine st_ef hf rfl rfl rfl (e_make (x0 := ((⟨0, 0, [], 0⟩ : Ins_) : Ins_)) et_58 (fun _ => ⟨[(.int .i64 (0))], [(.int .i64 (0)), (.slice none 0 0), (.int .i64 (0))], rfl, fun _ => False, fun _ => False, fun _ h => h.elim, fun _ h => h.elim, fun _ h => h.elim, (Flat.own_iff.2 rfl), ⟨[(.int .i64 (0))], [(.slice none 0 0), (.int .i64 (0))], rfl, fun _ => False, fun _ => False, fun _ h => h.elim, fun _ h => h.elim, fun _ h => h.elim, (Flat.own_iff.2 rfl), ⟨[(.slice none 0 0)], [(.int .i64 (0))], rfl, fun _ => False, fun _ => False, fun _ h => h.elim, fun _ h => h.elim, fun _ h => h.elim, (own_list.2 (.inl ⟨rfl, rfl⟩)), (Flat.own_iff.2 rfl)⟩⟩⟩) hf hm rfl rfl rfl h0_11 (Int.le_refl _) h0_12) ?_
  clear hf a; rintro v0_1 w0_1 a hm hf
  rw [h0_1e] at hm
  have h0_1l : (ys0_1.length : Int) = (a_.length : Int) := by rw [← h0_1e]; simp only [List.length_replicate]; omega
  refine st_y hf rfl rfl rfl (y_assign rfl rfl) ?_
  clear hf a; intro a hf
  refine st_end ?_
  refine x_then_n ?_
  refine wp_seq ?_
  refine wp_seq ?_
  refine wp_region_lit ?_
  refine st_y hf rfl rfl rfl (y_assign rfl rfl) ?_
  clear hf a; intro a hf
  refine st_end ?_
  refine x_then_n ?_
  obtain ⟨p0_2, c0_2, he, hl0_2⟩ := ro_slice (hm.ow_rep 0 rfl)
  subst he
  refine wp_block ?_
  obtain ⟨r0_1, hl0_3, hq⟩ := bnd hq
  refine wp_forN _ (fun i1_1 xs1_1 a w => Fr 23 [(0, (.slice p0_1 a_.length c0_1)), (3, (.slice p0_2 ys0_1.length c0_2)), (4, (.int .i64 (i1_1)))] a ∧ Mem w0 (hp w0) w [ow [(.slice p0_2 ys0_1.length c0_2)] xs1_1]) (0) ((a_.length : Int)) hl0_3 ?_ ?_ ?_
  ·
   exact ⟨hf.sub ⟨rfl, rfl, rfl, trivial⟩, hm.pick [0] (by decide) rfl⟩
  ·
   clear hf hm
   rintro i1_1 xs1_1 a w ⟨hf, hm⟩ hi1_1 hi1_2 q0_1 hb0_1 ho0_1
   refine wp_seq ?_
   refine wp_seq ?_
   refine wp_region_lit ?_
   refine st_y hf rfl rfl rfl (y_move rfl rfl) ?_
   clear hf a; intro a hf
   refine st_y hf rfl rfl rfl (y_move rfl rfl) ?_
   clear hf a; intro a hf
   refine st_y hf rfl rfl rfl (y_len_slice st_187.und rfl rfl) ?_
   clear hf a; intro a hf
   refine st_y hf rfl rfl rfl (y_lss rfl rfl rfl) ?_
   clear hf a; intro a hf
   refine st_end ?_
   refine x_then_n ?_
   refine cond_t hf rfl (decide_eq_true (by omega)) ?_
   refine wp_skip ?_
   refine x_then_n ?_
   refine wp_seq ?_
   refine wp_block ?_
   refine wp_region_lit ?_
   refine st_y hf rfl rfl rfl (y_move rfl rfl) ?_
   clear hf a; intro a hf
   refine st_y hf rfl rfl rfl (y_move rfl rfl) ?_
   clear hf a; intro a hf
   refine st_y hf rfl rfl rfl (y_move rfl rfl) ?_
   clear hf a; intro a hf
   refine st_y hf rfl rfl rfl (y_move rfl rfl) ?_
   clear hf a; intro a hf
   obtain ⟨x1_1, hx1_1, hb0_1⟩ := bnd hb0_1
   obtain ⟨h1_1, hx1_2⟩ := getI_some.1 hx1_1
   obtain ⟨b1_1, o1_1, c1_1, he⟩ := idx_form' h1 hx1_2
   simp only [Value.slice.injEq, Option.some.injEq] at he; obtain ⟨rfl, _, rfl⟩ := he
   obtain ⟨_, _, hc1_1, hr1_1⟩ := ro_get' h1 hx1_2
   obtain ⟨_, _, rfl, rfl, _, _, rfl, rfl, _, _, rfl, h1_2, rfl⟩ := hr1_1
   obtain ⟨v1_1, rfl, -⟩ := id h1_2
   replace h1_2 : GT.rep (hp w0) [v1_1] x1_1.args := h1_2
   replace hc1_1 : CellsAt (hp w0) b1_1 (o1_1 + (i1_1).toNat * 4) [(.int .i64 (x1_1.op)), (.int .i64 (x1_1.to)), v1_1, (.int .i64 (x1_1.n_))] := hc1_1
   refine st_y hf rfl rfl rfl (y_indexAddr st_187 rfl rfl rfl h1_1 (idx_lt hx1_2)) ?_
   clear hf a; intro a hf
   refine st_y hf rfl rfl rfl (y_loadN (cs := [(.int .i64 (x1_1.op)), (.int .i64 (x1_1.to)), v1_1, (.int .i64 (x1_1.n_))]) Try.isAgg219 Try.sizeOf219 rfl rfl (hc1_1.mono hm.lez)) ?_
   clear hf a; intro a hf
   obtain ⟨r1_1, hx1_3, hb0_1⟩ := bnd hb0_1
   refine st_ef hf rfl rfl rfl (e_call hf rfl Try.call190 rfl (laws_toIns_ok _ x1_1 v1_1 (hm.now h1_2) _ hx1_3)) ?_
   clear hf a; rintro v1_2 w1_1 a ho1_1 hf
   obtain ⟨v1_3, rfl, hB⟩ := ho1_1
   replace hm := hm.give hB; clear hB
   obtain ⟨x1_2, hx1_4, hb0_1⟩ := bnd hb0_1
   obtain ⟨h1_3, hx1_5⟩ := getI_some.1 hx1_4
   obtain ⟨b1_2, o1_2, c1_2, he⟩ := idx_form' (hm.ow_rep 1 rfl) hx1_5
   simp only [Value.slice.injEq, Option.some.injEq] at he; obtain ⟨rfl, _, rfl⟩ := he
   obtain ⟨_, _, hc1_2, hr1_2⟩ := ro_get' (hm.ow_rep 1 rfl) hx1_5
   obtain ⟨_, _, rfl, rfl, _, _, rfl, rfl, _, _, rfl, h1_4, rfl⟩ := hr1_2
   obtain ⟨v1_4, rfl, -⟩ := id h1_4
   replace h1_4 : GT.rep (hp _) [v1_4] x1_2.args := h1_4
   replace hc1_2 : CellsAt (hp _) b1_2 (o1_2 + (i1_1).toNat * 4) [(.int .i64 (x1_2.op)), (.int .i64 (x1_2.to)), v1_4, (.int .i64 (x1_2.n_))] := hc1_2
   have hL1_1 := rep_slice_len (hm.ow_rep 1 rfl)
   refine st_y hf rfl rfl rfl (y_indexAddr st_58 rfl rfl rfl h1_3 (idx_lt2 hx1_5 hL1_1)) ?_
   clear hf a; intro a hf
   replace hm := hm.own0 (c := [(.int .i64 (r1_1.op))]) (x := (r1_1.op : Int)) (fun h => Flat.own_iff.2 rfl)
   replace hm := hm.own0 (c := [(.int .i64 (r1_1.to))]) (x := (r1_1.to : Int)) (fun h => Flat.own_iff.2 rfl)
   replace hm := hm.own0 (c := [(.int .i64 (r1_1.n_))]) (x := (r1_1.n_ : Int)) (fun h => Flat.own_iff.2 rfl)
   replace hm := (hm.pair (x := (r1_1.args : List Int)) (y := (r1_1.n_ : Int)) 3 0 (by decide) rfl rfl).pick (L' := [ow [(.int .i64 (r1_1.to))] (r1_1.to : Int), ow [(.int .i64 (r1_1.op))] (r1_1.op : Int), ow [v1_3, (.int .i64 (r1_1.n_))] ((r1_1.args, r1_1.n_) : (List Int) × Int), ow [(.slice (some ⟨b1_2, o1_2, none⟩) ys0_1.length c0_2)] xs1_1]) [1, 2, 3, 4] (by decide) rfl
   replace hm := (hm.pair (x := (r1_1.to : Int)) (y := ((r1_1.args, r1_1.n_) : (List Int) × Int)) 0 2 (by decide) rfl rfl).pick (L' := [ow [(.int .i64 (r1_1.to)), v1_3, (.int .i64 (r1_1.n_))] ((r1_1.to, (r1_1.args, r1_1.n_)) : Int × (List Int) × Int), ow [(.int .i64 (r1_1.op))] (r1_1.op : Int), ow [(.slice (some ⟨b1_2, o1_2, none⟩) ys0_1.length c0_2)] xs1_1]) [0, 1, 3] (by decide) rfl
   replace hm := (hm.pair (x := (r1_1.op : Int)) (y := ((r1_1.to, (r1_1.args, r1_1.n_)) : Int × (List Int) × Int)) 1 0 (by decide) rfl rfl).pick (L' := [ow [(.int .i64 (r1_1.op)), (.int .i64 (r1_1.to)), v1_3, (.int .i64 (r1_1.n_))] ((r1_1.op, (r1_1.to, (r1_1.args, r1_1.n_))) : Int × Int × (List Int) × Int), ow [(.slice (some ⟨b1_2, o1_2, none⟩) ys0_1.length c0_2)] xs1_1]) [1, 2] (by decide) rfl
   replace hm := hm.imp (c' := ow [(.int .i64 (r1_1.op)), (.int .i64 (r1_1.to)), v1_3, (.int .i64 (r1_1.n_))] (r1_1 : Ins_)) 0 rfl (fun F h0 => h0)
   replace hm := (hm.both 1 0 (by decide) rfl rfl).pick (L' := [both (ow [(.slice (some ⟨b1_2, o1_2, none⟩) ys0_1.length c0_2)] xs1_1) (ow [(.int .i64 (r1_1.op)), (.int .i64 (r1_1.to)), v1_3, (.int .i64 (r1_1.n_))] (r1_1 : Ins_))]) [1] (by decide) rfl
   refine st_ef0 hf rfl rfl (e_putElem (x1 := (r1_1 : Ins_)) (vs := [(.int .i64 (r1_1.op)), (.int .i64 (r1_1.to)), v1_3, (.int .i64 (r1_1.n_))]) 0 hf hm rfl hx1_5 rfl Try.sizeOf57 rfl rfl rfl rfl) ?_
   clear hf a; rintro _ w1_2 a hm hf
   have hx1_6 := List.getElem?_set_self (a := (r1_1 : Ins_)) (idx_lt hx1_5)
   refine st_end ?_
   refine x_blk_n ?_
   refine x_then_n ?_
   refine wp_region_lit ?_
   refine st_y hf rfl rfl rfl (y_move rfl rfl) ?_
   clear hf a; intro a hf
   refine st_y hf rfl rfl rfl (y_add64 rfl rfl rfl (by omega) (by omega)) ?_
   clear hf a; intro a hf
   refine st_y hf rfl rfl rfl (y_assign rfl rfl) ?_
   clear hf a; intro a hf
   refine st_end ?_
   refine x_then_n ?_
   obtain rfl := Option.some.inj hb0_1
   exact ⟨_, rfl, hf.sub ⟨rfl, rfl, rfl, trivial⟩, hm.pick [0] (by decide) rfl⟩
  ·
   clear hf hm
   rintro i0_1 xs0_1 a w ⟨hf, hm⟩ hi0_1 hi0_2 rfl
   replace hq := sum_l hq
   refine wp_seq ?_
   refine wp_seq ?_
   refine wp_region_lit ?_
   refine st_y hf rfl rfl rfl (y_move rfl rfl) ?_
   clear hf a; intro a hf
   refine st_y hf rfl rfl rfl (y_move rfl rfl) ?_
   clear hf a; intro a hf
   refine st_y hf rfl rfl rfl (y_len_slice st_187.und rfl rfl) ?_
   clear hf a; intro a hf
   refine st_y hf rfl rfl rfl (y_lss rfl rfl rfl) ?_
   clear hf a; intro a hf
   refine st_end ?_
   refine x_then_n ?_
   refine cond_f hf rfl (decide_eq_false (by omega)) ?_
   refine wp_exit ?_
   refine x_then_exit ?_
   refine x_then_exit ?_
   refine x_blk_hit ?_
   refine x_then_n ?_
   refine wp_seq ?_
   refine wp_region_lit ?_
   refine st_y hf rfl rfl rfl (y_move rfl rfl) ?_
   clear hf a; intro a hf
   refine st_y hf rfl rfl rfl (y_assign rfl rfl) ?_
   clear hf a; intro a hf
   refine st_end ?_
   refine x_then_n ?_
   refine wp_ret ?_
   obtain rfl := Option.some.inj hq
   refine ret_tmp hf Try.results178 rfl ?_
   exact ⟨(.slice p0_2 ys0_1.length c0_2), rfl, hm.pick [0] (by decide) rfl⟩

theorem laws_toBlock_ok (w0 : World) (a_ : Block_) (v1 : Value) (h1 : GT.rep (hp w0) [v1] a_.phis) (v2 : Value) (h2 : GT.rep (hp w0) [v2] a_.ins) (v3 : Value) (h3 : GT.rep (hp w0) [v3] a_.next_) (r : Block_) (hq : laws_toBlock a_ = some r) :
    Con Try.prog 158 [(.agg #[v1, v2, (.int .i64 (a_.jump)), (.int .i64 (a_.on)), v3])] w0 (fun v w' => ∃ (x1 : Value) (x2 : Value) (x3 : Value), v = (.agg #[x1, x2, (.int .i64 (r.jump)), (.int .i64 (r.on)), x3]) ∧ Mem w0 (hp w0) w' [ow [x1] r.phis, ow [x2] r.ins, ow [x3] r.next_]) := by
  unfold laws_toBlock at hq
  refine con_body (l := [(0, (.agg #[v1, v2, (.int .i64 (a_.jump)), (.int .i64 (a_.on)), v3]))]) Try.func158 rfl Try.ntmps158 (Args.get ⟨rfl, trivial⟩) rfl ?_
  intro a hf
  have hm := Mem.start w0
  refine wp_seq ?_
  refine wp_region_lit ?_
  refine st_ef hf rfl rfl rfl (e_box hf hm rfl rfl rfl) ?_
  clear hf a; rintro _ w0_1 a ⟨b0_1, rfl, hm⟩ hf
  refine st_ef hf rfl rfl rfl (e_alloc hm Try.zeroValue61 rfl rfl) ?_
  clear hf a; rintro _ w0_2 a ⟨b0_2, rfl, hm⟩ hf
  refine st_end ?_
  refine x_then_n ?_
  refine wp_seq ?_
  refine wp_region_lit ?_
  refine st_ef hf rfl rfl rfl (e_alloc hm Try.zeroValue61 rfl rfl) ?_
  clear hf a; rintro _ w0_3 a ⟨b0_3, rfl, hm⟩ hf
  refine st_end ?_
  refine x_then_n ?_
  refine wp_seq ?_
  refine wp_region_lit ?_
  refine st_y hf rfl rfl rfl (y_fieldAddr fo_189_0 rfl rfl) ?_
  clear hf a; intro a hf
  refine st_y hf rfl rfl rfl (y_load1 Try.isAgg186 rfl rfl (hm.blk_cell 2 rfl rfl)) ?_
  clear hf a; intro a hf
  obtain ⟨r0_1, hx0_1, hq⟩ := bnd hq
  refine st_ef hf rfl rfl rfl (e_call hf rfl Try.call177 rfl (laws_toPhiS_ok _ a_.phis v1 (hm.now h1) _ hx0_1)) ?_
  clear hf a; rintro v0_1 w0_4 a ho0_1 hf
  obtain ⟨_, rfl, hB⟩ := ho0_1
  replace hm := hm.give hB; clear hB
  refine st_y hf rfl rfl rfl (y_fieldAddr fo_61_0 rfl rfl) ?_
  clear hf a; intro a hf
  refine st_ef0 hf rfl rfl (e_store1 1 hf hm rfl Try.sizeOf59 rfl rfl rfl (rep_one (hm.ow_rep 0 rfl)) rfl) ?_
  clear hf a; rintro _ w0_5 a hm hf
  refine st_end ?_
  refine x_then_n ?_
  refine wp_seq ?_
  refine wp_region_lit ?_
  refine st_y hf rfl rfl rfl (y_fieldAddr fo_189_1 rfl rfl) ?_
  clear hf a; intro a hf
  refine st_y hf rfl rfl rfl (y_load1 Try.isAgg187 rfl rfl (hm.blk_cell 3 rfl rfl)) ?_
  clear hf a; intro a hf
  obtain ⟨r0_2, hx0_2, hq⟩ := bnd hq
  refine st_ef hf rfl rfl rfl (e_call hf rfl Try.call178 rfl (laws_toInsS_ok _ a_.ins v2 (hm.now h2) _ hx0_2)) ?_
  clear hf a; rintro v0_3 w0_6 a ho0_2 hf
  obtain ⟨_, rfl, hB⟩ := ho0_2
  replace hm := hm.give hB; clear hB
  refine st_y hf rfl rfl rfl (y_fieldAddr fo_61_1 rfl rfl) ?_
  clear hf a; intro a hf
  refine st_ef0 hf rfl rfl (e_store1 2 hf hm rfl Try.sizeOf58 rfl rfl rfl (rep_one (hm.ow_rep 0 rfl)) rfl) ?_
  clear hf a; rintro _ w0_7 a hm hf
  refine st_end ?_
  refine x_then_n ?_
  refine wp_seq ?_
  refine wp_region_lit ?_
  refine st_y hf rfl rfl rfl (y_fieldAddr fo_189_2 rfl rfl) ?_
  clear hf a; intro a hf
  refine st_y hf rfl rfl rfl (y_load1 Try.isAgg3 rfl rfl (hm.blk_cell 4 rfl rfl)) ?_
  clear hf a; intro a hf
  refine st_y hf rfl rfl rfl (y_fieldAddr fo_61_2 rfl rfl) ?_
  clear hf a; intro a hf
  refine st_ef0 hf rfl rfl (e_store1 2 hf hm rfl Try.sizeOf3 rfl rfl rfl rfl rfl) ?_
  clear hf a; rintro _ w0_8 a hm hf
  refine st_end ?_
  refine x_then_n ?_
  refine wp_seq ?_
  refine wp_region_lit ?_
  refine st_y hf rfl rfl rfl (y_fieldAddr fo_189_3 rfl rfl) ?_
  clear hf a; intro a hf
  refine st_y hf rfl rfl rfl (y_load1 Try.isAgg3 rfl rfl (hm.blk_cell 4 rfl rfl)) ?_
  clear hf a; intro a hf
  refine st_y hf rfl rfl rfl (y_fieldAddr fo_61_3 rfl rfl) ?_
  clear hf a; intro a hf
  refine st_ef0 hf rfl rfl (e_store1 2 hf hm rfl Try.sizeOf3 rfl rfl rfl rfl rfl) ?_
  clear hf a; rintro _ w0_9 a hm hf
  refine st_end ?_
  refine x_then_n ?_
  refine wp_seq ?_
  refine wp_region_lit ?_
  refine st_y hf rfl rfl rfl (y_fieldAddr fo_189_4 rfl rfl) ?_
  clear hf a; intro a hf
  refine st_y hf rfl rfl rfl (y_load1 Try.isAgg26 rfl rfl (hm.blk_cell 4 rfl rfl)) ?_
  clear hf a; intro a hf
  obtain ⟨r0_3, hx0_3, hq⟩ := bnd hq
  refine st_ef hf rfl rfl rfl (e_call hf rfl Try.call34 rfl (laws_toIntS_ok _ a_.next_ v3 (hm.now h3) _ hx0_3)) ?_
  clear hf a; rintro v0_5 w0_10 a ho0_3 hf
  obtain ⟨_, rfl, hB⟩ := ho0_3
  replace hm := hm.give hB; clear hB
  refine st_y hf rfl rfl rfl (y_fieldAddr fo_61_4 rfl rfl) ?_
  clear hf a; intro a hf
  refine st_ef0 hf rfl rfl (e_store1 3 hf hm rfl Try.sizeOf26 rfl rfl rfl (rep_one (hm.ow_rep 0 rfl)) rfl) ?_
  clear hf a; rintro _ w0_11 a hm hf
  refine st_end ?_
  refine x_then_n ?_
  refine wp_seq ?_
  refine wp_region_lit ?_
  refine st_y hf rfl rfl rfl (y_loadN (cs := [v0_1, v0_3, (.int .i64 (a_.jump)), (.int .i64 (a_.on)), v0_5]) Try.isAgg61 Try.sizeOf61 rfl rfl (hm.blk_at 3 rfl)) ?_
  clear hf a; intro a hf
  refine st_ef0 hf rfl rfl (e_storeN 4 hf hm rfl Try.sizeOf61 rfl rfl rfl (one_cons (rep_one (hm.ow_rep 2 rfl)) (one_cons (rep_one (hm.ow_rep 1 rfl)) (one_cons rfl (one_cons rfl (one_cons (rep_one (hm.ow_rep 0 rfl)) one_nil))))) rfl rfl) ?_
  clear hf a; rintro _ w0_12 a hm hf
  refine st_end ?_
  refine x_then_n ?_
  refine wp_ret ?_
  obtain rfl := Option.some.inj hq
  refine ret_cell 4 hf Try.results158 hm rfl rfl Try.isAgg61 Try.sizeOf61 ?_
  exact ⟨v0_1, v0_3, v0_5, rfl, hm.pick [2, 1, 0] (by decide) rfl⟩

theorem laws_toBlockS_ok (w0 : World) (a_ : List Block_) (v1 : Value) (h1 : GT.rep (hp w0) [v1] a_) (r : (List Block_)) (hq : laws_toBlockS a_ = some r) :
    Con Try.prog 131 [v1] w0 (fun v w' => ∃ (x1 : Value), v = x1 ∧ Mem w0 (hp w0) w' [ow [x1] r]) := by
  unfold laws_toBlockS at hq
  refine con_body (l := [(0, v1)]) Try.func131 rfl Try.ntmps131 (Args.get ⟨rfl, trivial⟩) rfl ?_
  intro a hf
  have hm := Mem.start w0
  refine wp_seq ?_
  refine wp_region_lit ?_
  refine st_y hf rfl rfl rfl (y_assign rfl rfl) ?_
  clear hf a; intro a hf
  refine st_end ?_
  refine x_then_n ?_
  refine wp_seq ?_
  refine wp_region_lit ?_
  refine st_y hf rfl rfl rfl (y_move rfl rfl) ?_
  clear hf a; intro a hf
  obtain ⟨p0_1, c0_1, he, hl0_1⟩ := ro_slice h1
  subst he
  refine st_y hf rfl rfl rfl (y_len_slice st_143.und rfl rfl) ?_
  clear hf a; intro a hf
  obtain ⟨ys0_1, hx0_1, hq⟩ := bnd hq
  obtain ⟨⟨h0_11, h0_12⟩, h0_1e⟩ := makeM_some.1 hx0_1
  refine st_ef hf rfl rfl rfl (e_make (x0 := ((⟨[], [], 0, 0, []⟩ : Block_) : Block_)) et_53 (fun _ => ⟨[(.slice none 0 0)], [(.slice none 0 0), (.int .i64 (0)), (.int .i64 (0)), (.slice none 0 0)], rfl, fun _ => False, fun _ => False, fun _ h => h.elim, fun _ h => h.elim, fun _ h => h.elim, (own_list.2 (.inl ⟨rfl, rfl⟩)), ⟨[(.slice none 0 0)], [(.int .i64 (0)), (.int .i64 (0)), (.slice none 0 0)], rfl, fun _ => False, fun _ => False, fun _ h => h.elim, fun _ h => h.elim, fun _ h => h.elim, (own_list.2 (.inl ⟨rfl, rfl⟩)), ⟨[(.int .i64 (0))], [(.int .i64 (0)), (.slice none 0 0)], rfl, fun _ => False, fun _ => False, fun _ h => h.elim, fun _ h => h.elim, fun _ h => h.elim, (Flat.own_iff.2 rfl), ⟨[(.int .i64 (0))], [(.slice none 0 0)], rfl, fun _ => False, fun _ => False, fun _ h => h.elim, fun _ h => h.elim, fun _ h => h.elim, (Flat.own_iff.2 rfl), (own_list.2 (.inl ⟨rfl, rfl⟩))⟩⟩⟩⟩) hf hm rfl rfl rfl h0_11 (Int.le_refl _) h0_12) ?_
  clear hf a; rintro v0_1 w0_1 a hm hf
  rw [h0_1e] at hm
  have h0_1l : (ys0_1.length : Int) = (a_.length : Int) := by rw [← h0_1e]; simp only [List.length_replicate]; omega
  refine st_y hf rfl rfl rfl (y_assign rfl rfl) ?_
  clear hf a; intro a hf
  refine st_end ?_
  refine x_then_n ?_
  refine wp_seq ?_
  refine wp_seq ?_
  refine wp_region_lit ?_
  refine st_y hf rfl rfl rfl (y_assign rfl rfl) ?_
  clear hf a; intro a hf
  refine st_end ?_
  refine x_then_n ?_
  obtain ⟨p0_2, c0_2, he, hl0_2⟩ := ro_slice (hm.ow_rep 0 rfl)
  subst he
  refine wp_block ?_
  obtain ⟨r0_1, hl0_3, hq⟩ := bnd hq
  refine wp_forN _ (fun i1_1 xs1_1 a w => Fr 23 [(0, (.slice p0_1 a_.length c0_1)), (3, (.slice p0_2 ys0_1.length c0_2)), (4, (.int .i64 (i1_1)))] a ∧ Mem w0 (hp w0) w [ow [(.slice p0_2 ys0_1.length c0_2)] xs1_1]) (0) ((a_.length : Int)) hl0_3 ?_ ?_ ?_
  ·
   exact ⟨hf.sub ⟨rfl, rfl, rfl, trivial⟩, hm.pick [0] (by decide) rfl⟩
  ·
   clear hf hm
   rintro i1_1 xs1_1 a w ⟨hf, hm⟩ hi1_1 hi1_2 q0_1 hb0_1 ho0_1
   refine wp_seq ?_
   refine wp_seq ?_
   refine wp_region_lit ?_
   refine st_y hf rfl rfl rfl (y_move rfl rfl) ?_
   clear hf a; intro a hf
   refine st_y hf rfl rfl rfl (y_move rfl rfl) ?_
   clear hf a; intro a hf
   refine st_y hf rfl rfl rfl (y_len_slice st_143.und rfl rfl) ?_
   clear hf a; intro a hf
   refine st_y hf rfl rfl rfl (y_lss rfl rfl rfl) ?_
   clear hf a; intro a hf
   refine st_end ?_
   refine x_then_n ?_
   refine cond_t hf rfl (decide_eq_true (by omega)) ?_
   refine wp_skip ?_
   refine x_then_n ?_
   refine wp_seq ?_
   refine wp_block ?_
   refine wp_region_lit ?_
   refine st_y hf rfl rfl rfl (y_move rfl rfl) ?_
   clear hf a; intro a hf
   refine st_y hf rfl rfl rfl (y_move rfl rfl) ?_
   clear hf a; intro a hf
   refine st_y hf rfl rfl rfl (y_move rfl rfl) ?_
   clear hf a; intro a hf
   refine st_y hf rfl rfl rfl (y_move rfl rfl) ?_
   clear hf a; intro a hf
   obtain ⟨x1_1, hx1_1, hb0_1⟩ := bnd hb0_1
   obtain ⟨h1_1, hx1_2⟩ := getI_some.1 hx1_1
   obtain ⟨b1_1, o1_1, c1_1, he⟩ := idx_form' h1 hx1_2
   simp only [Value.slice.injEq, Option.some.injEq] at he; obtain ⟨rfl, _, rfl⟩ := he
   obtain ⟨_, _, hc1_1, hr1_1⟩ := ro_get' h1 hx1_2
   obtain ⟨_, _, rfl, h1_2, _, _, rfl, h1_3, _, _, rfl, rfl, _, _, rfl, rfl, h1_4⟩ := hr1_1
   obtain ⟨v1_1, rfl, -⟩ := id h1_2
   replace h1_2 : GT.rep (hp w0) [v1_1] x1_1.phis := h1_2
   obtain ⟨v1_2, rfl, -⟩ := id h1_3
   replace h1_3 : GT.rep (hp w0) [v1_2] x1_1.ins := h1_3
   obtain ⟨v1_3, rfl, -⟩ := id h1_4
   replace h1_4 : GT.rep (hp w0) [v1_3] x1_1.next_ := h1_4
   replace hc1_1 : CellsAt (hp w0) b1_1 (o1_1 + (i1_1).toNat * 5) [v1_1, v1_2, (.int .i64 (x1_1.jump)), (.int .i64 (x1_1.on)), v1_3] := hc1_1
   refine st_y hf rfl rfl rfl (y_indexAddr st_143 rfl rfl rfl h1_1 (idx_lt hx1_2)) ?_
   clear hf a; intro a hf
   refine st_y hf rfl rfl rfl (y_loadN (cs := [v1_1, v1_2, (.int .i64 (x1_1.jump)), (.int .i64 (x1_1.on)), v1_3]) Try.isAgg189 Try.sizeOf189 rfl rfl (hc1_1.mono hm.lez)) ?_
   clear hf a; intro a hf
   obtain ⟨r1_1, hx1_3, hb0_1⟩ := bnd hb0_1
   refine st_ef hf rfl rfl rfl (e_call hf rfl Try.call158 rfl (laws_toBlock_ok _ x1_1 v1_1 (hm.now h1_2) v1_2 (hm.now h1_3) v1_3 (hm.now h1_4) _ hx1_3)) ?_
   clear hf a; rintro v1_4 w1_1 a ho1_1 hf
   obtain ⟨v1_5, v1_6, v1_7, rfl, hB⟩ := ho1_1
   replace hm := hm.give hB; clear hB
   obtain ⟨x1_2, hx1_4, hb0_1⟩ := bnd hb0_1
   obtain ⟨h1_5, hx1_5⟩ := getI_some.1 hx1_4
   obtain ⟨b1_2, o1_2, c1_2, he⟩ := idx_form' (hm.ow_rep 3 rfl) hx1_5
   simp only [Value.slice.injEq, Option.some.injEq] at he; obtain ⟨rfl, _, rfl⟩ := he
   obtain ⟨_, _, hc1_2, hr1_2⟩ := ro_get' (hm.ow_rep 3 rfl) hx1_5
   obtain ⟨_, _, rfl, h1_6, _, _, rfl, h1_7, _, _, rfl, rfl, _, _, rfl, rfl, h1_8⟩ := hr1_2
   obtain ⟨v1_8, rfl, -⟩ := id h1_6
   replace h1_6 : GT.rep (hp _) [v1_8] x1_2.phis := h1_6
   obtain ⟨v1_9, rfl, -⟩ := id h1_7
   replace h1_7 : GT.rep (hp _) [v1_9] x1_2.ins := h1_7
   obtain ⟨v1_10, rfl, -⟩ := id h1_8
   replace h1_8 : GT.rep (hp _) [v1_10] x1_2.next_ := h1_8
   replace hc1_2 : CellsAt (hp _) b1_2 (o1_2 + (i1_1).toNat * 5) [v1_8, v1_9, (.int .i64 (x1_2.jump)), (.int .i64 (x1_2.on)), v1_10] := hc1_2
   have hL1_1 := rep_slice_len (hm.ow_rep 3 rfl)
   refine st_y hf rfl rfl rfl (y_indexAddr st_53 rfl rfl rfl h1_5 (idx_lt2 hx1_5 hL1_1)) ?_
   clear hf a; intro a hf
   replace hm := hm.own0 (c := [(.int .i64 (r1_1.jump))]) (x := (r1_1.jump : Int)) (fun h => Flat.own_iff.2 rfl)
   replace hm := hm.own0 (c := [(.int .i64 (r1_1.on))]) (x := (r1_1.on : Int)) (fun h => Flat.own_iff.2 rfl)
   replace hm := (hm.pair (x := (r1_1.on : Int)) (y := (r1_1.next_ : List Int)) 0 4 (by decide) rfl rfl).pick (L' := [ow [(.int .i64 (r1_1.on)), v1_7] ((r1_1.on, r1_1.next_) : Int × (List Int)), ow [(.int .i64 (r1_1.jump))] (r1_1.jump : Int), ow [v1_5] r1_1.phis, ow [v1_6] r1_1.ins, ow [(.slice (some ⟨b1_2, o1_2, none⟩) ys0_1.length c0_2)] xs1_1]) [0, 1, 2, 3, 5] (by decide) rfl
   replace hm := (hm.pair (x := (r1_1.jump : Int)) (y := ((r1_1.on, r1_1.next_) : Int × (List Int))) 1 0 (by decide) rfl rfl).pick (L' := [ow [(.int .i64 (r1_1.jump)), (.int .i64 (r1_1.on)), v1_7] ((r1_1.jump, (r1_1.on, r1_1.next_)) : Int × Int × (List Int)), ow [v1_5] r1_1.phis, ow [v1_6] r1_1.ins, ow [(.slice (some ⟨b1_2, o1_2, none⟩) ys0_1.length c0_2)] xs1_1]) [1, 2, 3, 4] (by decide) rfl
   replace hm := (hm.pair (x := (r1_1.ins : List Ins_)) (y := ((r1_1.jump, (r1_1.on, r1_1.next_)) : Int × Int × (List Int))) 2 0 (by decide) rfl rfl).pick (L' := [ow [v1_5] r1_1.phis, ow [v1_6, (.int .i64 (r1_1.jump)), (.int .i64 (r1_1.on)), v1_7] ((r1_1.ins, (r1_1.jump, (r1_1.on, r1_1.next_))) : (List Ins_) × Int × Int × (List Int)), ow [(.slice (some ⟨b1_2, o1_2, none⟩) ys0_1.length c0_2)] xs1_1]) [1, 2, 3] (by decide) rfl
   replace hm := (hm.pair (x := (r1_1.phis : List Phi_)) (y := ((r1_1.ins, (r1_1.jump, (r1_1.on, r1_1.next_))) : (List Ins_) × Int × Int × (List Int))) 0 1 (by decide) rfl rfl).pick (L' := [ow [v1_5, v1_6, (.int .i64 (r1_1.jump)), (.int .i64 (r1_1.on)), v1_7] ((r1_1.phis, (r1_1.ins, (r1_1.jump, (r1_1.on, r1_1.next_)))) : (List Phi_) × (List Ins_) × Int × Int × (List Int)), ow [(.slice (some ⟨b1_2, o1_2, none⟩) ys0_1.length c0_2)] xs1_1]) [0, 2] (by decide) rfl
   replace hm := hm.imp (c' := ow [v1_5, v1_6, (.int .i64 (r1_1.jump)), (.int .i64 (r1_1.on)), v1_7] (r1_1 : Block_)) 0 rfl (fun F h0 => h0)
   replace hm := (hm.both 1 0 (by decide) rfl rfl).pick (L' := [both (ow [(.slice (some ⟨b1_2, o1_2, none⟩) ys0_1.length c0_2)] xs1_1) (ow [v1_5, v1_6, (.int .i64 (r1_1.jump)), (.int .i64 (r1_1.on)), v1_7] (r1_1 : Block_))]) [1] (by decide) rfl
   refine st_ef0 hf rfl rfl (e_putElem (x1 := (r1_1 : Block_)) (vs := [v1_5, v1_6, (.int .i64 (r1_1.jump)), (.int .i64 (r1_1.on)), v1_7]) 0 hf hm rfl hx1_5 rfl Try.sizeOf61 rfl rfl rfl rfl) ?_
   clear hf a; rintro _ w1_2 a hm hf
   have hx1_6 := List.getElem?_set_self (a := (r1_1 : Block_)) (idx_lt hx1_5)
   refine st_end ?_
   refine x_blk_n ?_
   refine x_then_n ?_
   refine wp_region_lit ?_
   refine st_y hf rfl rfl rfl (y_move rfl rfl) ?_
   clear hf a; intro a hf
   refine st_y hf rfl rfl rfl (y_add64 rfl rfl rfl (by omega) (by omega)) ?_
   clear hf a; intro a hf
   refine st_y hf rfl rfl rfl (y_assign rfl rfl) ?_
   clear hf a; intro a hf
   refine st_end ?_
   refine x_then_n ?_
   obtain rfl := Option.some.inj hb0_1
   exact ⟨_, rfl, hf.sub ⟨rfl, rfl, rfl, trivial⟩, hm.pick [0] (by decide) rfl⟩
  ·
   clear hf hm
   rintro i0_1 xs0_1 a w ⟨hf, hm⟩ hi0_1 hi0_2 rfl
   replace hq := sum_l hq
   refine wp_seq ?_
   refine wp_seq ?_
   refine wp_region_lit ?_
   refine st_y hf rfl rfl rfl (y_move rfl rfl) ?_
   clear hf a; intro a hf
   refine st_y hf rfl rfl rfl (y_move rfl rfl) ?_
   clear hf a; intro a hf
   refine st_y hf rfl rfl rfl (y_len_slice st_143.und rfl rfl) ?_
   clear hf a; intro a hf
   refine st_y hf rfl rfl rfl (y_lss rfl rfl rfl) ?_
   clear hf a; intro a hf
   refine st_end ?_
   refine x_then_n ?_
   refine cond_f hf rfl (decide_eq_false (by omega)) ?_
   refine wp_exit ?_
   refine x_then_exit ?_
   refine x_then_exit ?_
   refine x_blk_hit ?_
   refine x_then_n ?_
   refine wp_seq ?_
   refine wp_region_lit ?_
   refine st_y hf rfl rfl rfl (y_move rfl rfl) ?_
   clear hf a; intro a hf
   refine st_y hf rfl rfl rfl (y_assign rfl rfl) ?_
   clear hf a; intro a hf
   refine st_end ?_
   refine x_then_n ?_
   refine wp_ret ?_
   obtain rfl := Option.some.inj hq
   refine ret_tmp hf Try.results131 rfl ?_
   exact ⟨(.slice p0_2 ys0_1.length c0_2), rfl, hm.pick [0] (by decide) rfl⟩

theorem laws_toCode_ok (w0 : World) (a_ : Code_) (v1 : Value) (h1 : GT.rep (hp w0) [v1] a_.blocks) (r : Code_) (hq : laws_toCode a_ = some r) :
    Con Try.prog 95 [(.agg #[(.int .i64 (a_.params)), (.int .i64 (a_.regs)), v1])] w0 (fun v w' => ∃ (x1 : Value), v = (.agg #[(.int .i64 (r.params)), (.int .i64 (r.regs)), x1]) ∧ Mem w0 (hp w0) w' [ow [x1] r.blocks]) := by
  unfold laws_toCode at hq
  refine con_body (l := [(0, (.agg #[(.int .i64 (a_.params)), (.int .i64 (a_.regs)), v1]))]) Try.func95 rfl Try.ntmps95 (Args.get ⟨rfl, trivial⟩) rfl ?_
  intro a hf
  have hm := Mem.start w0
  refine wp_seq ?_
  refine wp_region_lit ?_
  refine st_ef hf rfl rfl rfl (e_box hf hm rfl rfl rfl) ?_
  clear hf a; rintro _ w0_1 a ⟨b0_1, rfl, hm⟩ hf
  refine st_ef hf rfl rfl rfl (e_alloc hm Try.zeroValue55 rfl rfl) ?_
  clear hf a; rintro _ w0_2 a ⟨b0_2, rfl, hm⟩ hf
  refine st_end ?_
  refine x_then_n ?_
  refine wp_seq ?_
  refine wp_region_lit ?_
  refine st_ef hf rfl rfl rfl (e_alloc hm Try.zeroValue55 rfl rfl) ?_
  clear hf a; rintro _ w0_3 a ⟨b0_3, rfl, hm⟩ hf
  refine st_end ?_
  refine x_then_n ?_
  refine wp_seq ?_
  refine wp_region_lit ?_
  refine st_y hf rfl rfl rfl (y_fieldAddr fo_145_0 rfl rfl) ?_
  clear hf a; intro a hf
  refine st_y hf rfl rfl rfl (y_load1 Try.isAgg3 rfl rfl (hm.blk_cell 2 rfl rfl)) ?_
  clear hf a; intro a hf
  refine st_y hf rfl rfl rfl (y_fieldAddr fo_55_0 rfl rfl) ?_
  clear hf a; intro a hf
  refine st_ef0 hf rfl rfl (e_store1 0 hf hm rfl Try.sizeOf3 rfl rfl rfl rfl rfl) ?_
  clear hf a; rintro _ w0_4 a hm hf
  refine st_end ?_
  refine x_then_n ?_
  refine wp_seq ?_
  refine wp_region_lit ?_
  refine st_y hf rfl rfl rfl (y_fieldAddr fo_145_1 rfl rfl) ?_
  clear hf a; intro a hf
  refine st_y hf rfl rfl rfl (y_load1 Try.isAgg3 rfl rfl (hm.blk_cell 2 rfl rfl)) ?_
  clear hf a; intro a hf
  refine st_y hf rfl rfl rfl (y_fieldAddr fo_55_1 rfl rfl) ?_
  clear hf a; intro a hf
  refine st_ef0 hf rfl rfl (e_store1 0 hf hm rfl Try.sizeOf3 rfl rfl rfl rfl rfl) ?_
  clear hf a; rintro _ w0_5 a hm hf
  refine st_end ?_
  refine x_then_n ?_
  refine wp_seq ?_
  refine wp_region_lit ?_
  refine st_y hf rfl rfl rfl (y_fieldAddr fo_145_2 rfl rfl) ?_
  clear hf a; intro a hf
  refine st_y hf rfl rfl rfl (y_load1 Try.isAgg143 rfl rfl (hm.blk_cell 2 rfl rfl)) ?_
  clear hf a; intro a hf
  obtain ⟨r0_1, hx0_1, hq⟩ := bnd hq
  refine st_ef hf rfl rfl rfl (e_call hf rfl Try.call131 rfl (laws_toBlockS_ok _ a_.blocks v1 (hm.now h1) _ hx0_1)) ?_
  clear hf a; rintro v0_1 w0_6 a ho0_1 hf
  obtain ⟨_, rfl, hB⟩ := ho0_1
  replace hm := hm.give hB; clear hB
  refine st_y hf rfl rfl rfl (y_fieldAddr fo_55_2 rfl rfl) ?_
  clear hf a; intro a hf
  refine st_ef0 hf rfl rfl (e_store1 1 hf hm rfl Try.sizeOf53 rfl rfl rfl (rep_one (hm.ow_rep 0 rfl)) rfl) ?_
  clear hf a; rintro _ w0_7 a hm hf
  refine st_end ?_
  refine x_then_n ?_
  refine wp_seq ?_
  refine wp_region_lit ?_
  refine st_y hf rfl rfl rfl (y_loadN (cs := [(.int .i64 (a_.params)), (.int .i64 (a_.regs)), v0_1]) Try.isAgg55 Try.sizeOf55 rfl rfl (hm.blk_at 1 rfl)) ?_
  clear hf a; intro a hf
  refine st_ef0 hf rfl rfl (e_storeN 2 hf hm rfl Try.sizeOf55 rfl rfl rfl (one_cons rfl (one_cons rfl (one_cons (rep_one (hm.ow_rep 0 rfl)) one_nil))) rfl rfl) ?_
  clear hf a; rintro _ w0_8 a hm hf
  refine st_end ?_
  refine x_then_n ?_
  refine wp_ret ?_
  obtain rfl := Option.some.inj hq
  refine ret_cell 2 hf Try.results95 hm rfl rfl Try.isAgg55 Try.sizeOf55 ?_
  exact ⟨v0_1, rfl, hm.pick [0] (by decide) rfl⟩

theorem laws_toCodeS_ok (w0 : World) (a_ : List Code_) (v1 : Value) (h1 : GT.rep (hp w0) [v1] a_) (r : (List Code_)) (hq : laws_toCodeS a_ = some r) :
    Con Try.prog 67 [v1] w0 (fun v w' => ∃ (x1 : Value), v = x1 ∧ Mem w0 (hp w0) w' [ow [x1] r]) := by
  unfold laws_toCodeS at hq
  refine con_body (l := [(0, v1)]) Try.func67 rfl Try.ntmps67 (Args.get ⟨rfl, trivial⟩) rfl ?_
  intro a hf
  have hm := Mem.start w0
  refine wp_seq ?_
  refine wp_region_lit ?_
  refine st_y hf rfl rfl rfl (y_assign rfl rfl) ?_
  clear hf a; intro a hf
  refine st_end ?_
  refine x_then_n ?_
  refine wp_seq ?_
  refine wp_region_lit ?_
  refine st_y hf rfl rfl rfl (y_move rfl rfl) ?_
  clear hf a; intro a hf
  obtain ⟨p0_1, c0_1, he, hl0_1⟩ := ro_slice h1
  subst he
  refine st_y hf rfl rfl rfl (y_len_slice st_67.und rfl rfl) ?_
  clear hf a; intro a hf
  obtain ⟨ys0_1, hx0_1, hq⟩ := bnd hq
  obtain ⟨⟨h0_11, h0_12⟩, h0_1e⟩ := makeM_some.1 hx0_1
  refine st_ef hf rfl rfl rfl (e_make (x0 := ((⟨0, 0, []⟩ : Code_) : Code_)) et_38 (fun _ => ⟨[(.int .i64 (0))], [(.int .i64 (0)), (.slice none 0 0)], rfl, fun _ => False, fun _ => False, fun _ h => h.elim, fun _ h => h.elim, fun _ h => h.elim, (Flat.own_iff.2 rfl), ⟨[(.int .i64 (0))], [(.slice none 0 0)], rfl, fun _ => False, fun _ => False, fun _ h => h.elim, fun _ h => h.elim, fun _ h => h.elim, (Flat.own_iff.2 rfl), (own_list.2 (.inl ⟨rfl, rfl⟩))⟩⟩) hf hm rfl rfl rfl h0_11 (Int.le_refl _) h0_12) ?_
  clear hf a; rintro v0_1 w0_1 a hm hf
  rw [h0_1e] at hm
  have h0_1l : (ys0_1.length : Int) = (a_.length : Int) := by rw [← h0_1e]; simp only [List.length_replicate]; omega
  refine st_y hf rfl rfl rfl (y_assign rfl rfl) ?_
  clear hf a; intro a hf
  refine st_end ?_
  refine x_then_n ?_
  refine wp_seq ?_
  refine wp_seq ?_
  refine wp_region_lit ?_
  refine st_y hf rfl rfl rfl (y_assign rfl rfl) ?_
  clear hf a; intro a hf
  refine st_end ?_
  refine x_then_n ?_
  obtain ⟨p0_2, c0_2, he, hl0_2⟩ := ro_slice (hm.ow_rep 0 rfl)
  subst he
  refine wp_block ?_
  obtain ⟨r0_1, hl0_3, hq⟩ := bnd hq
  refine wp_forN _ (fun i1_1 xs1_1 a w => Fr 23 [(0, (.slice p0_1 a_.length c0_1)), (3, (.slice p0_2 ys0_1.length c0_2)), (4, (.int .i64 (i1_1)))] a ∧ Mem w0 (hp w0) w [ow [(.slice p0_2 ys0_1.length c0_2)] xs1_1]) (0) ((a_.length : Int)) hl0_3 ?_ ?_ ?_
  ·
   exact ⟨hf.sub ⟨rfl, rfl, rfl, trivial⟩, hm.pick [0] (by decide) rfl⟩
  ·
   clear hf hm
   rintro i1_1 xs1_1 a w ⟨hf, hm⟩ hi1_1 hi1_2 q0_1 hb0_1 ho0_1
   refine wp_seq ?_
   refine wp_seq ?_
   refine wp_region_lit ?_
   refine st_y hf rfl rfl rfl (y_move rfl rfl) ?_
   clear hf a; intro a hf
   refine st_y hf rfl rfl rfl (y_move rfl rfl) ?_
   clear hf a; intro a hf
   refine st_y hf rfl rfl rfl (y_len_slice st_67.und rfl rfl) ?_
   clear hf a; intro a hf
   refine st_y hf rfl rfl rfl (y_lss rfl rfl rfl) ?_
   clear hf a; intro a hf
   refine st_end ?_
   refine x_then_n ?_
   refine cond_t hf rfl (decide_eq_true (by omega)) ?_
   refine wp_skip ?_
   refine x_then_n ?_
   refine wp_seq ?_
   refine wp_block ?_
   refine wp_region_lit ?_
   refine st_y hf rfl rfl rfl (y_move rfl rfl) ?_
   clear hf a; intro a hf
   refine st_y hf rfl rfl rfl (y_move rfl rfl) ?_
   clear hf a; intro a hf
   refine st_y hf rfl rfl rfl (y_move rfl rfl) ?_
   clear hf a; intro a hf
   refine st_y hf rfl rfl rfl (y_move rfl rfl) ?_
   clear hf a; intro a hf
   obtain ⟨x1_1, hx1_1, hb0_1⟩ := bnd hb0_1
   obtain ⟨h1_1, hx1_2⟩ := getI_some.1 hx1_1
   obtain ⟨b1_1, o1_1, c1_1, he⟩ := idx_form' h1 hx1_2
   simp only [Value.slice.injEq, Option.some.injEq] at he; obtain ⟨rfl, _, rfl⟩ := he
   obtain ⟨_, _, hc1_1, hr1_1⟩ := ro_get' h1 hx1_2
   obtain ⟨_, _, rfl, rfl, _, _, rfl, rfl, h1_2⟩ := hr1_1
   obtain ⟨v1_1, rfl, -⟩ := id h1_2
   replace h1_2 : GT.rep (hp w0) [v1_1] x1_1.blocks := h1_2
   replace hc1_1 : CellsAt (hp w0) b1_1 (o1_1 + (i1_1).toNat * 3) [(.int .i64 (x1_1.params)), (.int .i64 (x1_1.regs)), v1_1] := hc1_1
   refine st_y hf rfl rfl rfl (y_indexAddr st_67 rfl rfl rfl h1_1 (idx_lt hx1_2)) ?_
   clear hf a; intro a hf
   refine st_y hf rfl rfl rfl (y_loadN (cs := [(.int .i64 (x1_1.params)), (.int .i64 (x1_1.regs)), v1_1]) Try.isAgg145 Try.sizeOf145 rfl rfl (hc1_1.mono hm.lez)) ?_
   clear hf a; intro a hf
   obtain ⟨r1_1, hx1_3, hb0_1⟩ := bnd hb0_1
   refine st_ef hf rfl rfl rfl (e_call hf rfl Try.call95 rfl (laws_toCode_ok _ x1_1 v1_1 (hm.now h1_2) _ hx1_3)) ?_
   clear hf a; rintro v1_2 w1_1 a ho1_1 hf
   obtain ⟨v1_3, rfl, hB⟩ := ho1_1
   replace hm := hm.give hB; clear hB
   obtain ⟨x1_2, hx1_4, hb0_1⟩ := bnd hb0_1
   obtain ⟨h1_3, hx1_5⟩ := getI_some.1 hx1_4
   obtain ⟨b1_2, o1_2, c1_2, he⟩ := idx_form' (hm.ow_rep 1 rfl) hx1_5
   simp only [Value.slice.injEq, Option.some.injEq] at he; obtain ⟨rfl, _, rfl⟩ := he
   obtain ⟨_, _, hc1_2, hr1_2⟩ := ro_get' (hm.ow_rep 1 rfl) hx1_5
   obtain ⟨_, _, rfl, rfl, _, _, rfl, rfl, h1_4⟩ := hr1_2
   obtain ⟨v1_4, rfl, -⟩ := id h1_4
   replace h1_4 : GT.rep (hp _) [v1_4] x1_2.blocks := h1_4
   replace hc1_2 : CellsAt (hp _) b1_2 (o1_2 + (i1_1).toNat * 3) [(.int .i64 (x1_2.params)), (.int .i64 (x1_2.regs)), v1_4] := hc1_2
   have hL1_1 := rep_slice_len (hm.ow_rep 1 rfl)
   refine st_y hf rfl rfl rfl (y_indexAddr st_38 rfl rfl rfl h1_3 (idx_lt2 hx1_5 hL1_1)) ?_
   clear hf a; intro a hf
   replace hm := hm.own0 (c := [(.int .i64 (r1_1.params))]) (x := (r1_1.params : Int)) (fun h => Flat.own_iff.2 rfl)
   replace hm := hm.own0 (c := [(.int .i64 (r1_1.regs))]) (x := (r1_1.regs : Int)) (fun h => Flat.own_iff.2 rfl)
   replace hm := (hm.pair (x := (r1_1.regs : Int)) (y := (r1_1.blocks : List Block_)) 0 2 (by decide) rfl rfl).pick (L' := [ow [(.int .i64 (r1_1.regs)), v1_3] ((r1_1.regs, r1_1.blocks) : Int × (List Block_)), ow [(.int .i64 (r1_1.params))] (r1_1.params : Int), ow [(.slice (some ⟨b1_2, o1_2, none⟩) ys0_1.length c0_2)] xs1_1]) [0, 1, 3] (by decide) rfl
   replace hm := (hm.pair (x := (r1_1.params : Int)) (y := ((r1_1.regs, r1_1.blocks) : Int × (List Block_))) 1 0 (by decide) rfl rfl).pick (L' := [ow [(.int .i64 (r1_1.params)), (.int .i64 (r1_1.regs)), v1_3] ((r1_1.params, (r1_1.regs, r1_1.blocks)) : Int × Int × (List Block_)), ow [(.slice (some ⟨b1_2, o1_2, none⟩) ys0_1.length c0_2)] xs1_1]) [1, 2] (by decide) rfl
   replace hm := hm.imp (c' := ow [(.int .i64 (r1_1.params)), (.int .i64 (r1_1.regs)), v1_3] (r1_1 : Code_)) 0 rfl (fun F h0 => h0)
   replace hm := (hm.both 1 0 (by decide) rfl rfl).pick (L' := [both (ow [(.slice (some ⟨b1_2, o1_2, none⟩) ys0_1.length c0_2)] xs1_1) (ow [(.int .i64 (r1_1.params)), (.int .i64 (r1_1.regs)), v1_3] (r1_1 : Code_))]) [1] (by decide) rfl
   refine st_ef0 hf rfl rfl (e_putElem (x1 := (r1_1 : Code_)) (vs := [(.int .i64 (r1_1.params)), (.int .i64 (r1_1.regs)), v1_3]) 0 hf hm rfl hx1_5 rfl Try.sizeOf55 rfl rfl rfl rfl) ?_
   clear hf a; rintro _ w1_2 a hm hf
   have hx1_6 := List.getElem?_set_self (a := (r1_1 : Code_)) (idx_lt hx1_5)
   refine st_end ?_
   refine x_blk_n ?_
   refine x_then_n ?_
   refine wp_region_lit ?_
   refine st_y hf rfl rfl rfl (y_move rfl rfl) ?_
   clear hf a; intro a hf
   refine st_y hf rfl rfl rfl (y_add64 rfl rfl rfl (by omega) (by omega)) ?_
   clear hf a; intro a hf
   refine st_y hf rfl rfl rfl (y_assign rfl rfl) ?_
   clear hf a; intro a hf
   refine st_end ?_
   refine x_then_n ?_
   obtain rfl := Option.some.inj hb0_1
   exact ⟨_, rfl, hf.sub ⟨rfl, rfl, rfl, trivial⟩, hm.pick [0] (by decide) rfl⟩
  ·
   clear hf hm
   rintro i0_1 xs0_1 a w ⟨hf, hm⟩ hi0_1 hi0_2 rfl
   replace hq := sum_l hq
   refine wp_seq ?_
   refine wp_seq ?_
   refine wp_region_lit ?_
   refine st_y hf rfl rfl rfl (y_move rfl rfl) ?_
   clear hf a; intro a hf
   refine st_y hf rfl rfl rfl (y_move rfl rfl) ?_
   clear hf a; intro a hf
   refine st_y hf rfl rfl rfl (y_len_slice st_67.und rfl rfl) ?_
   clear hf a; intro a hf
   refine st_y hf rfl rfl rfl (y_lss rfl rfl rfl) ?_
   clear hf a; intro a hf
   refine st_end ?_
   refine x_then_n ?_
   refine cond_f hf rfl (decide_eq_false (by omega)) ?_
   refine wp_exit ?_
   refine x_then_exit ?_
   refine x_then_exit ?_
   refine x_blk_hit ?_
   refine x_then_n ?_
   refine wp_seq ?_
   refine wp_region_lit ?_
   refine st_y hf rfl rfl rfl (y_move rfl rfl) ?_
   clear hf a; intro a hf
   refine st_y hf rfl rfl rfl (y_assign rfl rfl) ?_
   clear hf a; intro a hf
   refine st_end ?_
   refine x_then_n ?_
   refine wp_ret ?_
   obtain rfl := Option.some.inj hq
   refine ret_tmp hf Try.results67 rfl ?_
   exact ⟨(.slice p0_2 ys0_1.length c0_2), rfl, hm.pick [0] (by decide) rfl⟩

theorem laws_toUnit_ok (w0 : World) (a_ : Unit_) (v1 : Value) (h1 : GT.rep (hp w0) [v1] a_.codes) (r : Unit_) (hq : laws_toUnit a_ = some r) :
    Con Try.prog 33 [(.agg #[v1])] w0 (fun v w' => ∃ (x1 : Value), v = (.agg #[x1]) ∧ Mem w0 (hp w0) w' [ow [x1] r.codes]) := by
  unfold laws_toUnit at hq
  refine con_body (l := [(0, (.agg #[v1]))]) Try.func33 rfl Try.ntmps33 (Args.get ⟨rfl, trivial⟩) rfl ?_
  intro a hf
  have hm := Mem.start w0
  refine wp_seq ?_
  refine wp_region_lit ?_
  refine st_ef hf rfl rfl rfl (e_box hf hm rfl rfl rfl) ?_
  clear hf a; rintro _ w0_1 a ⟨b0_1, rfl, hm⟩ hf
  refine st_ef hf rfl rfl rfl (e_alloc hm Try.zeroValue40 rfl rfl) ?_
  clear hf a; rintro _ w0_2 a ⟨b0_2, rfl, hm⟩ hf
  refine st_end ?_
  refine x_then_n ?_
  refine wp_seq ?_
  refine wp_region_lit ?_
  refine st_ef hf rfl rfl rfl (e_alloc hm Try.zeroValue40 rfl rfl) ?_
  clear hf a; rintro _ w0_3 a ⟨b0_3, rfl, hm⟩ hf
  refine st_end ?_
  refine x_then_n ?_
  refine wp_seq ?_
  refine wp_region_lit ?_
  refine st_y hf rfl rfl rfl (y_fieldAddr fo_69_0 rfl rfl) ?_
  clear hf a; intro a hf
  refine st_y hf rfl rfl rfl (y_load1 Try.isAgg67 rfl rfl (hm.blk_cell 2 rfl rfl)) ?_
  clear hf a; intro a hf
  obtain ⟨r0_1, hx0_1, hq⟩ := bnd hq
  refine st_ef hf rfl rfl rfl (e_call hf rfl Try.call67 rfl (laws_toCodeS_ok _ a_.codes v1 (hm.now h1) _ hx0_1)) ?_
  clear hf a; rintro v0_1 w0_4 a ho0_1 hf
  obtain ⟨_, rfl, hB⟩ := ho0_1
  replace hm := hm.give hB; clear hB
  refine st_y hf rfl rfl rfl (y_fieldAddr fo_40_0 rfl rfl) ?_
  clear hf a; intro a hf
  refine st_ef0 hf rfl rfl (e_store1 1 hf hm rfl Try.sizeOf38 rfl rfl rfl (rep_one (hm.ow_rep 0 rfl)) rfl) ?_
  clear hf a; rintro _ w0_5 a hm hf
  refine st_end ?_
  refine x_then_n ?_
  refine wp_seq ?_
  refine wp_region_lit ?_
  refine st_y hf rfl rfl rfl (y_loadN (cs := [v0_1]) Try.isAgg40 Try.sizeOf40 rfl rfl (hm.blk_at 1 rfl)) ?_
  clear hf a; intro a hf
  refine st_ef0 hf rfl rfl (e_storeN 2 hf hm rfl Try.sizeOf40 rfl rfl rfl (one_cons (rep_one (hm.ow_rep 0 rfl)) one_nil) rfl rfl) ?_
  clear hf a; rintro _ w0_6 a hm hf
  refine st_end ?_
  refine x_then_n ?_
  refine wp_ret ?_
  obtain rfl := Option.some.inj hq
  refine ret_cell 2 hf Try.results33 hm rfl rfl Try.isAgg40 Try.sizeOf40 ?_
  exact ⟨v0_1, rfl, hm.pick [0] (by decide) rfl⟩

theorem spec_l1In_ok (w0 : World) (n_ : Int) (low : Int) (high : Int) (r : Bool) (hq : spec_l1In n_ low high = some r) :
    Con Try.prog 56 [(.int .i64 (n_)), (.int .i64 (low)), (.int .i64 (high))] w0 (fun v w' => v = (.bool (r)) ∧ Below w0.heap.size w0 w') := by
  unfold spec_l1In at hq
  refine con_body (l := [(0, (.int .i64 (n_))), (1, (.int .i64 (low))), (2, (.int .i64 (high)))]) Try.func56 rfl Try.ntmps56 (Args.get ⟨rfl, rfl, rfl, trivial⟩) rfl ?_
  intro a hf
  have hm := Mem.start w0
  refine wp_seq ?_
  refine wp_region_lit ?_
  refine st_y hf rfl rfl rfl (y_assign rfl rfl) ?_
  clear hf a; intro a hf
  refine st_end ?_
  refine x_then_n ?_
  refine wp_seq ?_
  obtain ⟨s0_1, hq0_1, hq⟩ := bnd hq
  refine code_cut (K := fun a w => Fr 15 [(6, (.bool (s0_1)))] a ∧ Mem w0 (hp w0) w []) ?_ ?_
  ·
   refine wp_region_lit ?_
   refine st_y hf rfl rfl rfl (y_move rfl rfl) ?_
   clear hf a; intro a hf
   refine st_y hf rfl rfl rfl (y_move rfl rfl) ?_
   clear hf a; intro a hf
   refine st_y hf rfl rfl rfl (y_geq rfl rfl rfl) ?_
   clear hf a; intro a hf
   refine st_y hf rfl rfl rfl (y_move rfl rfl) ?_
   clear hf a; intro a hf
   rcases bcases (decide (low ≤ n_)) with h1_1 | h1_1
   ·
    replace hq0_1 := (ite_t h1_1).symm.trans hq0_1
    have h1_2 := of_decide_eq_true h1_1
    refine st_yg hf rfl rfl (lk_b rfl h1_1) rfl rfl (y_move rfl rfl) ?_
    clear hf a; intro a hf
    refine st_yg hf rfl rfl (lk_b rfl h1_1) rfl rfl (y_move rfl rfl) ?_
    clear hf a; intro a hf
    refine st_yg hf rfl rfl (lk_b rfl h1_1) rfl rfl (y_leq rfl rfl rfl) ?_
    clear hf a; intro a hf
    refine st_y hf rfl rfl rfl (y_pick_t rfl (ev_b rfl h1_1) rfl) ?_
    clear hf a; intro a hf
    refine st_y hf rfl rfl rfl (y_assign rfl rfl) ?_
    clear hf a; intro a hf
    refine st_end ?_
    refine x_then_n ?_
    obtain rfl := Option.some.inj hq0_1
    exact ⟨hf.sub ⟨rfl, trivial⟩, hm.pick [] (by decide) rfl⟩
   ·
    replace hq0_1 := (ite_f h1_1).symm.trans hq0_1
    have h1_3 := of_decide_eq_false h1_1
    refine st_no hf rfl rfl (lk_b rfl h1_1) rfl rfl rfl ?_
    clear hf a; intro a hf
    refine st_no hf rfl rfl (lk_b rfl h1_1) rfl rfl rfl ?_
    clear hf a; intro a hf
    refine st_no hf rfl rfl (lk_b rfl h1_1) rfl rfl rfl ?_
    clear hf a; intro a hf
    refine st_y hf rfl rfl rfl (y_pick_f rfl (ev_b rfl h1_1) rfl) ?_
    clear hf a; intro a hf
    refine st_y hf rfl rfl rfl (y_assign rfl rfl) ?_
    clear hf a; intro a hf
    refine st_end ?_
    refine x_then_n ?_
    obtain rfl := Option.some.inj hq0_1
    exact ⟨hf.sub ⟨rfl, trivial⟩, hm.pick [] (by decide) rfl⟩
  ·
   clear hf hm
   rintro a w ⟨hf, hm⟩
   refine x_then_n ?_
   refine wp_ret ?_
   obtain rfl := Option.some.inj hq
   refine ret_tmp hf Try.results56 rfl ?_
   exact ⟨rfl, hm.below⟩

theorem spec_l7Regs_ok (w0 : World) (c_ : Code_) (v1 : Value) (h1 : GT.rep (hp w0) [v1] c_.blocks) (list : List Int) (v2 : Value) (h2 : GT.rep (hp w0) [v2] list) (r : Bool) (hq : spec_l7Regs c_ list = some r) :
    Con Try.prog 144 [(.agg #[(.int .i64 (c_.params)), (.int .i64 (c_.regs)), v1]), v2] w0 (fun v w' => v = (.bool (r)) ∧ Below w0.heap.size w0 w') := by
  unfold spec_l7Regs at hq
  refine con_body (l := [(0, (.agg #[(.int .i64 (c_.params)), (.int .i64 (c_.regs)), v1])), (1, v2)]) Try.func144 rfl Try.ntmps144 (Args.get ⟨rfl, rfl, trivial⟩) rfl ?_
  intro a hf
  have hm := Mem.start w0
  refine wp_seq ?_
  refine wp_region_lit ?_
  refine st_ef hf rfl rfl rfl (e_box hf hm rfl rfl rfl) ?_
  clear hf a; rintro _ w0_1 a ⟨b0_1, rfl, hm⟩ hf
  refine st_y hf rfl rfl rfl (y_assign rfl rfl) ?_
  clear hf a; intro a hf
  refine st_end ?_
  refine x_then_n ?_
  refine wp_seq ?_
  refine wp_seq ?_
  refine wp_region_lit ?_
  refine st_y hf rfl rfl rfl (y_assign rfl rfl) ?_
  clear hf a; intro a hf
  refine st_end ?_
  refine x_then_n ?_
  refine wp_block ?_
  obtain ⟨r0_1, hl0_1, hq⟩ := bnd hq
  refine wp_forN _ (fun i1_1 xs1_1 a w => Fr 21 [(1, v2), (2, (.pointer (some ⟨b0_1, 0, none⟩))), (5, (.int .i64 (i1_1)))] a ∧ Mem w0 (hp w0) w [blk b0_1 [(.int .i64 (c_.params)), (.int .i64 (c_.regs)), v1] 55]) (0) ((list.length : Int)) hl0_1 ?_ ?_ ?_
  ·
   exact ⟨hf.sub ⟨rfl, rfl, rfl, trivial⟩, hm.pick [0] (by decide) rfl⟩
  ·
   clear hf hm
   rintro i1_1 xs1_1 a w ⟨hf, hm⟩ hi1_1 hi1_2 q0_1 hb0_1 ho0_1
   refine wp_seq ?_
   refine wp_seq ?_
   refine wp_region_lit ?_
   refine st_y hf rfl rfl rfl (y_move rfl rfl) ?_
   clear hf a; intro a hf
   refine st_y hf rfl rfl rfl (y_move rfl rfl) ?_
   clear hf a; intro a hf
   obtain ⟨p1_1, c1_1, he, hl1_1⟩ := ro_slice h2
   subst he
   refine st_y hf rfl rfl rfl (y_len_slice st_26.und rfl rfl) ?_
   clear hf a; intro a hf
   refine st_y hf rfl rfl rfl (y_lss rfl rfl rfl) ?_
   clear hf a; intro a hf
   refine st_end ?_
   refine x_then_n ?_
   refine cond_t hf rfl (decide_eq_true (by omega)) ?_
   refine wp_skip ?_
   refine x_then_n ?_
   refine wp_seq ?_
   refine wp_block ?_
   refine wp_seq ?_
   refine wp_tree (.p 0 (.p 1 (.p 2 (.p 4 (.q 3 (.e 5 (.p 6 (.e 7 (.p 8 .fin) .nil)) .nil)))))) [5] [0, 1, 2, 4, 6, 8] (fun w => Mem w0 (hp w0) w [blk b0_1 [(.int .i64 (c_.params)), (.int .i64 (c_.regs)), v1] 55]) (by kernel_rfl) (by kernel_rfl) (fun _ _ _ h => h.2) ?_
   replace hm := hm.drew
   have hS : Mem w0 (hp w0) _ [blk b0_1 [(.int .i64 (c_.params)), (.int .i64 (c_.regs)), v1] 55] := hm.pick [0] (by decide) rfl
   refine td_p hf rfl rfl rfl rfl (fun w => y_move rfl rfl) ?_
   clear hf a; intro a hf
   refine td_p hf rfl rfl rfl rfl (fun w => y_move rfl rfl) ?_
   clear hf a; intro a hf
   obtain ⟨x1_1, hx1_1, hb0_1⟩ := bnd hb0_1
   obtain ⟨h1_1, hx1_2⟩ := getI_some.1 hx1_1
   obtain ⟨b1_1, o1_1, c1_2, he⟩ := idx_form h2 hx1_2
   simp only [Value.slice.injEq, Option.some.injEq] at he; obtain ⟨rfl, _, rfl⟩ := he
   refine td_p hf rfl rfl rfl rfl (fun w => y_indexAddr st_26 rfl rfl rfl h1_1 (idx_lt hx1_2)) ?_
   clear hf a; intro a hf
   refine td_p hf rfl rfl rfl rfl (fun w => y_fieldAddr fo_55_1 rfl rfl) ?_
   clear hf a; intro a hf
   refine td_y hf rfl rfl rfl rfl hS (fun w hm => y_load1 Try.isAgg3 rfl rfl ((flat_cells (cs := [(.int .i64 (x1_1))]) (hm.now h2) hx1_2 rfl).cell (j := 0) rfl)) ?_
   clear hf a; intro a hf
   refine te_one ?_
   refine td_ef hf rfl rfl rfl rfl (ef_y hf (y_load1 Try.isAgg3 rfl rfl (hm.blk_cell 0 rfl rfl))) ?_
   clear hf a; rintro _ _ a ⟨rfl, rfl⟩ hf
   refine ⟨fun _ => hS, ?_⟩
   refine td_p hf rfl rfl rfl rfl (fun w => y_subw rfl rfl rfl) ?_
   clear hf a; intro a hf
   refine te_one ?_
   obtain ⟨r1_1, hx1_3, hb0_1⟩ := bnd hb0_1
   refine td_ef hf rfl rfl rfl rfl (e_call hf rfl Try.call56 rfl (spec_l1In_ok _ x1_1 0 (w64 (c_.regs - 1)) _ hx1_3)) ?_
   clear hf a; rintro v1_1 w1_1 a ho1_1 hf
   obtain ⟨rfl, hB⟩ := ho1_1
   replace hm := hm.below' hB; clear hB
   refine ⟨fun h => absurd h (by decide), ?_⟩
   refine td_p hf rfl rfl rfl rfl (fun w => y_not rfl rfl) ?_
   clear hf a; intro a hf
   clear hS; refine td_end ?_
   refine x_then_n ?_
   rcases bcases (!(r1_1)) with h1_2 | h1_2
   ·
    replace hb0_1 := (ite_t h1_2).symm.trans hb0_1
    have h1_3 := bnot_t' h1_2
    refine cond_t hf rfl h1_2 ?_
    refine wp_seq ?_
    refine wp_region_lit ?_
    refine st_y hf rfl rfl rfl (y_assign rfl rfl) ?_
    clear hf a; intro a hf
    refine st_end ?_
    refine x_then_n ?_
    refine wp_ret ?_
    refine x_blk_ret ?_
    refine x_then_ret ?_
    refine x_then_ret ?_
    refine x_blk_ret ?_
    refine x_then_ret ?_
    obtain rfl := Option.some.inj hb0_1
    obtain rfl := ho0_1 _ rfl
    replace hq := sum_r hq
    obtain rfl := Option.some.inj hq
    refine ret_tmp hf Try.results144 rfl ?_
    exact ⟨rfl, hm.below⟩
   ·
    replace hb0_1 := (ite_f h1_2).symm.trans hb0_1
    have h1_4 := bnot_f' h1_2
    refine cond_f hf rfl h1_2 ?_
    refine wp_skip ?_
    refine x_blk_n ?_
    refine x_then_n ?_
    refine wp_region_lit ?_
    refine st_y hf rfl rfl rfl (y_move rfl rfl) ?_
    clear hf a; intro a hf
    refine st_y hf rfl rfl rfl (y_add64 rfl rfl rfl (by omega) (by omega)) ?_
    clear hf a; intro a hf
    refine st_y hf rfl rfl rfl (y_assign rfl rfl) ?_
    clear hf a; intro a hf
    refine st_end ?_
    refine x_then_n ?_
    obtain rfl := Option.some.inj hb0_1
    exact ⟨_, rfl, hf.sub ⟨rfl, rfl, rfl, trivial⟩, hm.pick [0] (by decide) rfl⟩
  ·
   clear hf hm
   rintro i0_1 xs0_1 a w ⟨hf, hm⟩ hi0_1 hi0_2 rfl
   replace hq := sum_l hq
   refine wp_seq ?_
   refine wp_seq ?_
   refine wp_region_lit ?_
   refine st_y hf rfl rfl rfl (y_move rfl rfl) ?_
   clear hf a; intro a hf
   refine st_y hf rfl rfl rfl (y_move rfl rfl) ?_
   clear hf a; intro a hf
   obtain ⟨p0_1, c0_1, he, hl0_2⟩ := ro_slice h2
   subst he
   refine st_y hf rfl rfl rfl (y_len_slice st_26.und rfl rfl) ?_
   clear hf a; intro a hf
   refine st_y hf rfl rfl rfl (y_lss rfl rfl rfl) ?_
   clear hf a; intro a hf
   refine st_end ?_
   refine x_then_n ?_
   refine cond_f hf rfl (decide_eq_false (by omega)) ?_
   refine wp_exit ?_
   refine x_then_exit ?_
   refine x_then_exit ?_
   refine x_blk_hit ?_
   refine x_then_n ?_
   refine wp_seq ?_
   refine wp_region_lit ?_
   refine st_y hf rfl rfl rfl (y_assign rfl rfl) ?_
   clear hf a; intro a hf
   refine st_end ?_
   refine x_then_n ?_
   refine wp_ret ?_
   obtain rfl := Option.some.inj hq
   refine ret_tmp hf Try.results144 rfl ?_
   exact ⟨rfl, hm.below⟩

theorem spec_l7Makes_ok (w0 : World) (op : Int) (r : Bool) (hq : spec_l7Makes op = some r) :
    Con Try.prog 128 [(.int .i64 (op))] w0 (fun v w' => v = (.bool (r)) ∧ Below w0.heap.size w0 w') := by
  unfold spec_l7Makes at hq
  refine con_body (l := [(0, (.int .i64 (op)))]) Try.func128 rfl Try.ntmps128 (Args.get ⟨rfl, trivial⟩) rfl ?_
  intro a hf
  have hm := Mem.start w0
  refine wp_seq ?_
  refine wp_region_lit ?_
  refine st_y hf rfl rfl rfl (y_assign rfl rfl) ?_
  clear hf a; intro a hf
  refine st_end ?_
  refine x_then_n ?_
  refine wp_seq ?_
  obtain ⟨s0_1, hq0_1, hq⟩ := bnd hq
  refine code_cut (K := fun a w => Fr 13 [(2, (.bool (s0_1)))] a ∧ Mem w0 (hp w0) w []) ?_ ?_
  ·
   refine wp_region_lit ?_
   refine st_y hf rfl rfl rfl (y_move rfl rfl) ?_
   clear hf a; intro a hf
   obtain ⟨r1_1, hx1_1, hq0_1⟩ := bnd hq0_1
   refine st_ef hf rfl rfl rfl (e_call hf rfl Try.call56 rfl (spec_l1In_ok _ op 1 14 _ hx1_1)) ?_
   clear hf a; rintro v1_1 w1_1 a ho1_1 hf
   obtain ⟨rfl, hB⟩ := ho1_1
   replace hm := hm.below' hB; clear hB
   refine st_y hf rfl rfl rfl (y_move rfl rfl) ?_
   clear hf a; intro a hf
   rcases bcases (r1_1) with h1_1 | h1_1
   ·
    replace hq0_1 := (ite_t h1_1).symm.trans hq0_1
    refine st_yg hf rfl rfl (lk_b rfl h1_1) rfl rfl (y_move rfl rfl) ?_
    clear hf a; intro a hf
    refine st_yg hf rfl rfl (lk_b rfl h1_1) rfl rfl (y_neq rfl rfl rfl) ?_
    clear hf a; intro a hf
    refine st_y hf rfl rfl rfl (y_pick_t rfl (ev_b rfl h1_1) rfl) ?_
    clear hf a; intro a hf
    refine st_y hf rfl rfl rfl (y_move rfl rfl) ?_
    clear hf a; intro a hf
    rcases bcases (decide (op ≠ 12)) with h1_2 | h1_2
    ·
     replace hq0_1 := (ite_t h1_2).symm.trans hq0_1
     have h1_3 := of_decide_eq_true h1_2
     refine st_yg hf rfl rfl (lk_b rfl h1_2) rfl rfl (y_move rfl rfl) ?_
     clear hf a; intro a hf
     refine st_yg hf rfl rfl (lk_b rfl h1_2) rfl rfl (y_neq rfl rfl rfl) ?_
     clear hf a; intro a hf
     refine st_y hf rfl rfl rfl (y_pick_t rfl (ev_b rfl h1_2) rfl) ?_
     clear hf a; intro a hf
     refine st_y hf rfl rfl rfl (y_assign rfl rfl) ?_
     clear hf a; intro a hf
     refine st_end ?_
     refine x_then_n ?_
     obtain rfl := Option.some.inj hq0_1
     exact ⟨hf.sub ⟨rfl, trivial⟩, hm.pick [] (by decide) rfl⟩
    ·
     replace hq0_1 := (ite_f h1_2).symm.trans hq0_1
     have h1_4 := of_decide_eq_false h1_2
     refine st_no hf rfl rfl (lk_b rfl h1_2) rfl rfl rfl ?_
     clear hf a; intro a hf
     refine st_no hf rfl rfl (lk_b rfl h1_2) rfl rfl rfl ?_
     clear hf a; intro a hf
     refine st_y hf rfl rfl rfl (y_pick_f rfl (ev_b rfl h1_2) rfl) ?_
     clear hf a; intro a hf
     refine st_y hf rfl rfl rfl (y_assign rfl rfl) ?_
     clear hf a; intro a hf
     refine st_end ?_
     refine x_then_n ?_
     obtain rfl := Option.some.inj hq0_1
     exact ⟨hf.sub ⟨rfl, trivial⟩, hm.pick [] (by decide) rfl⟩
   ·
    replace hq0_1 := (ite_f h1_1).symm.trans hq0_1
    refine st_no hf rfl rfl (lk_b rfl h1_1) rfl rfl rfl ?_
    clear hf a; intro a hf
    refine st_no hf rfl rfl (lk_b rfl h1_1) rfl rfl rfl ?_
    clear hf a; intro a hf
    refine st_y hf rfl rfl rfl (y_pick_f rfl (ev_b rfl h1_1) rfl) ?_
    clear hf a; intro a hf
    refine st_y hf rfl rfl rfl (y_move rfl rfl) ?_
    clear hf a; intro a hf
    refine st_no hf rfl rfl (lk_b rfl rfl) rfl rfl rfl ?_
    clear hf a; intro a hf
    refine st_no hf rfl rfl (lk_b rfl rfl) rfl rfl rfl ?_
    clear hf a; intro a hf
    refine st_y hf rfl rfl rfl (y_pick_f rfl (ev_b rfl rfl) rfl) ?_
    clear hf a; intro a hf
    refine st_y hf rfl rfl rfl (y_assign rfl rfl) ?_
    clear hf a; intro a hf
    refine st_end ?_
    refine x_then_n ?_
    obtain rfl := Option.some.inj hq0_1
    exact ⟨hf.sub ⟨rfl, trivial⟩, hm.pick [] (by decide) rfl⟩
  ·
   clear hf hm
   rintro a w ⟨hf, hm⟩
   refine x_then_n ?_
   refine wp_ret ?_
   obtain rfl := Option.some.inj hq
   refine ret_tmp hf Try.results128 rfl ?_
   exact ⟨rfl, hm.below⟩

theorem spec_l7Args_ok (w0 : World) (op : Int) (r : Int) (hq : spec_l7Args op = some r) :
    Con Try.prog 135 [(.int .i64 (op))] w0 (fun v w' => v = (.int .i64 (r)) ∧ Below w0.heap.size w0 w') := by
  unfold spec_l7Args at hq
  refine con_body (l := [(0, (.int .i64 (op)))]) Try.func135 rfl Try.ntmps135 (Args.get ⟨rfl, trivial⟩) rfl ?_
  intro a hf
  have hm := Mem.start w0
  refine wp_seq ?_
  refine wp_region_lit ?_
  refine st_y hf rfl rfl rfl (y_assign rfl rfl) ?_
  clear hf a; intro a hf
  refine st_end ?_
  refine x_then_n ?_
  refine wp_seq ?_
  refine wp_block ?_
  refine wp_seq ?_
  refine wp_region_lit ?_
  refine st_y hf rfl rfl rfl (y_move rfl rfl) ?_
  clear hf a; intro a hf
  refine st_y hf rfl rfl rfl (y_eql rfl rfl rfl) ?_
  clear hf a; intro a hf
  refine st_y hf rfl rfl rfl (y_assign rfl rfl) ?_
  clear hf a; intro a hf
  refine st_end ?_
  refine x_then_n ?_
  rcases bcases (decide (op = 1)) with h0_1 | h0_1
  ·
   replace hq := (ite_t h0_1).symm.trans hq
   have h0_2 := of_decide_eq_true h0_1
   refine cond_t hf rfl h0_1 ?_
   refine wp_seq ?_
   refine wp_region_lit ?_
   refine st_y hf rfl rfl rfl (y_assign rfl rfl) ?_
   clear hf a; intro a hf
   refine st_end ?_
   refine x_then_n ?_
   refine wp_ret ?_
   refine x_blk_ret ?_
   refine x_then_ret ?_
   obtain rfl := Option.some.inj hq
   refine ret_tmp hf Try.results135 rfl ?_
   exact ⟨rfl, hm.below⟩
  ·
   replace hq := (ite_f h0_1).symm.trans hq
   have h0_3 := of_decide_eq_false h0_1
   refine cond_f hf rfl h0_1 ?_
   refine wp_seq ?_
   obtain ⟨s0_1, hq0_1, hq⟩ := bnd hq
   refine code_cut (K := fun a w => Fr 28 [(0, (.int .i64 (op))), (6, (.bool (s0_1)))] a ∧ Mem w0 (hp w0) w []) ?_ ?_
   ·
    refine wp_region_lit ?_
    refine st_y hf rfl rfl rfl (y_move rfl rfl) ?_
    clear hf a; intro a hf
    refine st_y hf rfl rfl rfl (y_eql rfl rfl rfl) ?_
    clear hf a; intro a hf
    refine st_y hf rfl rfl rfl (y_move rfl rfl) ?_
    clear hf a; intro a hf
    rcases bcases (decide (op = 2)) with h1_1 | h1_1
    ·
     replace hq0_1 := (ite_t h1_1).symm.trans hq0_1
     have h1_2 := of_decide_eq_true h1_1
     refine st_no hf rfl rfl (lk_b rfl h1_1) rfl rfl rfl ?_
     clear hf a; intro a hf
     refine st_no hf rfl rfl (lk_b rfl h1_1) rfl rfl rfl ?_
     clear hf a; intro a hf
     refine st_y hf rfl rfl rfl (y_pick_t rfl (ev_b rfl h1_1) rfl) ?_
     clear hf a; intro a hf
     refine st_y hf rfl rfl rfl (y_move rfl rfl) ?_
     clear hf a; intro a hf
     refine st_no hf rfl rfl (lk_b rfl rfl) rfl rfl rfl ?_
     clear hf a; intro a hf
     refine st_no hf rfl rfl (lk_b rfl rfl) rfl rfl rfl ?_
     clear hf a; intro a hf
     refine st_y hf rfl rfl rfl (y_pick_t rfl (ev_b rfl rfl) rfl) ?_
     clear hf a; intro a hf
     refine st_y hf rfl rfl rfl (y_move rfl rfl) ?_
     clear hf a; intro a hf
     refine st_no hf rfl rfl (lk_b rfl rfl) rfl rfl rfl ?_
     clear hf a; intro a hf
     refine st_no hf rfl rfl (lk_b rfl rfl) rfl rfl rfl ?_
     clear hf a; intro a hf
     refine st_y hf rfl rfl rfl (y_pick_t rfl (ev_b rfl rfl) rfl) ?_
     clear hf a; intro a hf
     refine st_y hf rfl rfl rfl (y_assign rfl rfl) ?_
     clear hf a; intro a hf
     refine st_end ?_
     refine x_then_n ?_
     obtain rfl := Option.some.inj hq0_1
     exact ⟨hf.sub ⟨rfl, rfl, trivial⟩, hm.pick [] (by decide) rfl⟩
    ·
     replace hq0_1 := (ite_f h1_1).symm.trans hq0_1
     have h1_3 := of_decide_eq_false h1_1
     refine st_yg hf rfl rfl (lk_b rfl h1_1) rfl rfl (y_move rfl rfl) ?_
     clear hf a; intro a hf
     refine st_yg hf rfl rfl (lk_b rfl h1_1) rfl rfl (y_eql rfl rfl rfl) ?_
     clear hf a; intro a hf
     refine st_y hf rfl rfl rfl (y_pick_f rfl (ev_b rfl h1_1) rfl) ?_
     clear hf a; intro a hf
     refine st_y hf rfl rfl rfl (y_move rfl rfl) ?_
     clear hf a; intro a hf
     rcases bcases (decide (op = 10)) with h1_4 | h1_4
     ·
      replace hq0_1 := (ite_t h1_4).symm.trans hq0_1
      have h1_5 := of_decide_eq_true h1_4
      refine st_no hf rfl rfl (lk_b rfl h1_4) rfl rfl rfl ?_
      clear hf a; intro a hf
      refine st_no hf rfl rfl (lk_b rfl h1_4) rfl rfl rfl ?_
      clear hf a; intro a hf
      refine st_y hf rfl rfl rfl (y_pick_t rfl (ev_b rfl h1_4) rfl) ?_
      clear hf a; intro a hf
      refine st_y hf rfl rfl rfl (y_move rfl rfl) ?_
      clear hf a; intro a hf
      refine st_no hf rfl rfl (lk_b rfl rfl) rfl rfl rfl ?_
      clear hf a; intro a hf
      refine st_no hf rfl rfl (lk_b rfl rfl) rfl rfl rfl ?_
      clear hf a; intro a hf
      refine st_y hf rfl rfl rfl (y_pick_t rfl (ev_b rfl rfl) rfl) ?_
      clear hf a; intro a hf
      refine st_y hf rfl rfl rfl (y_assign rfl rfl) ?_
      clear hf a; intro a hf
      refine st_end ?_
      refine x_then_n ?_
      obtain rfl := Option.some.inj hq0_1
      exact ⟨hf.sub ⟨rfl, rfl, trivial⟩, hm.pick [] (by decide) rfl⟩
     ·
      replace hq0_1 := (ite_f h1_4).symm.trans hq0_1
      have h1_6 := of_decide_eq_false h1_4
      refine st_yg hf rfl rfl (lk_b rfl h1_4) rfl rfl (y_move rfl rfl) ?_
      clear hf a; intro a hf
      refine st_yg hf rfl rfl (lk_b rfl h1_4) rfl rfl (y_eql rfl rfl rfl) ?_
      clear hf a; intro a hf
      refine st_y hf rfl rfl rfl (y_pick_f rfl (ev_b rfl h1_4) rfl) ?_
      clear hf a; intro a hf
      refine st_y hf rfl rfl rfl (y_move rfl rfl) ?_
      clear hf a; intro a hf
      rcases bcases (decide (op = 11)) with h1_7 | h1_7
      ·
       replace hq0_1 := (ite_t h1_7).symm.trans hq0_1
       have h1_8 := of_decide_eq_true h1_7
       refine st_no hf rfl rfl (lk_b rfl h1_7) rfl rfl rfl ?_
       clear hf a; intro a hf
       refine st_no hf rfl rfl (lk_b rfl h1_7) rfl rfl rfl ?_
       clear hf a; intro a hf
       refine st_y hf rfl rfl rfl (y_pick_t rfl (ev_b rfl h1_7) rfl) ?_
       clear hf a; intro a hf
       refine st_y hf rfl rfl rfl (y_assign rfl rfl) ?_
       clear hf a; intro a hf
       refine st_end ?_
       refine x_then_n ?_
       obtain rfl := Option.some.inj hq0_1
       exact ⟨hf.sub ⟨rfl, rfl, trivial⟩, hm.pick [] (by decide) rfl⟩
      ·
       replace hq0_1 := (ite_f h1_7).symm.trans hq0_1
       have h1_9 := of_decide_eq_false h1_7
       refine st_yg hf rfl rfl (lk_b rfl h1_7) rfl rfl (y_move rfl rfl) ?_
       clear hf a; intro a hf
       refine st_yg hf rfl rfl (lk_b rfl h1_7) rfl rfl (y_eql rfl rfl rfl) ?_
       clear hf a; intro a hf
       refine st_y hf rfl rfl rfl (y_pick_f rfl (ev_b rfl h1_7) rfl) ?_
       clear hf a; intro a hf
       refine st_y hf rfl rfl rfl (y_assign rfl rfl) ?_
       clear hf a; intro a hf
       refine st_end ?_
       refine x_then_n ?_
       obtain rfl := Option.some.inj hq0_1
       exact ⟨hf.sub ⟨rfl, rfl, trivial⟩, hm.pick [] (by decide) rfl⟩
   ·
    clear hf hm
    rintro a w ⟨hf, hm⟩
    refine x_then_n ?_
    rcases bcases (s0_1) with h0_4 | h0_4
    ·
     replace hq := (ite_t h0_4).symm.trans hq
     refine cond_t hf rfl h0_4 ?_
     refine wp_seq ?_
     refine wp_region_lit ?_
     refine st_y hf rfl rfl rfl (y_assign rfl rfl) ?_
     clear hf a; intro a hf
     refine st_end ?_
     refine x_then_n ?_
     refine wp_ret ?_
     refine x_blk_ret ?_
     refine x_then_ret ?_
     obtain rfl := Option.some.inj hq
     refine ret_tmp hf Try.results135 rfl ?_
     exact ⟨rfl, hm.below⟩
    ·
     replace hq := (ite_f h0_4).symm.trans hq
     refine cond_f hf rfl h0_4 ?_
     refine wp_seq ?_
     obtain ⟨s0_2, hq0_2, hq⟩ := bnd hq
     refine code_cut (K := fun a w => Fr 28 [(21, (.bool (s0_2)))] a ∧ Mem w0 (hp w0) w []) ?_ ?_
     ·
      refine wp_region_lit ?_
      refine st_y hf rfl rfl rfl (y_move rfl rfl) ?_
      clear hf a; intro a hf
      obtain ⟨r1_1, hx1_1, hq0_2⟩ := bnd hq0_2
      refine st_ef hf rfl rfl rfl (e_call hf rfl Try.call56 rfl (spec_l1In_ok _ op 3 9 _ hx1_1)) ?_
      clear hf a; rintro v1_1 w1_1 a ho1_1 hf
      obtain ⟨rfl, hB⟩ := ho1_1
      replace hm := hm.below' hB; clear hB
      refine st_y hf rfl rfl rfl (y_move rfl rfl) ?_
      clear hf a; intro a hf
      rcases bcases (r1_1) with h1_10 | h1_10
      ·
       replace hq0_2 := (ite_t h1_10).symm.trans hq0_2
       refine st_no hf rfl rfl (lk_b rfl h1_10) rfl rfl rfl ?_
       clear hf a; intro a hf
       refine st_no hf rfl rfl (lk_b rfl h1_10) rfl rfl rfl ?_
       clear hf a; intro a hf
       refine st_y hf rfl rfl rfl (y_pick_t rfl (ev_b rfl h1_10) rfl) ?_
       clear hf a; intro a hf
       refine st_y hf rfl rfl rfl (y_assign rfl rfl) ?_
       clear hf a; intro a hf
       refine st_end ?_
       refine x_then_n ?_
       obtain rfl := Option.some.inj hq0_2
       exact ⟨hf.sub ⟨rfl, trivial⟩, hm.pick [] (by decide) rfl⟩
      ·
       replace hq0_2 := (ite_f h1_10).symm.trans hq0_2
       refine st_yg hf rfl rfl (lk_b rfl h1_10) rfl rfl (y_move rfl rfl) ?_
       clear hf a; intro a hf
       refine st_yg hf rfl rfl (lk_b rfl h1_10) rfl rfl (y_eql rfl rfl rfl) ?_
       clear hf a; intro a hf
       refine st_y hf rfl rfl rfl (y_pick_f rfl (ev_b rfl h1_10) rfl) ?_
       clear hf a; intro a hf
       refine st_y hf rfl rfl rfl (y_assign rfl rfl) ?_
       clear hf a; intro a hf
       refine st_end ?_
       refine x_then_n ?_
       obtain rfl := Option.some.inj hq0_2
       exact ⟨hf.sub ⟨rfl, trivial⟩, hm.pick [] (by decide) rfl⟩
     ·
      clear hf hm
      rintro a w ⟨hf, hm⟩
      refine x_then_n ?_
      rcases bcases (s0_2) with h0_5 | h0_5
      ·
       replace hq := (ite_t h0_5).symm.trans hq
       refine cond_t hf rfl h0_5 ?_
       refine wp_seq ?_
       refine wp_region_lit ?_
       refine st_y hf rfl rfl rfl (y_assign rfl rfl) ?_
       clear hf a; intro a hf
       refine st_end ?_
       refine x_then_n ?_
       refine wp_ret ?_
       refine x_blk_ret ?_
       refine x_then_ret ?_
       obtain rfl := Option.some.inj hq
       refine ret_tmp hf Try.results135 rfl ?_
       exact ⟨rfl, hm.below⟩
      ·
       replace hq := (ite_f h0_5).symm.trans hq
       refine cond_f hf rfl h0_5 ?_
       refine wp_skip ?_
       refine x_blk_n ?_
       refine x_then_n ?_
       refine wp_seq ?_
       refine wp_region_lit ?_
       refine st_y hf rfl rfl rfl (y_assign rfl rfl) ?_
       clear hf a; intro a hf
       refine st_end ?_
       refine x_then_n ?_
       refine wp_ret ?_
       obtain rfl := Option.some.inj hq
       refine ret_tmp hf Try.results135 rfl ?_
       exact ⟨rfl, hm.below⟩

theorem spec_l7Ins_ok (w0 : World) (u : Unit_) (v1 : Value) (h1 : GT.rep (hp w0) [v1] u.codes) (k_ : Int) (x_ : Ins_) (v2 : Value) (h2 : GT.rep (hp w0) [v2] x_.args) (r : Bool) (hq : spec_l7Ins u k_ x_ = some r) :
    Con Try.prog 143 [(.agg #[v1]), (.int .i64 (k_)), (.agg #[(.int .i64 (x_.op)), (.int .i64 (x_.to)), v2, (.int .i64 (x_.n_))])] w0 (fun v w' => v = (.bool (r)) ∧ Below w0.heap.size w0 w') := by
  unfold spec_l7Ins at hq
  refine con_body (l := [(0, (.agg #[v1])), (1, (.int .i64 (k_))), (2, (.agg #[(.int .i64 (x_.op)), (.int .i64 (x_.to)), v2, (.int .i64 (x_.n_))]))]) Try.func143 rfl Try.ntmps143 (Args.get ⟨rfl, rfl, rfl, trivial⟩) rfl ?_
  intro a hf
  have hm := Mem.start w0
  refine wp_seq ?_
  refine wp_region_lit ?_
  refine st_ef hf rfl rfl rfl (e_box hf hm rfl rfl rfl) ?_
  clear hf a; rintro _ w0_1 a ⟨b0_1, rfl, hm⟩ hf
  refine st_ef hf rfl rfl rfl (e_box hf hm rfl rfl rfl) ?_
  clear hf a; rintro _ w0_2 a ⟨b0_2, rfl, hm⟩ hf
  refine st_y hf rfl rfl rfl (y_assign rfl rfl) ?_
  clear hf a; intro a hf
  refine st_end ?_
  refine x_then_n ?_
  refine wp_seq ?_
  refine wp_region_lit ?_
  refine st_y hf rfl rfl rfl (y_fieldAddr fo_40_0 rfl rfl) ?_
  clear hf a; intro a hf
  refine st_y hf rfl rfl rfl (y_load1 Try.isAgg38 rfl rfl (hm.blk_cell 1 rfl rfl)) ?_
  clear hf a; intro a hf
  refine st_y hf rfl rfl rfl (y_move rfl rfl) ?_
  clear hf a; intro a hf
  obtain ⟨x0_1, hx0_1, hq⟩ := bnd hq
  obtain ⟨h0_1, hx0_2⟩ := getI_some.1 hx0_1
  obtain ⟨b0_3, o0_1, c0_1, he⟩ := idx_form' h1 hx0_2
  subst he
  obtain ⟨_, _, hc0_1, hr0_1⟩ := ro_get' h1 hx0_2
  obtain ⟨_, _, rfl, rfl, _, _, rfl, rfl, h0_2⟩ := hr0_1
  obtain ⟨v0_1, rfl, -⟩ := id h0_2
  replace h0_2 : GT.rep (hp w0) [v0_1] x0_1.blocks := h0_2
  replace hc0_1 : CellsAt (hp w0) b0_3 (o0_1 + (k_).toNat * 3) [(.int .i64 (x0_1.params)), (.int .i64 (x0_1.regs)), v0_1] := hc0_1
  refine st_y hf rfl rfl rfl (y_indexAddr st_38 rfl rfl rfl h0_1 (idx_lt hx0_2)) ?_
  clear hf a; intro a hf
  refine st_y hf rfl rfl rfl (y_loadN (cs := [(.int .i64 (x0_1.params)), (.int .i64 (x0_1.regs)), v0_1]) Try.isAgg55 Try.sizeOf55 rfl rfl (hc0_1.mono hm.lez)) ?_
  clear hf a; intro a hf
  refine st_ef hf rfl rfl rfl (e_alloc hm Try.zeroValue55 rfl rfl) ?_
  clear hf a; rintro _ w0_3 a ⟨b0_4, rfl, hm⟩ hf
  refine st_ef0 hf rfl rfl (e_storeN 0 hf hm rfl Try.sizeOf55 rfl rfl rfl (one_cons rfl (one_cons rfl (one_cons (rep_one h0_2) one_nil))) rfl rfl) ?_
  clear hf a; rintro _ w0_4 a hm hf
  refine st_end ?_
  refine x_then_n ?_
  refine wp_seq ?_
  refine wp_seq ?_
  obtain ⟨s0_1, hq0_1, hq⟩ := bnd hq
  refine code_cut (K := fun a w => Fr 88 [(1, (.int .i64 (k_))), (3, (.pointer (some ⟨b0_1, 0, none⟩))), (5, (.pointer (some ⟨b0_2, 0, none⟩))), (7, (.pointer (some ⟨b0_4, 0, none⟩))), (23, (.bool (s0_1)))] a ∧ Mem w0 (hp w0) w [blk b0_1 [(.slice (some ⟨b0_3, o0_1, none⟩) u.codes.length c0_1)] 40, blk b0_2 [(.int .i64 (x_.op)), (.int .i64 (x_.to)), v2, (.int .i64 (x_.n_))] 57, blk b0_4 [(.int .i64 (x0_1.params)), (.int .i64 (x0_1.regs)), v0_1] 55]) ?_ ?_
  ·
   refine wp_region_lit ?_
   refine st_y hf rfl rfl rfl (y_fieldAddr fo_57_0 rfl rfl) ?_
   clear hf a; intro a hf
   refine st_y hf rfl rfl rfl (y_load1 Try.isAgg3 rfl rfl (hm.blk_cell 1 rfl rfl)) ?_
   clear hf a; intro a hf
   obtain ⟨r1_1, hx1_1, hq0_1⟩ := bnd hq0_1
   refine st_ef hf rfl rfl rfl (e_call hf rfl Try.call56 rfl (spec_l1In_ok _ x_.op 1 14 _ hx1_1)) ?_
   clear hf a; rintro v1_1 w1_1 a ho1_1 hf
   obtain ⟨rfl, hB⟩ := ho1_1
   replace hm := hm.below' hB; clear hB
   refine st_y hf rfl rfl rfl (y_not rfl rfl) ?_
   clear hf a; intro a hf
   refine st_y hf rfl rfl rfl (y_move rfl rfl) ?_
   clear hf a; intro a hf
   rcases bcases (!(r1_1)) with h1_1 | h1_1
   ·
    replace hq0_1 := (ite_t h1_1).symm.trans hq0_1
    have h1_2 := bnot_t' h1_1
    refine st_no hf rfl rfl (lk_b rfl h1_1) rfl rfl rfl ?_
    clear hf a; intro a hf
    refine st_no hf rfl rfl (lk_b rfl h1_1) rfl rfl rfl ?_
    clear hf a; intro a hf
    refine st_no hf rfl rfl (lk_b rfl h1_1) rfl rfl rfl ?_
    clear hf a; intro a hf
    refine st_no hf rfl rfl (lk_b rfl h1_1) rfl rfl rfl ?_
    clear hf a; intro a hf
    refine st_no hf rfl rfl (lk_b rfl h1_1) rfl rfl rfl ?_
    clear hf a; intro a hf
    refine st_y hf rfl rfl rfl (y_pick_t rfl (ev_b rfl h1_1) rfl) ?_
    clear hf a; intro a hf
    refine st_end ?_
    refine x_then_n ?_
    obtain rfl := Option.some.inj hq0_1
    exact ⟨hf.sub ⟨rfl, rfl, rfl, rfl, rfl, trivial⟩, hm.pick [2, 1, 0] (by decide) rfl⟩
   ·
    replace hq0_1 := (ite_f h1_1).symm.trans hq0_1
    have h1_3 := bnot_f' h1_1
    refine st_yg hf rfl rfl (lk_b rfl h1_1) rfl rfl (y_loadN (cs := [(.int .i64 (x0_1.params)), (.int .i64 (x0_1.regs)), v0_1]) Try.isAgg55 Try.sizeOf55 rfl rfl (hm.blk_at 0 rfl)) ?_
    clear hf a; intro a hf
    refine st_yg hf rfl rfl (lk_b rfl h1_1) rfl rfl (y_fieldAddr fo_57_2 rfl rfl) ?_
    clear hf a; intro a hf
    refine st_yg hf rfl rfl (lk_b rfl h1_1) rfl rfl (y_load1 Try.isAgg26 rfl rfl (hm.blk_cell 1 rfl rfl)) ?_
    clear hf a; intro a hf
    obtain ⟨r1_2, hx1_2, hq0_1⟩ := bnd hq0_1
    refine st_efg hf rfl rfl (lk_b rfl h1_1) rfl rfl (e_call hf rfl Try.call144 rfl (spec_l7Regs_ok _ x0_1 v0_1 (hm.now h0_2) x_.args v2 (hm.now h2) _ hx1_2)) ?_
    clear hf a; rintro v1_2 w1_2 a ho1_2 hf
    obtain ⟨rfl, hB⟩ := ho1_2
    replace hm := hm.below' hB; clear hB
    refine st_yg hf rfl rfl (lk_b rfl h1_1) rfl rfl (y_not rfl rfl) ?_
    clear hf a; intro a hf
    refine st_y hf rfl rfl rfl (y_pick_f rfl (ev_b rfl h1_1) rfl) ?_
    clear hf a; intro a hf
    refine st_end ?_
    refine x_then_n ?_
    obtain rfl := Option.some.inj hq0_1
    exact ⟨hf.sub ⟨rfl, rfl, rfl, rfl, rfl, trivial⟩, hm.pick [2, 1, 0] (by decide) rfl⟩
  ·
   clear hf hm
   rintro a w ⟨hf, hm⟩
   refine x_then_n ?_
   rcases bcases (s0_1) with h0_3 | h0_3
   ·
    replace hq := (ite_t h0_3).symm.trans hq
    refine cond_t hf rfl h0_3 ?_
    refine wp_seq ?_
    refine wp_region_lit ?_
    refine st_y hf rfl rfl rfl (y_assign rfl rfl) ?_
    clear hf a; intro a hf
    refine st_end ?_
    refine x_then_n ?_
    refine wp_ret ?_
    refine x_then_ret ?_
    obtain rfl := Option.some.inj hq
    refine ret_tmp hf Try.results143 rfl ?_
    exact ⟨rfl, hm.below⟩
   ·
    replace hq := (ite_f h0_3).symm.trans hq
    refine cond_f hf rfl h0_3 ?_
    refine wp_skip ?_
    refine x_then_n ?_
    refine wp_seq ?_
    refine wp_seq ?_
    obtain ⟨s0_2, hq0_2, hq⟩ := bnd hq
    refine code_cut (K := fun a w => Fr 88 [(1, (.int .i64 (k_))), (3, (.pointer (some ⟨b0_1, 0, none⟩))), (5, (.pointer (some ⟨b0_2, 0, none⟩))), (44, (.bool (s0_2)))] a ∧ Mem w0 (hp w0) w [blk b0_1 [(.slice (some ⟨b0_3, o0_1, none⟩) u.codes.length c0_1)] 40, blk b0_2 [(.int .i64 (x_.op)), (.int .i64 (x_.to)), v2, (.int .i64 (x_.n_))] 57]) ?_ ?_
    ·
     refine wp_tree (.p 0 (.p 3 (.p 5 (.q 1 (.q 4 (.q 6 (.p 7 (.e 2 (.e 8 (.p 9 (.p 10 (.p 11 (.e 12 (.e 13 (.p 14 (.p 15 (.p 16 (.e 17 (.p 18 (.p 19 (.p 20 .fin))) .nil)))) .nil) .nil)))) .nil) .nil)))))))) [1, 2, 4, 6] [0, 3, 5, 7, 9, 10, 11, 14, 15, 16, 18, 19, 20] (fun w => Mem w0 (hp w0) w [blk b0_1 [(.slice (some ⟨b0_3, o0_1, none⟩) u.codes.length c0_1)] 40, blk b0_2 [(.int .i64 (x_.op)), (.int .i64 (x_.to)), v2, (.int .i64 (x_.n_))] 57, blk b0_4 [(.int .i64 (x0_1.params)), (.int .i64 (x0_1.regs)), v0_1] 55]) (by kernel_rfl) (by kernel_rfl) (fun _ _ _ h => h.2) ?_
     replace hm := hm.drew
     have hS : Mem w0 (hp w0) _ [blk b0_1 [(.slice (some ⟨b0_3, o0_1, none⟩) u.codes.length c0_1)] 40, blk b0_2 [(.int .i64 (x_.op)), (.int .i64 (x_.to)), v2, (.int .i64 (x_.n_))] 57, blk b0_4 [(.int .i64 (x0_1.params)), (.int .i64 (x0_1.regs)), v0_1] 55] := hm.pick [0, 1, 2] (by decide) rfl
     refine td_p hf rfl rfl rfl rfl (fun w => y_fieldAddr fo_57_0 rfl rfl) ?_
     clear hf a; intro a hf
     refine td_p hf rfl rfl rfl rfl (fun w => y_fieldAddr fo_57_1 rfl rfl) ?_
     clear hf a; intro a hf
     refine td_p hf rfl rfl rfl rfl (fun w => y_fieldAddr fo_55_1 rfl rfl) ?_
     clear hf a; intro a hf
     refine td_y hf rfl rfl rfl rfl hS (fun w hm => y_load1 Try.isAgg3 rfl rfl (hm.blk_cell 1 rfl rfl)) ?_
     clear hf a; intro a hf
     refine td_y hf rfl rfl rfl rfl hS (fun w hm => y_load1 Try.isAgg3 rfl rfl (hm.blk_cell 1 rfl rfl)) ?_
     clear hf a; intro a hf
     refine td_y hf rfl rfl rfl rfl hS (fun w hm => y_load1 Try.isAgg3 rfl rfl (hm.blk_cell 2 rfl rfl)) ?_
     clear hf a; intro a hf
     refine td_p hf rfl rfl rfl rfl (fun w => y_subw rfl rfl rfl) ?_
     clear hf a; intro a hf
     refine te_one ?_
     obtain ⟨r1_3, hx1_3, hq0_2⟩ := bnd hq0_2
     refine td_ef hf rfl rfl rfl rfl (e_call hf rfl Try.call128 rfl (spec_l7Makes_ok _ x_.op _ hx1_3)) ?_
     clear hf a; rintro v1_3 w1_3 a ho1_3 hf
     obtain ⟨rfl, hB⟩ := ho1_3
     replace hm := hm.below' hB; clear hB
     clear hS
     have hS : Mem w0 (hp w0) _ [blk b0_1 [(.slice (some ⟨b0_3, o0_1, none⟩) u.codes.length c0_1)] 40, blk b0_2 [(.int .i64 (x_.op)), (.int .i64 (x_.to)), v2, (.int .i64 (x_.n_))] 57, blk b0_4 [(.int .i64 (x0_1.params)), (.int .i64 (x0_1.regs)), v0_1] 55] := hm.pick [0, 1, 2] (by decide) rfl
     refine ⟨fun _ => hS, ?_⟩
     refine te_one ?_
     obtain ⟨r1_4, hx1_4, hq0_2⟩ := bnd hq0_2
     refine td_ef hf rfl rfl rfl rfl (e_call hf rfl Try.call56 rfl (spec_l1In_ok _ x_.to 0 (w64 (x0_1.regs - 1)) _ hx1_4)) ?_
     clear hf a; rintro v1_4 w1_4 a ho1_4 hf
     obtain ⟨rfl, hB⟩ := ho1_4
     replace hm := hm.below' hB; clear hB
     refine ⟨fun h => absurd h (by decide), ?_⟩
     refine td_p hf rfl rfl rfl rfl (fun w => y_neqb Try.underlying4 rfl rfl rfl) ?_
     clear hf a; intro a hf
     refine td_p hf rfl rfl rfl rfl (fun w => y_move rfl rfl) ?_
     clear hf a; intro a hf
     rcases bcases (decide (r1_3 ≠ r1_4)) with h1_4 | h1_4
     ·
      replace hq0_2 := (ite_t h1_4).symm.trans hq0_2
      have h1_5 := of_decide_eq_true h1_4
      refine td_pno hf rfl rfl rfl (lk_b rfl h1_4) rfl rfl rfl ?_
      clear hf a; intro a hf
      refine te_one ?_
      refine td_no' hf rfl rfl rfl (lk_b rfl h1_4) rfl rfl rfl ?_
      clear hf a; intro a hf
      refine ⟨fun h => absurd h (by decide), ?_⟩
      refine te_one ?_
      refine td_no' hf rfl rfl rfl (lk_b rfl h1_4) rfl rfl rfl ?_
      clear hf a; intro a hf
      refine ⟨fun h => absurd h (by decide), ?_⟩
      refine td_pno hf rfl rfl rfl (lk_b rfl h1_4) rfl rfl rfl ?_
      clear hf a; intro a hf
      refine td_pno hf rfl rfl rfl (lk_b rfl h1_4) rfl rfl rfl ?_
      clear hf a; intro a hf
      refine td_pnou hf rfl rfl rfl rfl rfl rfl ?_
      clear hf a; intro a hf
      refine te_one ?_
      refine td_nou' hf rfl rfl rfl rfl rfl rfl ?_
      clear hf a; intro a hf
      refine ⟨fun h => absurd h (by decide), ?_⟩
      refine td_pnou hf rfl rfl rfl rfl rfl rfl ?_
      clear hf a; intro a hf
      refine td_pno hf rfl rfl rfl (lk_b rfl h1_4) rfl rfl rfl ?_
      clear hf a; intro a hf
      refine td_p hf rfl rfl rfl rfl (fun w => y_pick_t rfl (ev_b rfl h1_4) rfl) ?_
      clear hf a; intro a hf
      clear hS; refine td_end ?_
      refine x_then_n ?_
      obtain rfl := Option.some.inj hq0_2
      exact ⟨hf.sub ⟨rfl, rfl, rfl, rfl, trivial⟩, hm.pick [0, 1] (by decide) rfl⟩
     ·
      replace hq0_2 := (ite_f h1_4).symm.trans hq0_2
      have h1_6 := of_decide_eq_false h1_4
      refine td_pg hf rfl rfl rfl (lk_b rfl h1_4) rfl rfl (fun w => y_fieldAddr fo_57_0 rfl rfl) ?_
      clear hf a; intro a hf
      refine te_one ?_
      refine td_efg hf rfl rfl rfl (lk_b rfl h1_4) rfl rfl (ef_y hf (y_load1 Try.isAgg3 rfl rfl (hm.blk_cell 1 rfl rfl))) ?_
      clear hf a; rintro _ _ a ⟨rfl, rfl⟩ hf
      refine ⟨fun h => absurd h (by decide), ?_⟩
      refine te_one ?_
      obtain ⟨r1_5, hx1_5, hq0_2⟩ := bnd hq0_2
      refine td_efg hf rfl rfl rfl (lk_b rfl h1_4) rfl rfl (e_call hf rfl Try.call128 rfl (spec_l7Makes_ok _ x_.op _ hx1_5)) ?_
      clear hf a; rintro v1_5 w1_5 a ho1_5 hf
      obtain ⟨rfl, hB⟩ := ho1_5
      replace hm := hm.below' hB; clear hB
      refine ⟨fun h => absurd h (by decide), ?_⟩
      refine td_pg hf rfl rfl rfl (lk_b rfl h1_4) rfl rfl (fun w => y_not rfl rfl) ?_
      clear hf a; intro a hf
      refine td_pg hf rfl rfl rfl (lk_b rfl h1_4) rfl rfl (fun w => y_move rfl rfl) ?_
      clear hf a; intro a hf
      rcases bcases (!(r1_5)) with h1_7 | h1_7
      ·
       replace hq0_2 := (ite_t h1_7).symm.trans hq0_2
       have h1_8 := bnot_t' h1_7
       refine td_pg hf rfl rfl rfl (lk_b rfl h1_7) rfl rfl (fun w => y_fieldAddr fo_57_1 rfl rfl) ?_
       clear hf a; intro a hf
       refine te_one ?_
       refine td_efg hf rfl rfl rfl (lk_b rfl h1_7) rfl rfl (ef_y hf (y_load1 Try.isAgg3 rfl rfl (hm.blk_cell 1 rfl rfl))) ?_
       clear hf a; rintro _ _ a ⟨rfl, rfl⟩ hf
       refine ⟨fun h => absurd h (by decide), ?_⟩
       refine td_pg hf rfl rfl rfl (lk_b rfl h1_7) rfl rfl (fun w => y_neq rfl rfl rfl) ?_
       clear hf a; intro a hf
       refine td_pg hf rfl rfl rfl (lk_b rfl h1_4) rfl rfl (fun w => y_pick_t rfl (ev_b rfl h1_7) rfl) ?_
       clear hf a; intro a hf
       refine td_p hf rfl rfl rfl rfl (fun w => y_pick_f rfl (ev_b rfl h1_4) rfl) ?_
       clear hf a; intro a hf
       clear hS; refine td_end ?_
       refine x_then_n ?_
       obtain rfl := Option.some.inj hq0_2
       exact ⟨hf.sub ⟨rfl, rfl, rfl, rfl, trivial⟩, hm.pick [0, 1] (by decide) rfl⟩
      ·
       replace hq0_2 := (ite_f h1_7).symm.trans hq0_2
       have h1_9 := bnot_f' h1_7
       refine td_pno hf rfl rfl rfl (lk_b rfl h1_7) rfl rfl rfl ?_
       clear hf a; intro a hf
       refine te_one ?_
       refine td_no' hf rfl rfl rfl (lk_b rfl h1_7) rfl rfl rfl ?_
       clear hf a; intro a hf
       refine ⟨fun h => absurd h (by decide), ?_⟩
       refine td_pno hf rfl rfl rfl (lk_b rfl h1_7) rfl rfl rfl ?_
       clear hf a; intro a hf
       refine td_pg hf rfl rfl rfl (lk_b rfl h1_4) rfl rfl (fun w => y_pick_f rfl (ev_b rfl h1_7) rfl) ?_
       clear hf a; intro a hf
       refine td_p hf rfl rfl rfl rfl (fun w => y_pick_f rfl (ev_b rfl h1_4) rfl) ?_
       clear hf a; intro a hf
       clear hS; refine td_end ?_
       refine x_then_n ?_
       obtain rfl := Option.some.inj hq0_2
       exact ⟨hf.sub ⟨rfl, rfl, rfl, rfl, trivial⟩, hm.pick [0, 1] (by decide) rfl⟩
    ·
     clear hf hm
     rintro a w ⟨hf, hm⟩
     refine x_then_n ?_
     rcases bcases (s0_2) with h0_4 | h0_4
     ·
      replace hq := (ite_t h0_4).symm.trans hq
      refine cond_t hf rfl h0_4 ?_
      refine wp_seq ?_
      refine wp_region_lit ?_
      refine st_y hf rfl rfl rfl (y_assign rfl rfl) ?_
      clear hf a; intro a hf
      refine st_end ?_
      refine x_then_n ?_
      refine wp_ret ?_
      refine x_then_ret ?_
      obtain rfl := Option.some.inj hq
      refine ret_tmp hf Try.results143 rfl ?_
      exact ⟨rfl, hm.below⟩
     ·
      replace hq := (ite_f h0_4).symm.trans hq
      refine cond_f hf rfl h0_4 ?_
      refine wp_skip ?_
      refine x_then_n ?_
      refine wp_seq ?_
      refine wp_seq ?_
      refine wp_region_lit ?_
      refine st_y hf rfl rfl rfl (y_fieldAddr fo_57_0 rfl rfl) ?_
      clear hf a; intro a hf
      refine st_y hf rfl rfl rfl (y_load1 Try.isAgg3 rfl rfl (hm.blk_cell 1 rfl rfl)) ?_
      clear hf a; intro a hf
      refine st_y hf rfl rfl rfl (y_eql rfl rfl rfl) ?_
      clear hf a; intro a hf
      refine st_end ?_
      refine x_then_n ?_
      rcases bcases (decide (x_.op = 14)) with h0_5 | h0_5
      ·
       replace hq := (ite_t h0_5).symm.trans hq
       have h0_6 := of_decide_eq_true h0_5
       refine cond_t hf rfl h0_5 ?_
       refine wp_seq ?_
       obtain ⟨s0_3, hq0_3, hq⟩ := bnd hq
       refine code_cut (K := fun a w => Fr 88 [(6, (.bool (s0_3)))] a ∧ Mem w0 (hp w0) w []) ?_ ?_
       ·
        refine wp_tree (.p 0 (.p 2 (.p 3 (.e 1 (.e 4 (.p 5 (.p 6 (.p 9 (.p 11 (.q 7 (.p 8 (.q 10 (.e 12 (.p 13 (.p 14 (.e 15 (.p 16 (.p 17 (.p 18 .fin))) .nil))) .nil)))))))) .nil) .nil)))) [7, 10, 12, 15] [0, 2, 3, 5, 6, 8, 9, 11, 13, 14, 16, 17, 18] (fun w => Mem w0 (hp w0) w [blk b0_1 [(.slice (some ⟨b0_3, o0_1, none⟩) u.codes.length c0_1)] 40, blk b0_2 [(.int .i64 (x_.op)), (.int .i64 (x_.to)), v2, (.int .i64 (x_.n_))] 57]) (by kernel_rfl) (by kernel_rfl) (fun _ _ _ h => h.2) ?_
        replace hm := hm.drew
        have hS : Mem w0 (hp w0) _ [blk b0_1 [(.slice (some ⟨b0_3, o0_1, none⟩) u.codes.length c0_1)] 40, blk b0_2 [(.int .i64 (x_.op)), (.int .i64 (x_.to)), v2, (.int .i64 (x_.n_))] 57] := hm.pick [0, 1] (by decide) rfl
        refine td_p hf rfl rfl rfl rfl (fun w => y_fieldAddr fo_57_3 rfl rfl) ?_
        clear hf a; intro a hf
        refine td_p hf rfl rfl rfl rfl (fun w => y_move rfl rfl) ?_
        clear hf a; intro a hf
        refine td_p hf rfl rfl rfl rfl (fun w => y_subw rfl rfl rfl) ?_
        clear hf a; intro a hf
        refine te_one ?_
        refine td_ef hf rfl rfl rfl rfl (ef_y hf (y_load1 Try.isAgg3 rfl rfl (hm.blk_cell 1 rfl rfl))) ?_
        clear hf a; rintro _ _ a ⟨rfl, rfl⟩ hf
        refine ⟨fun h => absurd h (by decide), ?_⟩
        refine te_one ?_
        obtain ⟨r1_6, hx1_6, hq0_3⟩ := bnd hq0_3
        refine td_ef hf rfl rfl rfl rfl (e_call hf rfl Try.call56 rfl (spec_l1In_ok _ x_.n_ 0 (w64 (k_ - 1)) _ hx1_6)) ?_
        clear hf a; rintro v1_6 w1_6 a ho1_6 hf
        obtain ⟨rfl, hB⟩ := ho1_6
        replace hm := hm.below' hB; clear hB
        clear hS
        have hS : Mem w0 (hp w0) _ [blk b0_1 [(.slice (some ⟨b0_3, o0_1, none⟩) u.codes.length c0_1)] 40, blk b0_2 [(.int .i64 (x_.op)), (.int .i64 (x_.to)), v2, (.int .i64 (x_.n_))] 57] := hm.pick [0, 1] (by decide) rfl
        refine ⟨fun h => absurd h (by decide), ?_⟩
        refine td_p hf rfl rfl rfl rfl (fun w => y_move rfl rfl) ?_
        clear hf a; intro a hf
        rcases bcases (r1_6) with h1_10 | h1_10
        ·
         replace hq0_3 := (ite_t h1_10).symm.trans hq0_3
         refine td_pg hf rfl rfl rfl (lk_b rfl h1_10) rfl rfl (fun w => y_fieldAddr fo_57_2 rfl rfl) ?_
         clear hf a; intro a hf
         refine td_pg hf rfl rfl rfl (lk_b rfl h1_10) rfl rfl (fun w => y_fieldAddr fo_40_0 rfl rfl) ?_
         clear hf a; intro a hf
         refine td_pg hf rfl rfl rfl (lk_b rfl h1_10) rfl rfl (fun w => y_fieldAddr fo_57_3 rfl rfl) ?_
         clear hf a; intro a hf
         refine td_yg hf rfl rfl rfl (lk_b rfl h1_10) rfl rfl hS (fun w hm => y_load1 Try.isAgg26 rfl rfl (hm.blk_cell 1 rfl rfl)) ?_
         clear hf a; intro a hf
         obtain ⟨p1_1, c1_1, he, hl1_1⟩ := ro_slice h2
         subst he
         refine td_pg hf rfl rfl rfl (lk_b rfl h1_10) rfl rfl (fun w => y_len_slice st_26.und rfl rfl) ?_
         clear hf a; intro a hf
         refine td_yg hf rfl rfl rfl (lk_b rfl h1_10) rfl rfl hS (fun w hm => y_load1 Try.isAgg38 rfl rfl (hm.blk_cell 0 rfl rfl)) ?_
         clear hf a; intro a hf
         refine te_one ?_
         refine td_efg hf rfl rfl rfl (lk_b rfl h1_10) rfl rfl (ef_y hf (y_load1 Try.isAgg3 rfl rfl (hm.blk_cell 1 rfl rfl))) ?_
         clear hf a; rintro _ _ a ⟨rfl, rfl⟩ hf
         refine ⟨fun _ => hS, ?_⟩
         obtain ⟨x1_1, hx1_7, hq0_3⟩ := bnd hq0_3
         obtain ⟨h1_11, hx1_8⟩ := getI_some.1 hx1_7
         obtain ⟨_, _, hc1_1, hr1_1⟩ := ro_get' h1 hx1_8
         obtain ⟨_, _, rfl, rfl, _, _, rfl, rfl, h1_12⟩ := hr1_1
         obtain ⟨v1_7, rfl, -⟩ := id h1_12
         replace h1_12 : GT.rep (hp w0) [v1_7] x1_1.blocks := h1_12
         replace hc1_1 : CellsAt (hp w0) b0_3 (o0_1 + (x_.n_).toNat * 3) [(.int .i64 (x1_1.params)), (.int .i64 (x1_1.regs)), v1_7] := hc1_1
         refine td_pg hf rfl rfl rfl (lk_b rfl h1_10) rfl rfl (fun w => y_indexAddr st_38 rfl rfl rfl h1_11 (idx_lt hx1_8)) ?_
         clear hf a; intro a hf
         refine td_pg hf rfl rfl rfl (lk_b rfl h1_10) rfl rfl (fun w => y_fieldAddr fo_55_0 rfl rfl) ?_
         clear hf a; intro a hf
         refine te_one ?_
         refine td_efg hf rfl rfl rfl (lk_b rfl h1_10) rfl rfl (ef_y hf (y_load1 Try.isAgg3 rfl rfl ((hc1_1.mono hm.lez).cell (j := 0) rfl))) ?_
         clear hf a; rintro _ _ a ⟨rfl, rfl⟩ hf
         refine ⟨fun _ => hS, ?_⟩
         refine td_pg hf rfl rfl rfl (lk_b rfl h1_10) rfl rfl (fun w => y_eql rfl rfl rfl) ?_
         clear hf a; intro a hf
         refine td_p hf rfl rfl rfl rfl (fun w => y_pick_t rfl (ev_b rfl h1_10) rfl) ?_
         clear hf a; intro a hf
         refine td_p hf rfl rfl rfl rfl (fun w => y_assign rfl rfl) ?_
         clear hf a; intro a hf
         clear hS; refine td_end ?_
         refine x_then_n ?_
         obtain rfl := Option.some.inj hq0_3
         exact ⟨hf.sub ⟨rfl, trivial⟩, hm.pick [] (by decide) rfl⟩
        ·
         replace hq0_3 := (ite_f h1_10).symm.trans hq0_3
         refine td_pno hf rfl rfl rfl (lk_b rfl h1_10) rfl rfl rfl ?_
         clear hf a; intro a hf
         refine td_pno hf rfl rfl rfl (lk_b rfl h1_10) rfl rfl rfl ?_
         clear hf a; intro a hf
         refine td_pno hf rfl rfl rfl (lk_b rfl h1_10) rfl rfl rfl ?_
         clear hf a; intro a hf
         refine td_no hf rfl rfl rfl (lk_b rfl h1_10) rfl rfl rfl hS ?_
         clear hf a; intro a hf
         refine td_pno hf rfl rfl rfl (lk_b rfl h1_10) rfl rfl rfl ?_
         clear hf a; intro a hf
         refine td_no hf rfl rfl rfl (lk_b rfl h1_10) rfl rfl rfl hS ?_
         clear hf a; intro a hf
         refine te_one ?_
         refine td_no' hf rfl rfl rfl (lk_b rfl h1_10) rfl rfl rfl ?_
         clear hf a; intro a hf
         refine ⟨fun _ => hS, ?_⟩
         refine td_pno hf rfl rfl rfl (lk_b rfl h1_10) rfl rfl rfl ?_
         clear hf a; intro a hf
         refine td_pno hf rfl rfl rfl (lk_b rfl h1_10) rfl rfl rfl ?_
         clear hf a; intro a hf
         refine te_one ?_
         refine td_no' hf rfl rfl rfl (lk_b rfl h1_10) rfl rfl rfl ?_
         clear hf a; intro a hf
         refine ⟨fun _ => hS, ?_⟩
         refine td_pno hf rfl rfl rfl (lk_b rfl h1_10) rfl rfl rfl ?_
         clear hf a; intro a hf
         refine td_p hf rfl rfl rfl rfl (fun w => y_pick_f rfl (ev_b rfl h1_10) rfl) ?_
         clear hf a; intro a hf
         refine td_p hf rfl rfl rfl rfl (fun w => y_assign rfl rfl) ?_
         clear hf a; intro a hf
         clear hS; refine td_end ?_
         refine x_then_n ?_
         obtain rfl := Option.some.inj hq0_3
         exact ⟨hf.sub ⟨rfl, trivial⟩, hm.pick [] (by decide) rfl⟩
       ·
        clear hf hm
        rintro a w ⟨hf, hm⟩
        refine x_then_n ?_
        refine wp_ret ?_
        refine x_then_ret ?_
        obtain rfl := Option.some.inj hq
        refine ret_tmp hf Try.results143 rfl ?_
        exact ⟨rfl, hm.below⟩
      ·
       replace hq := (ite_f h0_5).symm.trans hq
       have h0_7 := of_decide_eq_false h0_5
       refine cond_f hf rfl h0_5 ?_
       refine wp_skip ?_
       refine x_then_n ?_
       refine wp_seq ?_
       obtain ⟨s0_4, hq0_4, hq⟩ := bnd hq
       refine code_cut (K := fun a w => Fr 88 [(6, (.bool (s0_4)))] a ∧ Mem w0 (hp w0) w []) ?_ ?_
       ·
        refine wp_tree (.p 0 (.p 3 (.q 1 (.p 2 (.e 4 (.e 5 (.p 6 (.p 7 (.p 8 (.e 9 (.e 10 (.p 11 (.p 12 (.p 13 (.e 14 (.p 15 (.p 16 (.p 17 (.e 18 (.p 19 (.p 20 (.p 21 (.p 22 .fin)))) .nil)))) .nil)))) .nil) .nil)))) .nil) .nil))))) [4, 5] [0, 2, 3, 6, 7, 8, 11, 12, 13, 15, 16, 17, 19, 20, 21, 22] (fun w => Mem w0 (hp w0) w [blk b0_1 [(.slice (some ⟨b0_3, o0_1, none⟩) u.codes.length c0_1)] 40, blk b0_2 [(.int .i64 (x_.op)), (.int .i64 (x_.to)), v2, (.int .i64 (x_.n_))] 57]) (by kernel_rfl) (by kernel_rfl) (fun _ _ _ h => h.2) ?_
        replace hm := hm.drew
        have hS : Mem w0 (hp w0) _ [blk b0_1 [(.slice (some ⟨b0_3, o0_1, none⟩) u.codes.length c0_1)] 40, blk b0_2 [(.int .i64 (x_.op)), (.int .i64 (x_.to)), v2, (.int .i64 (x_.n_))] 57] := hm.pick [0, 1] (by decide) rfl
        refine td_p hf rfl rfl rfl rfl (fun w => y_fieldAddr fo_57_2 rfl rfl) ?_
        clear hf a; intro a hf
        refine td_p hf rfl rfl rfl rfl (fun w => y_fieldAddr fo_57_0 rfl rfl) ?_
        clear hf a; intro a hf
        refine td_y hf rfl rfl rfl rfl hS (fun w hm => y_load1 Try.isAgg26 rfl rfl (hm.blk_cell 1 rfl rfl)) ?_
        clear hf a; intro a hf
        obtain ⟨p1_2, c1_2, he, hl1_2⟩ := ro_slice h2
        subst he
        refine td_p hf rfl rfl rfl rfl (fun w => y_len_slice st_26.und rfl rfl) ?_
        clear hf a; intro a hf
        refine te_one ?_
        refine td_ef hf rfl rfl rfl rfl (ef_y hf (y_load1 Try.isAgg3 rfl rfl (hm.blk_cell 1 rfl rfl))) ?_
        clear hf a; rintro _ _ a ⟨rfl, rfl⟩ hf
        refine ⟨fun _ => hS, ?_⟩
        refine te_one ?_
        obtain ⟨r1_7, hx1_9, hq0_4⟩ := bnd hq0_4
        refine td_ef hf rfl rfl rfl rfl (e_call hf rfl Try.call135 rfl (spec_l7Args_ok _ x_.op _ hx1_9)) ?_
        clear hf a; rintro v1_8 w1_7 a ho1_7 hf
        obtain ⟨rfl, hB⟩ := ho1_7
        replace hm := hm.below' hB; clear hB
        clear hS
        have hS : Mem w0 (hp w0) _ [blk b0_1 [(.slice (some ⟨b0_3, o0_1, none⟩) u.codes.length c0_1)] 40, blk b0_2 [(.int .i64 (x_.op)), (.int .i64 (x_.to)), (.slice p1_2 x_.args.length c1_2), (.int .i64 (x_.n_))] 57] := hm.pick [0, 1] (by decide) rfl
        refine ⟨fun _ => hS, ?_⟩
        refine td_p hf rfl rfl rfl rfl (fun w => y_eql rfl rfl rfl) ?_
        clear hf a; intro a hf
        refine td_p hf rfl rfl rfl rfl (fun w => y_move rfl rfl) ?_
        clear hf a; intro a hf
        rcases bcases (decide (((x_.args.length : Int)) = r1_7)) with h1_13 | h1_13
        ·
         replace hq0_4 := (ite_t h1_13).symm.trans hq0_4
         have h1_14 := of_decide_eq_true h1_13
         refine td_pg hf rfl rfl rfl (lk_b rfl h1_13) rfl rfl (fun w => y_fieldAddr fo_57_3 rfl rfl) ?_
         clear hf a; intro a hf
         refine te_one ?_
         refine td_efg hf rfl rfl rfl (lk_b rfl h1_13) rfl rfl (ef_y hf (y_load1 Try.isAgg3 rfl rfl (hm.blk_cell 1 rfl rfl))) ?_
         clear hf a; rintro _ _ a ⟨rfl, rfl⟩ hf
         refine ⟨fun h => absurd h (by decide), ?_⟩
         refine te_one ?_
         obtain ⟨r1_8, hx1_10, hq0_4⟩ := bnd hq0_4
         refine td_efg hf rfl rfl rfl (lk_b rfl h1_13) rfl rfl (e_call hf rfl Try.call56 rfl (spec_l1In_ok _ x_.n_ 0 255 _ hx1_10)) ?_
         clear hf a; rintro v1_9 w1_8 a ho1_8 hf
         obtain ⟨rfl, hB⟩ := ho1_8
         replace hm := hm.below' hB; clear hB
         refine ⟨fun h => absurd h (by decide), ?_⟩
         refine td_p hf rfl rfl rfl rfl (fun w => y_pick_t rfl (ev_b rfl h1_13) rfl) ?_
         clear hf a; intro a hf
         refine td_p hf rfl rfl rfl rfl (fun w => y_move rfl rfl) ?_
         clear hf a; intro a hf
         rcases bcases (r1_8) with h1_15 | h1_15
         ·
          replace hq0_4 := (ite_t h1_15).symm.trans hq0_4
          refine td_pg hf rfl rfl rfl (lk_b rfl h1_15) rfl rfl (fun w => y_fieldAddr fo_57_3 rfl rfl) ?_
          clear hf a; intro a hf
          refine te_one ?_
          refine td_efg hf rfl rfl rfl (lk_b rfl h1_15) rfl rfl (ef_y hf (y_load1 Try.isAgg3 rfl rfl (hm.blk_cell 1 rfl rfl))) ?_
          clear hf a; rintro _ _ a ⟨rfl, rfl⟩ hf
          refine ⟨fun h => absurd h (by decide), ?_⟩
          refine td_pg hf rfl rfl rfl (lk_b rfl h1_15) rfl rfl (fun w => y_eql rfl rfl rfl) ?_
          clear hf a; intro a hf
          refine td_pg hf rfl rfl rfl (lk_b rfl h1_15) rfl rfl (fun w => y_move rfl rfl) ?_
          clear hf a; intro a hf
          rcases bcases (decide (x_.n_ = 0)) with h1_16 | h1_16
          ·
           replace hq0_4 := (ite_t h1_16).symm.trans hq0_4
           have h1_17 := of_decide_eq_true h1_16
           refine td_pno hf rfl rfl rfl (lk_b rfl h1_16) rfl rfl rfl ?_
           clear hf a; intro a hf
           refine te_one ?_
           refine td_no' hf rfl rfl rfl (lk_b rfl h1_16) rfl rfl rfl ?_
           clear hf a; intro a hf
           refine ⟨fun h => absurd h (by decide), ?_⟩
           refine td_pno hf rfl rfl rfl (lk_b rfl h1_16) rfl rfl rfl ?_
           clear hf a; intro a hf
           refine td_pg hf rfl rfl rfl (lk_b rfl h1_15) rfl rfl (fun w => y_pick_t rfl (ev_b rfl h1_16) rfl) ?_
           clear hf a; intro a hf
           refine td_p hf rfl rfl rfl rfl (fun w => y_pick_t rfl (ev_b rfl h1_15) rfl) ?_
           clear hf a; intro a hf
           refine td_p hf rfl rfl rfl rfl (fun w => y_assign rfl rfl) ?_
           clear hf a; intro a hf
           clear hS; refine td_end ?_
           refine x_then_n ?_
           obtain rfl := Option.some.inj hq0_4
           exact ⟨hf.sub ⟨rfl, trivial⟩, hm.pick [] (by decide) rfl⟩
          ·
           replace hq0_4 := (ite_f h1_16).symm.trans hq0_4
           have h1_18 := of_decide_eq_false h1_16
           refine td_pg hf rfl rfl rfl (lk_b rfl h1_16) rfl rfl (fun w => y_fieldAddr fo_57_0 rfl rfl) ?_
           clear hf a; intro a hf
           refine te_one ?_
           refine td_efg hf rfl rfl rfl (lk_b rfl h1_16) rfl rfl (ef_y hf (y_load1 Try.isAgg3 rfl rfl (hm.blk_cell 1 rfl rfl))) ?_
           clear hf a; rintro _ _ a ⟨rfl, rfl⟩ hf
           refine ⟨fun h => absurd h (by decide), ?_⟩
           refine td_pg hf rfl rfl rfl (lk_b rfl h1_16) rfl rfl (fun w => y_eql rfl rfl rfl) ?_
           clear hf a; intro a hf
           refine td_pg hf rfl rfl rfl (lk_b rfl h1_15) rfl rfl (fun w => y_pick_f rfl (ev_b rfl h1_16) rfl) ?_
           clear hf a; intro a hf
           refine td_p hf rfl rfl rfl rfl (fun w => y_pick_t rfl (ev_b rfl h1_15) rfl) ?_
           clear hf a; intro a hf
           refine td_p hf rfl rfl rfl rfl (fun w => y_assign rfl rfl) ?_
           clear hf a; intro a hf
           clear hS; refine td_end ?_
           refine x_then_n ?_
           obtain rfl := Option.some.inj hq0_4
           exact ⟨hf.sub ⟨rfl, trivial⟩, hm.pick [] (by decide) rfl⟩
         ·
          replace hq0_4 := (ite_f h1_15).symm.trans hq0_4
          refine td_pno hf rfl rfl rfl (lk_b rfl h1_15) rfl rfl rfl ?_
          clear hf a; intro a hf
          refine te_one ?_
          refine td_no' hf rfl rfl rfl (lk_b rfl h1_15) rfl rfl rfl ?_
          clear hf a; intro a hf
          refine ⟨fun h => absurd h (by decide), ?_⟩
          refine td_pno hf rfl rfl rfl (lk_b rfl h1_15) rfl rfl rfl ?_
          clear hf a; intro a hf
          refine td_pno hf rfl rfl rfl (lk_b rfl h1_15) rfl rfl rfl ?_
          clear hf a; intro a hf
          refine td_pnou hf rfl rfl rfl rfl rfl rfl ?_
          clear hf a; intro a hf
          refine te_one ?_
          refine td_nou' hf rfl rfl rfl rfl rfl rfl ?_
          clear hf a; intro a hf
          refine ⟨fun h => absurd h (by decide), ?_⟩
          refine td_pnou hf rfl rfl rfl rfl rfl rfl ?_
          clear hf a; intro a hf
          refine td_pno hf rfl rfl rfl (lk_b rfl h1_15) rfl rfl rfl ?_
          clear hf a; intro a hf
          refine td_p hf rfl rfl rfl rfl (fun w => y_pick_f rfl (ev_b rfl h1_15) rfl) ?_
          clear hf a; intro a hf
          refine td_p hf rfl rfl rfl rfl (fun w => y_assign rfl rfl) ?_
          clear hf a; intro a hf
          clear hS; refine td_end ?_
          refine x_then_n ?_
          obtain rfl := Option.some.inj hq0_4
          exact ⟨hf.sub ⟨rfl, trivial⟩, hm.pick [] (by decide) rfl⟩
        ·
         replace hq0_4 := (ite_f h1_13).symm.trans hq0_4
         have h1_19 := of_decide_eq_false h1_13
         refine td_pno hf rfl rfl rfl (lk_b rfl h1_13) rfl rfl rfl ?_
         clear hf a; intro a hf
         refine te_one ?_
         refine td_no' hf rfl rfl rfl (lk_b rfl h1_13) rfl rfl rfl ?_
         clear hf a; intro a hf
         refine ⟨fun h => absurd h (by decide), ?_⟩
         refine te_one ?_
         refine td_no' hf rfl rfl rfl (lk_b rfl h1_13) rfl rfl rfl ?_
         clear hf a; intro a hf
         refine ⟨fun h => absurd h (by decide), ?_⟩
         refine td_p hf rfl rfl rfl rfl (fun w => y_pick_f rfl (ev_b rfl h1_13) rfl) ?_
         clear hf a; intro a hf
         refine td_p hf rfl rfl rfl rfl (fun w => y_move rfl rfl) ?_
         clear hf a; intro a hf
         refine td_pno hf rfl rfl rfl (lk_b rfl rfl) rfl rfl rfl ?_
         clear hf a; intro a hf
         refine te_one ?_
         refine td_no' hf rfl rfl rfl (lk_b rfl rfl) rfl rfl rfl ?_
         clear hf a; intro a hf
         refine ⟨fun h => absurd h (by decide), ?_⟩
         refine td_pno hf rfl rfl rfl (lk_b rfl rfl) rfl rfl rfl ?_
         clear hf a; intro a hf
         refine td_pno hf rfl rfl rfl (lk_b rfl rfl) rfl rfl rfl ?_
         clear hf a; intro a hf
         refine td_pnou hf rfl rfl rfl rfl rfl rfl ?_
         clear hf a; intro a hf
         refine te_one ?_
         refine td_nou' hf rfl rfl rfl rfl rfl rfl ?_
         clear hf a; intro a hf
         refine ⟨fun h => absurd h (by decide), ?_⟩
         refine td_pnou hf rfl rfl rfl rfl rfl rfl ?_
         clear hf a; intro a hf
         refine td_pno hf rfl rfl rfl (lk_b rfl rfl) rfl rfl rfl ?_
         clear hf a; intro a hf
         refine td_p hf rfl rfl rfl rfl (fun w => y_pick_f rfl (ev_b rfl rfl) rfl) ?_
         clear hf a; intro a hf
         refine td_p hf rfl rfl rfl rfl (fun w => y_assign rfl rfl) ?_
         clear hf a; intro a hf
         clear hS; refine td_end ?_
         refine x_then_n ?_
         obtain rfl := Option.some.inj hq0_4
         exact ⟨hf.sub ⟨rfl, trivial⟩, hm.pick [] (by decide) rfl⟩
       ·
        clear hf hm
        rintro a w ⟨hf, hm⟩
        refine x_then_n ?_
        refine wp_ret ?_
        obtain rfl := Option.some.inj hq
        refine ret_tmp hf Try.results143 rfl ?_
        exact ⟨rfl, hm.below⟩

theorem spec_l7Preds_ok (w0 : World) (c_ : Code_) (v1 : Value) (h1 : GT.rep (hp w0) [v1] c_.blocks) (b_ : Int) (r : (List Int)) (hq : spec_l7Preds c_ b_ = some r) :
    Con Try.prog 78 [(.agg #[(.int .i64 (c_.params)), (.int .i64 (c_.regs)), v1]), (.int .i64 (b_))] w0 (fun v w' => ∃ (x1 : Value), v = x1 ∧ Mem w0 (hp w0) w' [ow [x1] r]) := by
  unfold spec_l7Preds at hq
  refine con_body (l := [(0, (.agg #[(.int .i64 (c_.params)), (.int .i64 (c_.regs)), v1])), (1, (.int .i64 (b_)))]) Try.func78 rfl Try.ntmps78 (Args.get ⟨rfl, rfl, trivial⟩) rfl ?_
  intro a hf
  have hm := Mem.start w0
  refine wp_seq ?_
  refine wp_region_lit ?_
  refine st_ef hf rfl rfl rfl (e_box hf hm rfl rfl rfl) ?_
  clear hf a; rintro _ w0_1 a ⟨b0_1, rfl, hm⟩ hf
  refine st_y hf rfl rfl rfl (y_assign rfl rfl) ?_
  clear hf a; intro a hf
  refine st_end ?_
  refine x_then_n ?_
  refine wp_seq ?_
  refine wp_region_lit ?_
  refine st_ef hf rfl rfl rfl (e_build0 (α := Int) et_26 hm rfl) ?_
  clear hf a; rintro v0_1 w0_2 a hm hf
  refine st_y hf rfl rfl rfl (y_assign rfl rfl) ?_
  clear hf a; intro a hf
  refine st_end ?_
  refine x_then_n ?_
  refine wp_seq ?_
  refine wp_seq ?_
  refine wp_region_lit ?_
  refine st_y hf rfl rfl rfl (y_assign rfl rfl) ?_
  clear hf a; intro a hf
  refine st_end ?_
  refine x_then_n ?_
  obtain ⟨p0_1, c0_1, he, hl0_1⟩ := ro_slice (hm.ow_rep 0 rfl)
  subst he
  refine wp_block ?_
  obtain ⟨r0_1, hl0_2, hq⟩ := bnd hq
  refine wp_forN _ (fun i1_1 xs1_1 a w => ∃ (v1_1 : Value), Fr 43 [(1, (.int .i64 (b_))), (2, (.pointer (some ⟨b0_1, 0, none⟩))), (5, v1_1), (6, (.int .i64 (i1_1)))] a ∧ Mem w0 (hp w0) w [blk b0_1 [(.int .i64 (c_.params)), (.int .i64 (c_.regs)), v1] 55, ow [v1_1] xs1_1]) (0) ((c_.blocks.length : Int)) hl0_2 ?_ ?_ ?_
  ·
   exact ⟨(.slice p0_1 ([] : List Int).length c0_1), hf.sub ⟨rfl, rfl, rfl, rfl, trivial⟩, hm.pick [1, 0] (by decide) rfl⟩
  ·
   clear hf hm
   rintro i1_1 xs1_1 a w ⟨v1_1, hf, hm⟩ hi1_1 hi1_2 q0_1 hb0_1 ho0_1
   refine wp_seq ?_
   refine wp_seq ?_
   refine wp_region_lit ?_
   refine st_y hf rfl rfl rfl (y_move rfl rfl) ?_
   clear hf a; intro a hf
   refine st_y hf rfl rfl rfl (y_fieldAddr fo_55_2 rfl rfl) ?_
   clear hf a; intro a hf
   refine st_y hf rfl rfl rfl (y_load1 Try.isAgg53 rfl rfl (hm.blk_cell 0 rfl rfl)) ?_
   clear hf a; intro a hf
   obtain ⟨p1_1, c1_1, he, hl1_1⟩ := ro_slice h1
   subst he
   refine st_y hf rfl rfl rfl (y_len_slice st_53.und rfl rfl) ?_
   clear hf a; intro a hf
   refine st_y hf rfl rfl rfl (y_lss rfl rfl rfl) ?_
   clear hf a; intro a hf
   refine st_end ?_
   refine x_then_n ?_
   refine cond_t hf rfl (decide_eq_true (by omega)) ?_
   refine wp_skip ?_
   refine x_then_n ?_
   refine wp_seq ?_
   refine wp_block ?_
   refine wp_seq ?_
   refine wp_region_lit ?_
   refine st_y hf rfl rfl rfl (y_assign rfl rfl) ?_
   clear hf a; intro a hf
   refine st_end ?_
   refine x_then_n ?_
   obtain ⟨p1_2, c1_2, he, hl1_2⟩ := ro_slice (hm.ow_rep 1 rfl)
   subst he
   obtain ⟨s1_1, hq1_1, hb0_1⟩ := bnd hb0_1
   refine code_cut (K := fun a w => ∃ (v1_2 : Value), Fr 43 [(1, (.int .i64 (b_))), (2, (.pointer (some ⟨b0_1, 0, none⟩))), (5, v1_2), (6, (.int .i64 (i1_1)))] a ∧ Mem w0 (hp w0) w [blk b0_1 [(.int .i64 (c_.params)), (.int .i64 (c_.regs)), (.slice p1_1 c_.blocks.length c1_1)] 55, ow [v1_2] s1_1]) ?_ ?_
   ·
    refine wp_block ?_
    obtain ⟨r2_1, hl2_1, hq1_1⟩ := bnd hq1_1
    refine wp_loopM _ (fun xs3_1 a w => Fr 43 [(1, (.int .i64 (b_))), (2, (.pointer (some ⟨b0_1, 0, none⟩))), (5, (.slice p1_2 xs1_1.length c1_2)), (6, (.int .i64 (i1_1))), (7, (.int .i64 (xs3_1)))] a ∧ Mem w0 (hp w0) w [blk b0_1 [(.int .i64 (c_.params)), (.int .i64 (c_.regs)), (.slice p1_1 c_.blocks.length c1_1)] 55, ow [(.slice p1_2 xs1_1.length c1_2)] xs1_1]) hl2_1 ?_ ?_
    ·
     exact ⟨hf.sub ⟨rfl, rfl, rfl, rfl, rfl, trivial⟩, hm.pick [0, 1] (by decide) rfl⟩
    ·
     clear hf hm
     rintro xs3_1 a w q2_1 ⟨hf, hm⟩ hb2_1 ho2_1
     refine wp_seq ?_
     refine wp_seq ?_
     refine wp_region_lit ?_
     refine st_y hf rfl rfl rfl (y_move rfl rfl) ?_
     clear hf a; intro a hf
     refine st_y hf rfl rfl rfl (y_fieldAddr fo_55_2 rfl rfl) ?_
     clear hf a; intro a hf
     refine st_y hf rfl rfl rfl (y_load1 Try.isAgg53 rfl rfl (hm.blk_cell 0 rfl rfl)) ?_
     clear hf a; intro a hf
     refine st_y hf rfl rfl rfl (y_move rfl rfl) ?_
     clear hf a; intro a hf
     obtain ⟨x3_1, hx3_1, hb2_1⟩ := bnd hb2_1
     obtain ⟨h3_1, hx3_2⟩ := getI_some.1 hx3_1
     obtain ⟨b3_1, o3_1, c3_1, he⟩ := idx_form' h1 hx3_2
     simp only [Value.slice.injEq, Option.some.injEq] at he; obtain ⟨rfl, _, rfl⟩ := he
     obtain ⟨_, _, hc3_1, hr3_1⟩ := ro_get' h1 hx3_2
     obtain ⟨_, _, rfl, h3_2, _, _, rfl, h3_3, _, _, rfl, rfl, _, _, rfl, rfl, h3_4⟩ := hr3_1
     obtain ⟨v3_1, rfl, -⟩ := id h3_2
     replace h3_2 : GT.rep (hp w0) [v3_1] x3_1.phis := h3_2
     obtain ⟨v3_2, rfl, -⟩ := id h3_3
     replace h3_3 : GT.rep (hp w0) [v3_2] x3_1.ins := h3_3
     obtain ⟨v3_3, rfl, -⟩ := id h3_4
     replace h3_4 : GT.rep (hp w0) [v3_3] x3_1.next_ := h3_4
     replace hc3_1 : CellsAt (hp w0) b3_1 (o3_1 + (i1_1).toNat * 5) [v3_1, v3_2, (.int .i64 (x3_1.jump)), (.int .i64 (x3_1.on)), v3_3] := hc3_1
     refine st_y hf rfl rfl rfl (y_indexAddr st_53 rfl rfl rfl h3_1 (idx_lt hx3_2)) ?_
     clear hf a; intro a hf
     refine st_y hf rfl rfl rfl (y_fieldAddr fo_61_4 rfl rfl) ?_
     clear hf a; intro a hf
     refine st_y hf rfl rfl rfl (y_load1 Try.isAgg26 rfl rfl ((hc3_1.mono hm.lez).cell (j := 4) rfl)) ?_
     clear hf a; intro a hf
     obtain ⟨p3_1, c3_2, he, hl3_1⟩ := ro_slice h3_4
     subst he
     refine st_y hf rfl rfl rfl (y_len_slice st_26.und rfl rfl) ?_
     clear hf a; intro a hf
     refine st_y hf rfl rfl rfl (y_lss rfl rfl rfl) ?_
     clear hf a; intro a hf
     refine st_end ?_
     refine x_then_n ?_
     rcases bcases (decide (xs3_1 < ((x3_1.next_.length : Int)))) with h3_5 | h3_5
     ·
      replace hb2_1 := (ite_t h3_5).symm.trans hb2_1
      have h3_6 := of_decide_eq_true h3_5
      refine cond_t hf rfl h3_5 ?_
      refine wp_skip ?_
      refine x_then_n ?_
      refine wp_seq ?_
      refine wp_block ?_
      refine wp_seq ?_
      refine wp_region_lit ?_
      refine st_y hf rfl rfl rfl (y_fieldAddr fo_55_2 rfl rfl) ?_
      clear hf a; intro a hf
      refine st_y hf rfl rfl rfl (y_load1 Try.isAgg53 rfl rfl (hm.blk_cell 0 rfl rfl)) ?_
      clear hf a; intro a hf
      refine st_y hf rfl rfl rfl (y_move rfl rfl) ?_
      clear hf a; intro a hf
      refine st_y hf rfl rfl rfl (y_indexAddr st_53 rfl rfl rfl h3_1 (idx_lt hx3_2)) ?_
      clear hf a; intro a hf
      refine st_y hf rfl rfl rfl (y_fieldAddr fo_61_4 rfl rfl) ?_
      clear hf a; intro a hf
      refine st_y hf rfl rfl rfl (y_load1 Try.isAgg26 rfl rfl ((hc3_1.mono hm.lez).cell (j := 4) rfl)) ?_
      clear hf a; intro a hf
      refine st_y hf rfl rfl rfl (y_move rfl rfl) ?_
      clear hf a; intro a hf
      obtain ⟨x3_2, hx3_3, hb2_1⟩ := bnd hb2_1
      obtain ⟨h3_7, hx3_4⟩ := getI_some.1 hx3_3
      obtain ⟨b3_2, o3_2, c3_3, he⟩ := idx_form h3_4 hx3_4
      simp only [Value.slice.injEq, Option.some.injEq] at he; obtain ⟨rfl, _, rfl⟩ := he
      refine st_y hf rfl rfl rfl (y_indexAddr st_26 rfl rfl rfl h3_7 (idx_lt hx3_4)) ?_
      clear hf a; intro a hf
      refine st_y hf rfl rfl rfl (y_load1 Try.isAgg3 rfl rfl ((flat_cells (cs := [(.int .i64 (x3_2))]) (hm.now h3_4) hx3_4 rfl).cell (j := 0) rfl)) ?_
      clear hf a; intro a hf
      refine st_y hf rfl rfl rfl (y_move rfl rfl) ?_
      clear hf a; intro a hf
      refine st_y hf rfl rfl rfl (y_eql rfl rfl rfl) ?_
      clear hf a; intro a hf
      refine st_end ?_
      refine x_then_n ?_
      rcases bcases (decide (x3_2 = b_)) with h3_8 | h3_8
      ·
       replace hb2_1 := (ite_t h3_8).symm.trans hb2_1
       have h3_9 := of_decide_eq_true h3_8
       refine cond_t hf rfl h3_8 ?_
       refine wp_seq ?_
       refine wp_region_lit ?_
       refine st_y hf rfl rfl rfl (y_move rfl rfl) ?_
       clear hf a; intro a hf
       refine st_y hf rfl rfl rfl (y_move rfl rfl) ?_
       clear hf a; intro a hf
       refine st_ef hf rfl rfl rfl (e_build (vs := #[(0, (.int .i64 (i1_1)))]) (cs := [(.int .i64 (i1_1))]) et_26 hf hm rfl rfl (by kernel_rfl) rfl rfl) ?_
       clear hf a; rintro _ w3_1 a ⟨b3_3, rfl, hm⟩ hf
       replace hm := hm.lit (xs := ([i1_1] : List Int)) 0 rfl rfl rfl rfl
       obtain ⟨ys3_1, hx3_5, hb2_1⟩ := bnd hb2_1
       obtain ⟨h3_10, h3_10e⟩ := appM_some.1 hx3_5
       refine st_ef hf rfl rfl rfl (e_append 2 et_26 hf hm rfl (hm.ow_rep 0 rfl) rfl rfl rfl h3_10) ?_
       clear hf a; rintro v3_4 w3_2 a hm hf
       rw [h3_10e] at hm
       refine st_y hf rfl rfl rfl (y_assign rfl rfl) ?_
       clear hf a; intro a hf
       refine st_end ?_
       refine x_then_n ?_
       refine wp_exit ?_
       refine x_blk_miss rfl ?_
       refine x_then_exit ?_
       refine x_then_exit ?_
       refine x_blk_hit ?_
       refine x_then_n ?_
       obtain rfl := Option.some.inj hb2_1
       obtain rfl := ho2_1 _ rfl
       obtain rfl := Option.some.inj hq1_1
       exact ⟨v3_4, hf.sub ⟨rfl, rfl, rfl, rfl, trivial⟩, hm.pick [1, 2] (by decide) rfl⟩
      ·
       replace hb2_1 := (ite_f h3_8).symm.trans hb2_1
       have h3_11 := of_decide_eq_false h3_8
       refine cond_f hf rfl h3_8 ?_
       refine wp_skip ?_
       refine x_blk_n ?_
       refine x_then_n ?_
       refine wp_region_lit ?_
       refine st_y hf rfl rfl rfl (y_move rfl rfl) ?_
       clear hf a; intro a hf
       refine st_y hf rfl rfl rfl (y_addw rfl rfl rfl) ?_
       clear hf a; intro a hf
       refine st_y hf rfl rfl rfl (y_assign rfl rfl) ?_
       clear hf a; intro a hf
       refine st_end ?_
       refine x_then_n ?_
       obtain rfl := Option.some.inj hb2_1
       exact ⟨_, rfl, hf.sub ⟨rfl, rfl, rfl, rfl, rfl, trivial⟩, hm.pick [0, 1] (by decide) rfl⟩
     ·
      replace hb2_1 := (ite_f h3_5).symm.trans hb2_1
      have h3_12 := of_decide_eq_false h3_5
      refine cond_f hf rfl h3_5 ?_
      refine wp_exit ?_
      refine x_then_exit ?_
      refine x_then_exit ?_
      refine x_blk_hit ?_
      refine x_then_n ?_
      obtain rfl := Option.some.inj hb2_1
      obtain rfl := ho2_1 _ rfl
      obtain rfl := Option.some.inj hq1_1
      exact ⟨(.slice p1_2 xs1_1.length c1_2), hf.sub ⟨rfl, rfl, rfl, rfl, trivial⟩, hm.pick [0, 1] (by decide) rfl⟩
   ·
    clear hf hm
    rintro a w ⟨v1_2, hf, hm⟩
    refine x_blk_n ?_
    refine x_then_n ?_
    refine wp_region_lit ?_
    refine st_y hf rfl rfl rfl (y_move rfl rfl) ?_
    clear hf a; intro a hf
    refine st_y hf rfl rfl rfl (y_add64 rfl rfl rfl (by omega) (by omega)) ?_
    clear hf a; intro a hf
    refine st_y hf rfl rfl rfl (y_assign rfl rfl) ?_
    clear hf a; intro a hf
    refine st_end ?_
    refine x_then_n ?_
    obtain rfl := Option.some.inj hb0_1
    exact ⟨_, rfl, v1_2, hf.sub ⟨rfl, rfl, rfl, rfl, trivial⟩, hm.pick [0, 1] (by decide) rfl⟩
  ·
   clear hf hm
   rintro i0_1 xs0_1 a w ⟨v0_2, hf, hm⟩ hi0_1 hi0_2 rfl
   replace hq := sum_l hq
   refine wp_seq ?_
   refine wp_seq ?_
   refine wp_region_lit ?_
   refine st_y hf rfl rfl rfl (y_move rfl rfl) ?_
   clear hf a; intro a hf
   refine st_y hf rfl rfl rfl (y_fieldAddr fo_55_2 rfl rfl) ?_
   clear hf a; intro a hf
   refine st_y hf rfl rfl rfl (y_load1 Try.isAgg53 rfl rfl (hm.blk_cell 0 rfl rfl)) ?_
   clear hf a; intro a hf
   obtain ⟨p0_2, c0_2, he, hl0_3⟩ := ro_slice h1
   subst he
   refine st_y hf rfl rfl rfl (y_len_slice st_53.und rfl rfl) ?_
   clear hf a; intro a hf
   refine st_y hf rfl rfl rfl (y_lss rfl rfl rfl) ?_
   clear hf a; intro a hf
   refine st_end ?_
   refine x_then_n ?_
   refine cond_f hf rfl (decide_eq_false (by omega)) ?_
   refine wp_exit ?_
   refine x_then_exit ?_
   refine x_then_exit ?_
   refine x_blk_hit ?_
   refine x_then_n ?_
   refine wp_seq ?_
   refine wp_region_lit ?_
   refine st_y hf rfl rfl rfl (y_move rfl rfl) ?_
   clear hf a; intro a hf
   refine st_y hf rfl rfl rfl (y_assign rfl rfl) ?_
   clear hf a; intro a hf
   refine st_end ?_
   refine x_then_n ?_
   refine wp_ret ?_
   obtain rfl := Option.some.inj hq
   refine ret_tmp hf Try.results78 rfl ?_
   exact ⟨v0_2, rfl, hm.pick [1] (by decide) rfl⟩

theorem spec_l7Block_ok (w0 : World) (u : Unit_) (v1 : Value) (h1 : GT.rep (hp w0) [v1] u.codes) (k_ : Int) (b_ : Int) (r : Bool) (hq : spec_l7Block u k_ b_ = some r) :
    Con Try.prog 112 [(.agg #[v1]), (.int .i64 (k_)), (.int .i64 (b_))] w0 (fun v w' => v = (.bool (r)) ∧ Below w0.heap.size w0 w') := by
  unfold spec_l7Block at hq
  refine con_body (l := [(0, (.agg #[v1])), (1, (.int .i64 (k_))), (2, (.int .i64 (b_)))]) Try.func112 rfl Try.ntmps112 (Args.get ⟨rfl, rfl, rfl, trivial⟩) rfl ?_
  intro a hf
  have hm := Mem.start w0
  refine wp_seq ?_
  refine wp_region_lit ?_
  refine st_ef hf rfl rfl rfl (e_box hf hm rfl rfl rfl) ?_
  clear hf a; rintro _ w0_1 a ⟨b0_1, rfl, hm⟩ hf
  refine st_y hf rfl rfl rfl (y_assign rfl rfl) ?_
  clear hf a; intro a hf
  refine st_end ?_
  refine x_then_n ?_
  refine wp_seq ?_
  refine wp_region_lit ?_
  refine st_y hf rfl rfl rfl (y_fieldAddr fo_40_0 rfl rfl) ?_
  clear hf a; intro a hf
  refine st_y hf rfl rfl rfl (y_load1 Try.isAgg38 rfl rfl (hm.blk_cell 0 rfl rfl)) ?_
  clear hf a; intro a hf
  refine st_y hf rfl rfl rfl (y_move rfl rfl) ?_
  clear hf a; intro a hf
  obtain ⟨x0_1, hx0_1, hq⟩ := bnd hq
  obtain ⟨h0_1, hx0_2⟩ := getI_some.1 hx0_1
  obtain ⟨b0_2, o0_1, c0_1, he⟩ := idx_form' h1 hx0_2
  subst he
  obtain ⟨_, _, hc0_1, hr0_1⟩ := ro_get' h1 hx0_2
  obtain ⟨_, _, rfl, rfl, _, _, rfl, rfl, h0_2⟩ := hr0_1
  obtain ⟨v0_1, rfl, -⟩ := id h0_2
  replace h0_2 : GT.rep (hp w0) [v0_1] x0_1.blocks := h0_2
  replace hc0_1 : CellsAt (hp w0) b0_2 (o0_1 + (k_).toNat * 3) [(.int .i64 (x0_1.params)), (.int .i64 (x0_1.regs)), v0_1] := hc0_1
  refine st_y hf rfl rfl rfl (y_indexAddr st_38 rfl rfl rfl h0_1 (idx_lt hx0_2)) ?_
  clear hf a; intro a hf
  refine st_y hf rfl rfl rfl (y_loadN (cs := [(.int .i64 (x0_1.params)), (.int .i64 (x0_1.regs)), v0_1]) Try.isAgg55 Try.sizeOf55 rfl rfl (hc0_1.mono hm.lez)) ?_
  clear hf a; intro a hf
  refine st_ef hf rfl rfl rfl (e_alloc hm Try.zeroValue55 rfl rfl) ?_
  clear hf a; rintro _ w0_2 a ⟨b0_3, rfl, hm⟩ hf
  refine st_ef0 hf rfl rfl (e_storeN 0 hf hm rfl Try.sizeOf55 rfl rfl rfl (one_cons rfl (one_cons rfl (one_cons (rep_one h0_2) one_nil))) rfl rfl) ?_
  clear hf a; rintro _ w0_3 a hm hf
  refine st_end ?_
  refine x_then_n ?_
  refine wp_seq ?_
  refine wp_region_lit ?_
  refine st_y hf rfl rfl rfl (y_fieldAddr fo_55_2 rfl rfl) ?_
  clear hf a; intro a hf
  refine st_y hf rfl rfl rfl (y_load1 Try.isAgg53 rfl rfl (hm.blk_cell 0 rfl rfl)) ?_
  clear hf a; intro a hf
  refine st_y hf rfl rfl rfl (y_move rfl rfl) ?_
  clear hf a; intro a hf
  obtain ⟨x0_2, hx0_3, hq⟩ := bnd hq
  obtain ⟨h0_3, hx0_4⟩ := getI_some.1 hx0_3
  obtain ⟨b0_4, o0_2, c0_2, he⟩ := idx_form' h0_2 hx0_4
  subst he
  obtain ⟨_, _, hc0_2, hr0_2⟩ := ro_get' h0_2 hx0_4
  obtain ⟨_, _, rfl, h0_4, _, _, rfl, h0_5, _, _, rfl, rfl, _, _, rfl, rfl, h0_6⟩ := hr0_2
  obtain ⟨v0_2, rfl, -⟩ := id h0_4
  replace h0_4 : GT.rep (hp w0) [v0_2] x0_2.phis := h0_4
  obtain ⟨v0_3, rfl, -⟩ := id h0_5
  replace h0_5 : GT.rep (hp w0) [v0_3] x0_2.ins := h0_5
  obtain ⟨v0_4, rfl, -⟩ := id h0_6
  replace h0_6 : GT.rep (hp w0) [v0_4] x0_2.next_ := h0_6
  replace hc0_2 : CellsAt (hp w0) b0_4 (o0_2 + (b_).toNat * 5) [v0_2, v0_3, (.int .i64 (x0_2.jump)), (.int .i64 (x0_2.on)), v0_4] := hc0_2
  refine st_y hf rfl rfl rfl (y_indexAddr st_53 rfl rfl rfl h0_3 (idx_lt hx0_4)) ?_
  clear hf a; intro a hf
  refine st_y hf rfl rfl rfl (y_loadN (cs := [v0_2, v0_3, (.int .i64 (x0_2.jump)), (.int .i64 (x0_2.on)), v0_4]) Try.isAgg61 Try.sizeOf61 rfl rfl (hc0_2.mono hm.lez)) ?_
  clear hf a; intro a hf
  refine st_ef hf rfl rfl rfl (e_alloc hm Try.zeroValue61 rfl rfl) ?_
  clear hf a; rintro _ w0_4 a ⟨b0_5, rfl, hm⟩ hf
  refine st_ef0 hf rfl rfl (e_storeN 0 hf hm rfl Try.sizeOf61 rfl rfl rfl (one_cons (rep_one h0_4) (one_cons (rep_one h0_5) (one_cons rfl (one_cons rfl (one_cons (rep_one h0_6) one_nil))))) rfl rfl) ?_
  clear hf a; rintro _ w0_5 a hm hf
  refine st_end ?_
  refine x_then_n ?_
  refine wp_seq ?_
  refine wp_region_lit ?_
  refine st_y hf rfl rfl rfl (y_assign rfl rfl) ?_
  clear hf a; intro a hf
  refine st_end ?_
  refine x_then_n ?_
  refine wp_seq ?_
  refine wp_seq ?_
  refine wp_region_lit ?_
  refine st_y hf rfl rfl rfl (y_fieldAddr fo_61_2 rfl rfl) ?_
  clear hf a; intro a hf
  refine st_y hf rfl rfl rfl (y_load1 Try.isAgg3 rfl rfl (hm.blk_cell 0 rfl rfl)) ?_
  clear hf a; intro a hf
  refine st_end ?_
  refine x_then_n ?_
  obtain ⟨c0_3, hq0_1, hq⟩ := bnd hq
  refine code_cut (K := fun a w => ∃ s0_1, c0_3 = .inl s0_1 ∧ 0 ≤ x0_2.jump ∧ x0_2.jump ≤ 3 ∧ 0 ≤ s0_1 ∧ s0_1 ≤ 2 ∧ Fr 136 [(1, (.int .i64 (k_))), (2, (.int .i64 (b_))), (3, (.pointer (some ⟨b0_1, 0, none⟩))), (7, (.pointer (some ⟨b0_3, 0, none⟩))), (8, (.pointer (some ⟨b0_5, 0, none⟩))), (9, (.int .i64 (s0_1)))] a ∧ Mem w0 (hp w0) w [blk b0_1 [(.slice (some ⟨b0_2, o0_1, none⟩) u.codes.length c0_1)] 40, blk b0_3 [(.int .i64 (x0_1.params)), (.int .i64 (x0_1.regs)), (.slice (some ⟨b0_4, o0_2, none⟩) x0_1.blocks.length c0_2)] 55, blk b0_5 [v0_2, v0_3, (.int .i64 (x0_2.jump)), (.int .i64 (x0_2.on)), v0_4] 61]) ?_ ?_
  ·
   refine wp_block ?_
   refine wp_seq ?_
   refine wp_region_lit ?_
   refine st_y hf rfl rfl rfl (y_eql rfl rfl rfl) ?_
   clear hf a; intro a hf
   refine st_y hf rfl rfl rfl (y_assign rfl rfl) ?_
   clear hf a; intro a hf
   refine st_end ?_
   refine x_then_n ?_
   obtain ⟨c1_1, hq1_1, hq0_1⟩ := bnd hq0_1
   refine code_cut (K := fun a w => ∃ s1_1, c1_1 = .inl s1_1 ∧ 0 ≤ x0_2.jump ∧ x0_2.jump ≤ 3 ∧ 0 ≤ s1_1 ∧ s1_1 ≤ 2 ∧ Fr 136 [(1, (.int .i64 (k_))), (2, (.int .i64 (b_))), (3, (.pointer (some ⟨b0_1, 0, none⟩))), (7, (.pointer (some ⟨b0_3, 0, none⟩))), (8, (.pointer (some ⟨b0_5, 0, none⟩))), (9, (.int .i64 (s1_1)))] a ∧ Mem w0 (hp w0) w [blk b0_1 [(.slice (some ⟨b0_2, o0_1, none⟩) u.codes.length c0_1)] 40, blk b0_3 [(.int .i64 (x0_1.params)), (.int .i64 (x0_1.regs)), (.slice (some ⟨b0_4, o0_2, none⟩) x0_1.blocks.length c0_2)] 55, blk b0_5 [v0_2, v0_3, (.int .i64 (x0_2.jump)), (.int .i64 (x0_2.on)), v0_4] 61]) ?_ ?_
   ·
    rcases bcases (decide (x0_2.jump = 1)) with h2_1 | h2_1
    ·
     replace hq1_1 := (ite_t h2_1).symm.trans hq1_1
     have h2_2 := of_decide_eq_true h2_1
     refine cond_t hf rfl h2_1 ?_
     refine wp_seq ?_
     refine wp_region_lit ?_
     refine st_y hf rfl rfl rfl (y_fieldAddr fo_61_3 rfl rfl) ?_
     clear hf a; intro a hf
     refine st_y hf rfl rfl rfl (y_load1 Try.isAgg3 rfl rfl (hm.blk_cell 0 rfl rfl)) ?_
     clear hf a; intro a hf
     refine st_y hf rfl rfl rfl (y_neq rfl rfl rfl) ?_
     clear hf a; intro a hf
     refine st_end ?_
     refine x_then_n ?_
     rcases bcases (decide (x0_2.on ≠ 0)) with h2_3 | h2_3
     ·
      replace hq1_1 := (ite_t h2_3).symm.trans hq1_1
      have h2_4 := of_decide_eq_true h2_3
      refine cond_t hf rfl h2_3 ?_
      refine wp_seq ?_
      refine wp_region_lit ?_
      refine st_y hf rfl rfl rfl (y_assign rfl rfl) ?_
      clear hf a; intro a hf
      refine st_end ?_
      refine x_then_n ?_
      refine wp_ret ?_
      refine x_then_ret ?_
      refine x_blk_ret ?_
      refine x_then_ret ?_
      refine x_then_ret ?_
      obtain rfl := Option.some.inj hq1_1
      replace hq0_1 := sum_r hq0_1
      obtain rfl := Option.some.inj hq0_1
      replace hq := sum_r hq
      obtain rfl := Option.some.inj hq
      refine ret_tmp hf Try.results112 rfl ?_
      exact ⟨rfl, hm.below⟩
     ·
      replace hq1_1 := (ite_f h2_3).symm.trans hq1_1
      have h2_5 := of_decide_eq_false h2_3
      refine cond_f hf rfl h2_3 ?_
      refine wp_skip ?_
      refine x_then_n ?_
      obtain rfl := Option.some.inj hq1_1
      exact ⟨_, rfl, (by first | omega | (dsimp only; omega)), (by first | omega | (dsimp only; omega)), (by first | omega | (dsimp only; omega)), (by first | omega | (dsimp only; omega)), hf.sub ⟨rfl, rfl, rfl, rfl, rfl, rfl, trivial⟩, hm.pick [2, 1, 0] (by decide) rfl⟩
    ·
     replace hq1_1 := (ite_f h2_1).symm.trans hq1_1
     have h2_6 := of_decide_eq_false h2_1
     refine cond_f hf rfl h2_1 ?_
     refine wp_seq ?_
     refine wp_region_lit ?_
     refine st_y hf rfl rfl rfl (y_eql rfl rfl rfl) ?_
     clear hf a; intro a hf
     refine st_y hf rfl rfl rfl (y_assign rfl rfl) ?_
     clear hf a; intro a hf
     refine st_end ?_
     refine x_then_n ?_
     obtain ⟨c2_1, hq2_1, hq1_1⟩ := bnd hq1_1
     refine code_cut (K := fun a w => ∃ s2_1, c2_1 = .inl s2_1 ∧ 0 ≤ x0_2.jump ∧ x0_2.jump ≤ 3 ∧ 0 ≤ s2_1 ∧ s2_1 ≤ 2 ∧ Fr 136 [(1, (.int .i64 (k_))), (2, (.int .i64 (b_))), (3, (.pointer (some ⟨b0_1, 0, none⟩))), (7, (.pointer (some ⟨b0_3, 0, none⟩))), (8, (.pointer (some ⟨b0_5, 0, none⟩))), (9, (.int .i64 (s2_1)))] a ∧ Mem w0 (hp w0) w [blk b0_1 [(.slice (some ⟨b0_2, o0_1, none⟩) u.codes.length c0_1)] 40, blk b0_3 [(.int .i64 (x0_1.params)), (.int .i64 (x0_1.regs)), (.slice (some ⟨b0_4, o0_2, none⟩) x0_1.blocks.length c0_2)] 55, blk b0_5 [v0_2, v0_3, (.int .i64 (x0_2.jump)), (.int .i64 (x0_2.on)), v0_4] 61]) ?_ ?_
     ·
      rcases bcases (decide (x0_2.jump = 2)) with h3_1 | h3_1
      ·
       replace hq2_1 := (ite_t h3_1).symm.trans hq2_1
       have h3_2 := of_decide_eq_true h3_1
       refine cond_t hf rfl h3_1 ?_
       refine wp_region_lit ?_
       refine st_y hf rfl rfl rfl (y_assign rfl rfl) ?_
       clear hf a; intro a hf
       refine st_end ?_
       refine x_then_n ?_
       obtain rfl := Option.some.inj hq2_1
       exact ⟨_, rfl, (by first | omega | (dsimp only; omega)), (by first | omega | (dsimp only; omega)), (by first | omega | (dsimp only; omega)), (by first | omega | (dsimp only; omega)), hf.sub ⟨rfl, rfl, rfl, rfl, rfl, rfl, trivial⟩, hm.pick [2, 1, 0] (by decide) rfl⟩
      ·
       replace hq2_1 := (ite_f h3_1).symm.trans hq2_1
       have h3_3 := of_decide_eq_false h3_1
       refine cond_f hf rfl h3_1 ?_
       refine wp_seq ?_
       refine wp_region_lit ?_
       refine st_y hf rfl rfl rfl (y_eql rfl rfl rfl) ?_
       clear hf a; intro a hf
       refine st_y hf rfl rfl rfl (y_assign rfl rfl) ?_
       clear hf a; intro a hf
       refine st_end ?_
       refine x_then_n ?_
       rcases bcases (decide (x0_2.jump = 3)) with h3_4 | h3_4
       ·
        replace hq2_1 := (ite_t h3_4).symm.trans hq2_1
        have h3_5 := of_decide_eq_true h3_4
        refine cond_t hf rfl h3_4 ?_
        refine wp_region_lit ?_
        refine st_y hf rfl rfl rfl (y_assign rfl rfl) ?_
        clear hf a; intro a hf
        refine st_end ?_
        refine x_then_n ?_
        obtain rfl := Option.some.inj hq2_1
        exact ⟨_, rfl, (by first | omega | (dsimp only; omega)), (by first | omega | (dsimp only; omega)), (by first | omega | (dsimp only; omega)), (by first | omega | (dsimp only; omega)), hf.sub ⟨rfl, rfl, rfl, rfl, rfl, rfl, trivial⟩, hm.pick [2, 1, 0] (by decide) rfl⟩
       ·
        replace hq2_1 := (ite_f h3_4).symm.trans hq2_1
        have h3_6 := of_decide_eq_false h3_4
        refine cond_f hf rfl h3_4 ?_
        refine wp_seq ?_
        refine wp_region_lit ?_
        refine st_y hf rfl rfl rfl (y_assign rfl rfl) ?_
        clear hf a; intro a hf
        refine st_end ?_
        refine x_then_n ?_
        refine wp_ret ?_
        refine x_then_ret ?_
        refine x_then_ret ?_
        refine x_blk_ret ?_
        refine x_then_ret ?_
        refine x_then_ret ?_
        obtain rfl := Option.some.inj hq2_1
        replace hq1_1 := sum_r hq1_1
        obtain rfl := Option.some.inj hq1_1
        replace hq0_1 := sum_r hq0_1
        obtain rfl := Option.some.inj hq0_1
        replace hq := sum_r hq
        obtain rfl := Option.some.inj hq
        refine ret_tmp hf Try.results112 rfl ?_
        exact ⟨rfl, hm.below⟩
     ·
      clear hf hm
      rintro a w ⟨s2_1, rfl, hn2_1, hn2_2, hn2_3, hn2_4, hf, hm⟩
      replace hq1_1 := sum_l hq1_1
      refine x_then_n ?_
      obtain rfl := Option.some.inj hq1_1
      exact ⟨_, rfl, (by first | omega | (dsimp only; omega)), (by first | omega | (dsimp only; omega)), (by first | omega | (dsimp only; omega)), (by first | omega | (dsimp only; omega)), hf.sub ⟨rfl, rfl, rfl, rfl, rfl, rfl, trivial⟩, hm.pick [0, 1, 2] (by decide) rfl⟩
   ·
    clear hf hm
    rintro a w ⟨s1_1, rfl, hn1_1, hn1_2, hn1_3, hn1_4, hf, hm⟩
    replace hq0_1 := sum_l hq0_1
    refine x_blk_n ?_
    refine x_then_n ?_
    obtain rfl := Option.some.inj hq0_1
    exact ⟨_, rfl, (by first | omega | (dsimp only; omega)), (by first | omega | (dsimp only; omega)), (by first | omega | (dsimp only; omega)), (by first | omega | (dsimp only; omega)), hf.sub ⟨rfl, rfl, rfl, rfl, rfl, rfl, trivial⟩, hm.pick [0, 1, 2] (by decide) rfl⟩
  ·
   clear hf hm
   rintro a w ⟨s0_1, rfl, hn0_1, hn0_2, hn0_3, hn0_4, hf, hm⟩
   replace hq := sum_l hq
   refine x_then_n ?_
   refine wp_seq ?_
   refine wp_seq ?_
   obtain ⟨s0_2, hq0_2, hq⟩ := bnd hq
   refine code_cut (K := fun a w => 0 ≤ x0_2.jump ∧ x0_2.jump ≤ 3 ∧ Fr 136 [(1, (.int .i64 (k_))), (2, (.int .i64 (b_))), (3, (.pointer (some ⟨b0_1, 0, none⟩))), (7, (.pointer (some ⟨b0_3, 0, none⟩))), (8, (.pointer (some ⟨b0_5, 0, none⟩))), (53, (.bool (s0_2)))] a ∧ Mem w0 (hp w0) w [blk b0_1 [(.slice (some ⟨b0_2, o0_1, none⟩) u.codes.length c0_1)] 40, blk b0_3 [(.int .i64 (x0_1.params)), (.int .i64 (x0_1.regs)), (.slice (some ⟨b0_4, o0_2, none⟩) x0_1.blocks.length c0_2)] 55, blk b0_5 [v0_2, v0_3, (.int .i64 (x0_2.jump)), (.int .i64 (x0_2.on)), v0_4] 61]) ?_ ?_
   ·
    refine wp_region_lit ?_
    refine st_y hf rfl rfl rfl (y_fieldAddr fo_61_4 rfl rfl) ?_
    clear hf a; intro a hf
    refine st_y hf rfl rfl rfl (y_load1 Try.isAgg26 rfl rfl (hm.blk_cell 2 rfl rfl)) ?_
    clear hf a; intro a hf
    obtain ⟨p1_1, c1_2, he, hl1_1⟩ := ro_slice h0_6
    subst he
    refine st_y hf rfl rfl rfl (y_len_slice st_26.und rfl rfl) ?_
    clear hf a; intro a hf
    refine st_y hf rfl rfl rfl (y_move rfl rfl) ?_
    clear hf a; intro a hf
    refine st_y hf rfl rfl rfl (y_neq rfl rfl rfl) ?_
    clear hf a; intro a hf
    refine st_y hf rfl rfl rfl (y_move rfl rfl) ?_
    clear hf a; intro a hf
    rcases bcases (decide (((x0_2.next_.length : Int)) ≠ s0_1)) with h1_1 | h1_1
    ·
     replace hq0_2 := (ite_t h1_1).symm.trans hq0_2
     have h1_2 := of_decide_eq_true h1_1
     refine st_no hf rfl rfl (lk_b rfl h1_1) rfl rfl rfl ?_
     clear hf a; intro a hf
     refine st_no hf rfl rfl (lk_b rfl h1_1) rfl rfl rfl ?_
     clear hf a; intro a hf
     refine st_no hf rfl rfl (lk_b rfl h1_1) rfl rfl rfl ?_
     clear hf a; intro a hf
     refine st_no hf rfl rfl (lk_b rfl h1_1) rfl rfl rfl ?_
     clear hf a; intro a hf
     refine st_nou hf rfl rfl rfl rfl rfl ?_
     clear hf a; intro a hf
     refine st_nou hf rfl rfl rfl rfl rfl ?_
     clear hf a; intro a hf
     refine st_nou hf rfl rfl rfl rfl rfl ?_
     clear hf a; intro a hf
     refine st_nou hf rfl rfl rfl rfl rfl ?_
     clear hf a; intro a hf
     refine st_nou hf rfl rfl rfl rfl rfl ?_
     clear hf a; intro a hf
     refine st_nou hf rfl rfl rfl rfl rfl ?_
     clear hf a; intro a hf
     refine st_nou hf rfl rfl rfl rfl rfl ?_
     clear hf a; intro a hf
     refine st_no hf rfl rfl (lk_b rfl h1_1) rfl rfl rfl ?_
     clear hf a; intro a hf
     refine st_y hf rfl rfl rfl (y_pick_t rfl (ev_b rfl h1_1) rfl) ?_
     clear hf a; intro a hf
     refine st_end ?_
     refine x_then_n ?_
     obtain rfl := Option.some.inj hq0_2
     exact ⟨(by first | omega | (dsimp only; omega)), (by first | omega | (dsimp only; omega)), hf.sub ⟨rfl, rfl, rfl, rfl, rfl, rfl, trivial⟩, hm.pick [0, 1, 2] (by decide) rfl⟩
    ·
     replace hq0_2 := (ite_f h1_1).symm.trans hq0_2
     have h1_3 := of_decide_eq_false h1_1
     refine st_yg hf rfl rfl (lk_b rfl h1_1) rfl rfl (y_fieldAddr fo_61_2 rfl rfl) ?_
     clear hf a; intro a hf
     refine st_yg hf rfl rfl (lk_b rfl h1_1) rfl rfl (y_load1 Try.isAgg3 rfl rfl (hm.blk_cell 2 rfl rfl)) ?_
     clear hf a; intro a hf
     refine st_yg hf rfl rfl (lk_b rfl h1_1) rfl rfl (y_neq rfl rfl rfl) ?_
     clear hf a; intro a hf
     refine st_yg hf rfl rfl (lk_b rfl h1_1) rfl rfl (y_move rfl rfl) ?_
     clear hf a; intro a hf
     rcases bcases (decide (x0_2.jump ≠ 1)) with h1_4 | h1_4
     ·
      replace hq0_2 := (ite_t h1_4).symm.trans hq0_2
      have h1_5 := of_decide_eq_true h1_4
      refine st_yg hf rfl rfl (lk_b rfl h1_4) rfl rfl (y_fieldAddr fo_61_3 rfl rfl) ?_
      clear hf a; intro a hf
      refine st_yg hf rfl rfl (lk_b rfl h1_4) rfl rfl (y_load1 Try.isAgg3 rfl rfl (hm.blk_cell 2 rfl rfl)) ?_
      clear hf a; intro a hf
      refine st_yg hf rfl rfl (lk_b rfl h1_4) rfl rfl (y_fieldAddr fo_55_1 rfl rfl) ?_
      clear hf a; intro a hf
      refine st_yg hf rfl rfl (lk_b rfl h1_4) rfl rfl (y_load1 Try.isAgg3 rfl rfl (hm.blk_cell 1 rfl rfl)) ?_
      clear hf a; intro a hf
      refine st_yg hf rfl rfl (lk_b rfl h1_4) rfl rfl (y_subw rfl rfl rfl) ?_
      clear hf a; intro a hf
      obtain ⟨r1_1, hx1_1, hq0_2⟩ := bnd hq0_2
      refine st_efg hf rfl rfl (lk_b rfl h1_4) rfl rfl (e_call hf rfl Try.call56 rfl (spec_l1In_ok _ x0_2.on 0 (w64 (x0_1.regs - 1)) _ hx1_1)) ?_
      clear hf a; rintro v1_1 w1_1 a ho1_1 hf
      obtain ⟨rfl, hB⟩ := ho1_1
      replace hm := hm.below' hB; clear hB
      refine st_yg hf rfl rfl (lk_b rfl h1_4) rfl rfl (y_not rfl rfl) ?_
      clear hf a; intro a hf
      refine st_yg hf rfl rfl (lk_b rfl h1_1) rfl rfl (y_pick_t rfl (ev_b rfl h1_4) rfl) ?_
      clear hf a; intro a hf
      refine st_y hf rfl rfl rfl (y_pick_f rfl (ev_b rfl h1_1) rfl) ?_
      clear hf a; intro a hf
      refine st_end ?_
      refine x_then_n ?_
      obtain rfl := Option.some.inj hq0_2
      exact ⟨(by first | omega | (dsimp only; omega)), (by first | omega | (dsimp only; omega)), hf.sub ⟨rfl, rfl, rfl, rfl, rfl, rfl, trivial⟩, hm.pick [0, 1, 2] (by decide) rfl⟩
     ·
      replace hq0_2 := (ite_f h1_4).symm.trans hq0_2
      have h1_6 := of_decide_eq_false h1_4
      refine st_no hf rfl rfl (lk_b rfl h1_4) rfl rfl rfl ?_
      clear hf a; intro a hf
      refine st_no hf rfl rfl (lk_b rfl h1_4) rfl rfl rfl ?_
      clear hf a; intro a hf
      refine st_no hf rfl rfl (lk_b rfl h1_4) rfl rfl rfl ?_
      clear hf a; intro a hf
      refine st_no hf rfl rfl (lk_b rfl h1_4) rfl rfl rfl ?_
      clear hf a; intro a hf
      refine st_no hf rfl rfl (lk_b rfl h1_4) rfl rfl rfl ?_
      clear hf a; intro a hf
      refine st_no hf rfl rfl (lk_b rfl h1_4) rfl rfl rfl ?_
      clear hf a; intro a hf
      refine st_no hf rfl rfl (lk_b rfl h1_4) rfl rfl rfl ?_
      clear hf a; intro a hf
      refine st_yg hf rfl rfl (lk_b rfl h1_1) rfl rfl (y_pick_f rfl (ev_b rfl h1_4) rfl) ?_
      clear hf a; intro a hf
      refine st_y hf rfl rfl rfl (y_pick_f rfl (ev_b rfl h1_1) rfl) ?_
      clear hf a; intro a hf
      refine st_end ?_
      refine x_then_n ?_
      obtain rfl := Option.some.inj hq0_2
      exact ⟨(by first | omega | (dsimp only; omega)), (by first | omega | (dsimp only; omega)), hf.sub ⟨rfl, rfl, rfl, rfl, rfl, rfl, trivial⟩, hm.pick [0, 1, 2] (by decide) rfl⟩
   ·
    clear hf hm
    rintro a w ⟨hn0_5, hn0_6, hf, hm⟩
    refine x_then_n ?_
    rcases bcases (s0_2) with h0_7 | h0_7
    ·
     replace hq := (ite_t h0_7).symm.trans hq
     refine cond_t hf rfl h0_7 ?_
     refine wp_seq ?_
     refine wp_region_lit ?_
     refine st_y hf rfl rfl rfl (y_assign rfl rfl) ?_
     clear hf a; intro a hf
     refine st_end ?_
     refine x_then_n ?_
     refine wp_ret ?_
     refine x_then_ret ?_
     obtain rfl := Option.some.inj hq
     refine ret_tmp hf Try.results112 rfl ?_
     exact ⟨rfl, hm.below⟩
    ·
     replace hq := (ite_f h0_7).symm.trans hq
     refine cond_f hf rfl h0_7 ?_
     refine wp_skip ?_
     refine x_then_n ?_
     refine wp_seq ?_
     refine wp_seq ?_
     refine wp_region_lit ?_
     refine st_y hf rfl rfl rfl (y_assign rfl rfl) ?_
     clear hf a; intro a hf
     refine st_end ?_
     refine x_then_n ?_
     refine wp_block ?_
     obtain ⟨r0_1, hl0_1, hq⟩ := bnd hq
     refine wp_forN _ (fun i1_1 xs1_1 a w => Fr 136 [(1, (.int .i64 (k_))), (2, (.int .i64 (b_))), (3, (.pointer (some ⟨b0_1, 0, none⟩))), (7, (.pointer (some ⟨b0_3, 0, none⟩))), (8, (.pointer (some ⟨b0_5, 0, none⟩))), (10, (.int .i64 (i1_1)))] a ∧ Mem w0 (hp w0) w [blk b0_1 [(.slice (some ⟨b0_2, o0_1, none⟩) u.codes.length c0_1)] 40, blk b0_3 [(.int .i64 (x0_1.params)), (.int .i64 (x0_1.regs)), (.slice (some ⟨b0_4, o0_2, none⟩) x0_1.blocks.length c0_2)] 55, blk b0_5 [v0_2, v0_3, (.int .i64 (x0_2.jump)), (.int .i64 (x0_2.on)), v0_4] 61]) (0) ((x0_2.next_.length : Int)) hl0_1 ?_ ?_ ?_
     ·
      exact ⟨hf.sub ⟨rfl, rfl, rfl, rfl, rfl, rfl, trivial⟩, hm.pick [0, 1, 2] (by decide) rfl⟩
     ·
      clear hf hm
      rintro i1_1 xs1_1 a w ⟨hf, hm⟩ hi1_1 hi1_2 q0_1 hb0_1 ho0_1
      refine wp_seq ?_
      refine wp_seq ?_
      refine wp_region_lit ?_
      refine st_y hf rfl rfl rfl (y_move rfl rfl) ?_
      clear hf a; intro a hf
      refine st_y hf rfl rfl rfl (y_fieldAddr fo_61_4 rfl rfl) ?_
      clear hf a; intro a hf
      refine st_y hf rfl rfl rfl (y_load1 Try.isAgg26 rfl rfl (hm.blk_cell 2 rfl rfl)) ?_
      clear hf a; intro a hf
      obtain ⟨p1_2, c1_3, he, hl1_2⟩ := ro_slice h0_6
      subst he
      refine st_y hf rfl rfl rfl (y_len_slice st_26.und rfl rfl) ?_
      clear hf a; intro a hf
      refine st_y hf rfl rfl rfl (y_lss rfl rfl rfl) ?_
      clear hf a; intro a hf
      refine st_end ?_
      refine x_then_n ?_
      refine cond_t hf rfl (decide_eq_true (by omega)) ?_
      refine wp_skip ?_
      refine x_then_n ?_
      refine wp_seq ?_
      refine wp_block ?_
      refine wp_seq ?_
      refine wp_tree (.p 0 (.p 2 (.p 5 (.q 1 (.p 3 (.q 4 (.e 6 (.p 7 (.p 8 (.e 9 (.p 10 .fin) .nil))) .nil))))))) [6] [0, 2, 3, 5, 7, 8, 10] (fun w => Mem w0 (hp w0) w [blk b0_1 [(.slice (some ⟨b0_2, o0_1, none⟩) u.codes.length c0_1)] 40, blk b0_3 [(.int .i64 (x0_1.params)), (.int .i64 (x0_1.regs)), (.slice (some ⟨b0_4, o0_2, none⟩) x0_1.blocks.length c0_2)] 55, blk b0_5 [v0_2, v0_3, (.int .i64 (x0_2.jump)), (.int .i64 (x0_2.on)), (.slice p1_2 x0_2.next_.length c1_3)] 61]) (by kernel_rfl) (by kernel_rfl) (fun _ _ _ h => h.2) ?_
      replace hm := hm.drew
      have hS : Mem w0 (hp w0) _ [blk b0_1 [(.slice (some ⟨b0_2, o0_1, none⟩) u.codes.length c0_1)] 40, blk b0_3 [(.int .i64 (x0_1.params)), (.int .i64 (x0_1.regs)), (.slice (some ⟨b0_4, o0_2, none⟩) x0_1.blocks.length c0_2)] 55, blk b0_5 [v0_2, v0_3, (.int .i64 (x0_2.jump)), (.int .i64 (x0_2.on)), (.slice p1_2 x0_2.next_.length c1_3)] 61] := hm.pick [0, 1, 2] (by decide) rfl
      refine td_p hf rfl rfl rfl rfl (fun w => y_fieldAddr fo_61_4 rfl rfl) ?_
      clear hf a; intro a hf
      refine td_p hf rfl rfl rfl rfl (fun w => y_move rfl rfl) ?_
      clear hf a; intro a hf
      refine td_p hf rfl rfl rfl rfl (fun w => y_fieldAddr fo_55_2 rfl rfl) ?_
      clear hf a; intro a hf
      refine td_y hf rfl rfl rfl rfl hS (fun w hm => y_load1 Try.isAgg26 rfl rfl (hm.blk_cell 2 rfl rfl)) ?_
      clear hf a; intro a hf
      obtain ⟨x1_1, hx1_2, hb0_1⟩ := bnd hb0_1
      obtain ⟨h1_7, hx1_3⟩ := getI_some.1 hx1_2
      obtain ⟨b1_1, o1_1, c1_4, he⟩ := idx_form h0_6 hx1_3
      simp only [Value.slice.injEq, Option.some.injEq] at he; obtain ⟨rfl, _, rfl⟩ := he
      refine td_p hf rfl rfl rfl rfl (fun w => y_indexAddr st_26 rfl rfl rfl h1_7 (idx_lt hx1_3)) ?_
      clear hf a; intro a hf
      refine td_y hf rfl rfl rfl rfl hS (fun w hm => y_load1 Try.isAgg3 rfl rfl ((flat_cells (cs := [(.int .i64 (x1_1))]) (hm.now h0_6) hx1_3 rfl).cell (j := 0) rfl)) ?_
      clear hf a; intro a hf
      refine te_one ?_
      refine td_ef hf rfl rfl rfl rfl (ef_y hf (y_load1 Try.isAgg53 rfl rfl (hm.blk_cell 1 rfl rfl))) ?_
      clear hf a; rintro _ _ a ⟨rfl, rfl⟩ hf
      refine ⟨fun _ => hS, ?_⟩
      have hl1_3 := rep_len h0_2
      refine td_p hf rfl rfl rfl rfl (fun w => y_len_slice st_53.und rfl rfl) ?_
      clear hf a; intro a hf
      refine td_p hf rfl rfl rfl rfl (fun w => y_sub64 rfl rfl rfl (by omega) (by omega)) ?_
      clear hf a; intro a hf
      refine te_one ?_
      obtain ⟨r1_2, hx1_4, hb0_1⟩ := bnd hb0_1
      refine td_ef hf rfl rfl rfl rfl (e_call hf rfl Try.call56 rfl (spec_l1In_ok _ x1_1 1 (((x0_1.blocks.length : Int)) - 1) _ hx1_4)) ?_
      clear hf a; rintro v1_2 w1_2 a ho1_2 hf
      obtain ⟨rfl, hB⟩ := ho1_2
      replace hm := hm.below' hB; clear hB
      refine ⟨fun h => absurd h (by decide), ?_⟩
      refine td_p hf rfl rfl rfl rfl (fun w => y_not rfl rfl) ?_
      clear hf a; intro a hf
      clear hS; refine td_end ?_
      refine x_then_n ?_
      rcases bcases (!(r1_2)) with h1_8 | h1_8
      ·
       replace hb0_1 := (ite_t h1_8).symm.trans hb0_1
       have h1_9 := bnot_t' h1_8
       refine cond_t hf rfl h1_8 ?_
       refine wp_seq ?_
       refine wp_region_lit ?_
       refine st_y hf rfl rfl rfl (y_assign rfl rfl) ?_
       clear hf a; intro a hf
       refine st_end ?_
       refine x_then_n ?_
       refine wp_ret ?_
       refine x_blk_ret ?_
       refine x_then_ret ?_
       refine x_then_ret ?_
       refine x_blk_ret ?_
       refine x_then_ret ?_
       obtain rfl := Option.some.inj hb0_1
       obtain rfl := ho0_1 _ rfl
       replace hq := sum_r hq
       obtain rfl := Option.some.inj hq
       refine ret_tmp hf Try.results112 rfl ?_
       exact ⟨rfl, hm.below⟩
      ·
       replace hb0_1 := (ite_f h1_8).symm.trans hb0_1
       have h1_10 := bnot_f' h1_8
       refine cond_f hf rfl h1_8 ?_
       refine wp_skip ?_
       refine x_blk_n ?_
       refine x_then_n ?_
       refine wp_region_lit ?_
       refine st_y hf rfl rfl rfl (y_move rfl rfl) ?_
       clear hf a; intro a hf
       refine st_y hf rfl rfl rfl (y_add64 rfl rfl rfl (by omega) (by omega)) ?_
       clear hf a; intro a hf
       refine st_y hf rfl rfl rfl (y_assign rfl rfl) ?_
       clear hf a; intro a hf
       refine st_end ?_
       refine x_then_n ?_
       obtain rfl := Option.some.inj hb0_1
       exact ⟨_, rfl, hf.sub ⟨rfl, rfl, rfl, rfl, rfl, rfl, trivial⟩, hm.pick [0, 1, 2] (by decide) rfl⟩
     ·
      clear hf hm
      rintro i0_1 xs0_1 a w ⟨hf, hm⟩ hi0_1 hi0_2 rfl
      replace hq := sum_l hq
      refine wp_seq ?_
      refine wp_seq ?_
      refine wp_region_lit ?_
      refine st_y hf rfl rfl rfl (y_move rfl rfl) ?_
      clear hf a; intro a hf
      refine st_y hf rfl rfl rfl (y_fieldAddr fo_61_4 rfl rfl) ?_
      clear hf a; intro a hf
      refine st_y hf rfl rfl rfl (y_load1 Try.isAgg26 rfl rfl (hm.blk_cell 2 rfl rfl)) ?_
      clear hf a; intro a hf
      obtain ⟨p0_1, c0_4, he, hl0_2⟩ := ro_slice h0_6
      subst he
      refine st_y hf rfl rfl rfl (y_len_slice st_26.und rfl rfl) ?_
      clear hf a; intro a hf
      refine st_y hf rfl rfl rfl (y_lss rfl rfl rfl) ?_
      clear hf a; intro a hf
      refine st_end ?_
      refine x_then_n ?_
      refine cond_f hf rfl (decide_eq_false (by omega)) ?_
      refine wp_exit ?_
      refine x_then_exit ?_
      refine x_then_exit ?_
      refine x_blk_hit ?_
      refine x_then_n ?_
      refine wp_seq ?_
      refine wp_seq ?_
      refine wp_region_lit ?_
      refine st_y hf rfl rfl rfl (y_assign rfl rfl) ?_
      clear hf a; intro a hf
      refine st_end ?_
      refine x_then_n ?_
      refine wp_block ?_
      obtain ⟨r0_2, hl0_3, hq⟩ := bnd hq
      refine wp_forN _ (fun i1_2 xs1_2 a w => Fr 136 [(1, (.int .i64 (k_))), (2, (.int .i64 (b_))), (3, (.pointer (some ⟨b0_1, 0, none⟩))), (7, (.pointer (some ⟨b0_3, 0, none⟩))), (8, (.pointer (some ⟨b0_5, 0, none⟩))), (11, (.int .i64 (i1_2)))] a ∧ Mem w0 (hp w0) w [blk b0_1 [(.slice (some ⟨b0_2, o0_1, none⟩) u.codes.length c0_1)] 40, blk b0_3 [(.int .i64 (x0_1.params)), (.int .i64 (x0_1.regs)), (.slice (some ⟨b0_4, o0_2, none⟩) x0_1.blocks.length c0_2)] 55, blk b0_5 [v0_2, v0_3, (.int .i64 (x0_2.jump)), (.int .i64 (x0_2.on)), (.slice p0_1 x0_2.next_.length c0_4)] 61]) (0) ((x0_2.ins.length : Int)) hl0_3 ?_ ?_ ?_
      ·
       exact ⟨hf.sub ⟨rfl, rfl, rfl, rfl, rfl, rfl, trivial⟩, hm.pick [0, 1, 2] (by decide) rfl⟩
      ·
       clear hf hm
       rintro i1_2 xs1_2 a w ⟨hf, hm⟩ hi1_3 hi1_4 q0_2 hb0_2 ho0_2
       refine wp_seq ?_
       refine wp_seq ?_
       refine wp_region_lit ?_
       refine st_y hf rfl rfl rfl (y_move rfl rfl) ?_
       clear hf a; intro a hf
       refine st_y hf rfl rfl rfl (y_fieldAddr fo_61_1 rfl rfl) ?_
       clear hf a; intro a hf
       refine st_y hf rfl rfl rfl (y_load1 Try.isAgg58 rfl rfl (hm.blk_cell 2 rfl rfl)) ?_
       clear hf a; intro a hf
       obtain ⟨p1_3, c1_5, he, hl1_4⟩ := ro_slice h0_5
       subst he
       refine st_y hf rfl rfl rfl (y_len_slice st_58.und rfl rfl) ?_
       clear hf a; intro a hf
       refine st_y hf rfl rfl rfl (y_lss rfl rfl rfl) ?_
       clear hf a; intro a hf
       refine st_end ?_
       refine x_then_n ?_
       refine cond_t hf rfl (decide_eq_true (by omega)) ?_
       refine wp_skip ?_
       refine x_then_n ?_
       refine wp_seq ?_
       refine wp_block ?_
       refine wp_seq ?_
       refine wp_tree (.p 1 (.p 2 (.p 4 (.q 0 (.e 3 (.p 5 (.e 6 (.e 7 (.p 8 .fin) .nil) .nil)) .nil))))) [3, 6] [1, 2, 4, 5, 8] (fun w => Mem w0 (hp w0) w [blk b0_1 [(.slice (some ⟨b0_2, o0_1, none⟩) u.codes.length c0_1)] 40, blk b0_3 [(.int .i64 (x0_1.params)), (.int .i64 (x0_1.regs)), (.slice (some ⟨b0_4, o0_2, none⟩) x0_1.blocks.length c0_2)] 55, blk b0_5 [v0_2, (.slice p1_3 x0_2.ins.length c1_5), (.int .i64 (x0_2.jump)), (.int .i64 (x0_2.on)), (.slice p0_1 x0_2.next_.length c0_4)] 61]) (by kernel_rfl) (by kernel_rfl) (fun _ _ _ h => h.2) ?_
       replace hm := hm.drew
       have hS : Mem w0 (hp w0) _ [blk b0_1 [(.slice (some ⟨b0_2, o0_1, none⟩) u.codes.length c0_1)] 40, blk b0_3 [(.int .i64 (x0_1.params)), (.int .i64 (x0_1.regs)), (.slice (some ⟨b0_4, o0_2, none⟩) x0_1.blocks.length c0_2)] 55, blk b0_5 [v0_2, (.slice p1_3 x0_2.ins.length c1_5), (.int .i64 (x0_2.jump)), (.int .i64 (x0_2.on)), (.slice p0_1 x0_2.next_.length c0_4)] 61] := hm.pick [0, 1, 2] (by decide) rfl
       refine td_p hf rfl rfl rfl rfl (fun w => y_move rfl rfl) ?_
       clear hf a; intro a hf
       refine td_p hf rfl rfl rfl rfl (fun w => y_fieldAddr fo_61_1 rfl rfl) ?_
       clear hf a; intro a hf
       refine td_p hf rfl rfl rfl rfl (fun w => y_move rfl rfl) ?_
       clear hf a; intro a hf
       refine td_y hf rfl rfl rfl rfl hS (fun w hm => y_loadN (cs := [(.slice (some ⟨b0_2, o0_1, none⟩) u.codes.length c0_1)]) Try.isAgg40 Try.sizeOf40 rfl rfl (hm.blk_at 0 rfl)) ?_
       clear hf a; intro a hf
       refine te_one ?_
       refine td_ef hf rfl rfl rfl rfl (ef_y hf (y_load1 Try.isAgg58 rfl rfl (hm.blk_cell 2 rfl rfl))) ?_
       clear hf a; rintro _ _ a ⟨rfl, rfl⟩ hf
       refine ⟨fun _ => hS, ?_⟩
       obtain ⟨x1_2, hx1_5, hb0_2⟩ := bnd hb0_2
       obtain ⟨h1_11, hx1_6⟩ := getI_some.1 hx1_5
       obtain ⟨b1_2, o1_2, c1_6, he⟩ := idx_form' h0_5 hx1_6
       simp only [Value.slice.injEq, Option.some.injEq] at he; obtain ⟨rfl, _, rfl⟩ := he
       obtain ⟨_, _, hc1_1, hr1_1⟩ := ro_get' h0_5 hx1_6
       obtain ⟨_, _, rfl, rfl, _, _, rfl, rfl, _, _, rfl, h1_12, rfl⟩ := hr1_1
       obtain ⟨v1_3, rfl, -⟩ := id h1_12
       replace h1_12 : GT.rep (hp w0) [v1_3] x1_2.args := h1_12
       replace hc1_1 : CellsAt (hp w0) b1_2 (o1_2 + (i1_2).toNat * 4) [(.int .i64 (x1_2.op)), (.int .i64 (x1_2.to)), v1_3, (.int .i64 (x1_2.n_))] := hc1_1
       refine td_p hf rfl rfl rfl rfl (fun w => y_indexAddr st_58 rfl rfl rfl h1_11 (idx_lt hx1_6)) ?_
       clear hf a; intro a hf
       refine te_one ?_
       refine td_ef hf rfl rfl rfl rfl (ef_y hf (y_loadN (cs := [(.int .i64 (x1_2.op)), (.int .i64 (x1_2.to)), v1_3, (.int .i64 (x1_2.n_))]) Try.isAgg57 Try.sizeOf57 rfl rfl (hc1_1.mono hm.lez))) ?_
       clear hf a; rintro _ _ a ⟨rfl, rfl⟩ hf
       refine ⟨fun _ => hS, ?_⟩
       refine te_one ?_
       obtain ⟨r1_3, hx1_7, hb0_2⟩ := bnd hb0_2
       refine td_ef hf rfl rfl rfl rfl (e_call hf rfl Try.call143 rfl (spec_l7Ins_ok _ u (.slice (some ⟨b0_2, o0_1, none⟩) u.codes.length c0_1) (hm.now h1) k_ x1_2 v1_3 (hm.now h1_12) _ hx1_7)) ?_
       clear hf a; rintro v1_4 w1_3 a ho1_3 hf
       obtain ⟨rfl, hB⟩ := ho1_3
       replace hm := hm.below' hB; clear hB
       refine ⟨fun h => absurd h (by decide), ?_⟩
       refine td_p hf rfl rfl rfl rfl (fun w => y_not rfl rfl) ?_
       clear hf a; intro a hf
       clear hS; refine td_end ?_
       refine x_then_n ?_
       rcases bcases (!(r1_3)) with h1_13 | h1_13
       ·
        replace hb0_2 := (ite_t h1_13).symm.trans hb0_2
        have h1_14 := bnot_t' h1_13
        refine cond_t hf rfl h1_13 ?_
        refine wp_seq ?_
        refine wp_region_lit ?_
        refine st_y hf rfl rfl rfl (y_assign rfl rfl) ?_
        clear hf a; intro a hf
        refine st_end ?_
        refine x_then_n ?_
        refine wp_ret ?_
        refine x_blk_ret ?_
        refine x_then_ret ?_
        refine x_then_ret ?_
        refine x_blk_ret ?_
        refine x_then_ret ?_
        obtain rfl := Option.some.inj hb0_2
        obtain rfl := ho0_2 _ rfl
        replace hq := sum_r hq
        obtain rfl := Option.some.inj hq
        refine ret_tmp hf Try.results112 rfl ?_
        exact ⟨rfl, hm.below⟩
       ·
        replace hb0_2 := (ite_f h1_13).symm.trans hb0_2
        have h1_15 := bnot_f' h1_13
        refine cond_f hf rfl h1_13 ?_
        refine wp_skip ?_
        refine x_blk_n ?_
        refine x_then_n ?_
        refine wp_region_lit ?_
        refine st_y hf rfl rfl rfl (y_move rfl rfl) ?_
        clear hf a; intro a hf
        refine st_y hf rfl rfl rfl (y_add64 rfl rfl rfl (by omega) (by omega)) ?_
        clear hf a; intro a hf
        refine st_y hf rfl rfl rfl (y_assign rfl rfl) ?_
        clear hf a; intro a hf
        refine st_end ?_
        refine x_then_n ?_
        obtain rfl := Option.some.inj hb0_2
        exact ⟨_, rfl, hf.sub ⟨rfl, rfl, rfl, rfl, rfl, rfl, trivial⟩, hm.pick [0, 1, 2] (by decide) rfl⟩
      ·
       clear hf hm
       rintro i0_2 xs0_2 a w ⟨hf, hm⟩ hi0_3 hi0_4 rfl
       replace hq := sum_l hq
       refine wp_seq ?_
       refine wp_seq ?_
       refine wp_region_lit ?_
       refine st_y hf rfl rfl rfl (y_move rfl rfl) ?_
       clear hf a; intro a hf
       refine st_y hf rfl rfl rfl (y_fieldAddr fo_61_1 rfl rfl) ?_
       clear hf a; intro a hf
       refine st_y hf rfl rfl rfl (y_load1 Try.isAgg58 rfl rfl (hm.blk_cell 2 rfl rfl)) ?_
       clear hf a; intro a hf
       obtain ⟨p0_2, c0_5, he, hl0_4⟩ := ro_slice h0_5
       subst he
       refine st_y hf rfl rfl rfl (y_len_slice st_58.und rfl rfl) ?_
       clear hf a; intro a hf
       refine st_y hf rfl rfl rfl (y_lss rfl rfl rfl) ?_
       clear hf a; intro a hf
       refine st_end ?_
       refine x_then_n ?_
       refine cond_f hf rfl (decide_eq_false (by omega)) ?_
       refine wp_exit ?_
       refine x_then_exit ?_
       refine x_then_exit ?_
       refine x_blk_hit ?_
       refine x_then_n ?_
       refine wp_seq ?_
       refine wp_region_lit ?_
       refine st_y hf rfl rfl rfl (y_loadN (cs := [(.int .i64 (x0_1.params)), (.int .i64 (x0_1.regs)), (.slice (some ⟨b0_4, o0_2, none⟩) x0_1.blocks.length c0_2)]) Try.isAgg55 Try.sizeOf55 rfl rfl (hm.blk_at 1 rfl)) ?_
       clear hf a; intro a hf
       refine st_y hf rfl rfl rfl (y_move rfl rfl) ?_
       clear hf a; intro a hf
       obtain ⟨r0_3, hx0_5, hq⟩ := bnd hq
       refine st_ef hf rfl rfl rfl (e_call hf rfl Try.call78 rfl (spec_l7Preds_ok _ x0_1 (.slice (some ⟨b0_4, o0_2, none⟩) x0_1.blocks.length c0_2) (hm.now h0_2) b_ _ hx0_5)) ?_
       clear hf a; rintro v0_5 w0_6 a ho0_3 hf
       obtain ⟨_, rfl, hB⟩ := ho0_3
       replace hm := hm.give hB; clear hB
       refine st_y hf rfl rfl rfl (y_assign rfl rfl) ?_
       clear hf a; intro a hf
       refine st_end ?_
       refine x_then_n ?_
       refine wp_seq ?_
       refine wp_seq ?_
       refine wp_region_lit ?_
       refine st_y hf rfl rfl rfl (y_assign rfl rfl) ?_
       clear hf a; intro a hf
       refine st_end ?_
       refine x_then_n ?_
       obtain ⟨p0_3, c0_6, he, hl0_5⟩ := ro_slice (hm.ow_rep 0 rfl)
       subst he
       refine wp_block ?_
       obtain ⟨r0_4, hl0_6, hq⟩ := bnd hq
       refine wp_forN _ (fun i1_3 xs1_3 a w => Fr 136 [(2, (.int .i64 (b_))), (7, (.pointer (some ⟨b0_3, 0, none⟩))), (8, (.pointer (some ⟨b0_5, 0, none⟩))), (12, (.slice p0_3 r0_3.length c0_6)), (13, (.int .i64 (i1_3)))] a ∧ Mem w0 (hp w0) w [blk b0_3 [(.int .i64 (x0_1.params)), (.int .i64 (x0_1.regs)), (.slice (some ⟨b0_4, o0_2, none⟩) x0_1.blocks.length c0_2)] 55, blk b0_5 [v0_2, (.slice p0_2 x0_2.ins.length c0_5), (.int .i64 (x0_2.jump)), (.int .i64 (x0_2.on)), (.slice p0_1 x0_2.next_.length c0_4)] 61, ow [(.slice p0_3 r0_3.length c0_6)] r0_3]) (0) ((x0_2.phis.length : Int)) hl0_6 ?_ ?_ ?_
       ·
        exact ⟨hf.sub ⟨rfl, rfl, rfl, rfl, rfl, trivial⟩, hm.pick [2, 3, 0] (by decide) rfl⟩
       ·
        clear hf hm
        rintro i1_3 xs1_3 a w ⟨hf, hm⟩ hi1_5 hi1_6 q0_3 hb0_3 ho0_4
        refine wp_seq ?_
        refine wp_seq ?_
        refine wp_region_lit ?_
        refine st_y hf rfl rfl rfl (y_move rfl rfl) ?_
        clear hf a; intro a hf
        refine st_y hf rfl rfl rfl (y_fieldAddr fo_61_0 rfl rfl) ?_
        clear hf a; intro a hf
        refine st_y hf rfl rfl rfl (y_load1 Try.isAgg59 rfl rfl (hm.blk_cell 1 rfl rfl)) ?_
        clear hf a; intro a hf
        obtain ⟨p1_4, c1_7, he, hl1_5⟩ := ro_slice h0_4
        subst he
        refine st_y hf rfl rfl rfl (y_len_slice st_59.und rfl rfl) ?_
        clear hf a; intro a hf
        refine st_y hf rfl rfl rfl (y_lss rfl rfl rfl) ?_
        clear hf a; intro a hf
        refine st_end ?_
        refine x_then_n ?_
        refine cond_t hf rfl (decide_eq_true (by omega)) ?_
        refine wp_skip ?_
        refine x_then_n ?_
        refine wp_seq ?_
        refine wp_block ?_
        refine wp_seq ?_
        obtain ⟨s1_2, hq1_2, hb0_3⟩ := bnd hb0_3
        refine code_cut (K := fun a w => Fr 136 [(2, (.int .i64 (b_))), (7, (.pointer (some ⟨b0_3, 0, none⟩))), (8, (.pointer (some ⟨b0_5, 0, none⟩))), (12, (.slice p0_3 r0_3.length c0_6)), (13, (.int .i64 (i1_3))), (135, (.bool (s1_2)))] a ∧ Mem w0 (hp w0) w [blk b0_3 [(.int .i64 (x0_1.params)), (.int .i64 (x0_1.regs)), (.slice (some ⟨b0_4, o0_2, none⟩) x0_1.blocks.length c0_2)] 55, blk b0_5 [(.slice p1_4 x0_2.phis.length c1_7), (.slice p0_2 x0_2.ins.length c0_5), (.int .i64 (x0_2.jump)), (.int .i64 (x0_2.on)), (.slice p0_1 x0_2.next_.length c0_4)] 61, ow [(.slice p0_3 r0_3.length c0_6)] r0_3]) ?_ ?_
        ·
         refine wp_tree (.p 0 (.p 1 (.p 2 (.p 3 (.p 5 (.p 10 (.p 11 (.e 4 (.p 6 (.p 7 (.e 8 (.p 9 (.p 12 (.p 13 (.p 14 (.p 16 (.p 18 (.q 15 (.e 17 (.p 19 (.p 20 (.e 21 (.e 22 (.p 23 (.p 24 (.p 25 (.p 26 (.p 28 (.p 32 (.q 27 (.p 29 (.p 30 (.q 31 (.e 33 (.p 34 (.e 35 (.p 36 (.p 37 .fin)) .nil)) .nil))))))))))) .nil) .nil))) .nil)))))))) .nil))) .nil)))))))) [17, 21, 33] [0, 1, 2, 3, 5, 6, 7, 9, 10, 11, 12, 13, 14, 16, 18, 19, 20, 23, 24, 25, 26, 28, 29, 30, 32, 34, 36, 37] (fun w => Mem w0 (hp w0) w [blk b0_3 [(.int .i64 (x0_1.params)), (.int .i64 (x0_1.regs)), (.slice (some ⟨b0_4, o0_2, none⟩) x0_1.blocks.length c0_2)] 55, blk b0_5 [(.slice p1_4 x0_2.phis.length c1_7), (.slice p0_2 x0_2.ins.length c0_5), (.int .i64 (x0_2.jump)), (.int .i64 (x0_2.on)), (.slice p0_1 x0_2.next_.length c0_4)] 61, ow [(.slice p0_3 r0_3.length c0_6)] r0_3]) (by kernel_rfl) (by kernel_rfl) (fun _ _ _ h => h.2) ?_
         replace hm := hm.drew
         have hS : Mem w0 (hp w0) _ [blk b0_3 [(.int .i64 (x0_1.params)), (.int .i64 (x0_1.regs)), (.slice (some ⟨b0_4, o0_2, none⟩) x0_1.blocks.length c0_2)] 55, blk b0_5 [(.slice p1_4 x0_2.phis.length c1_7), (.slice p0_2 x0_2.ins.length c0_5), (.int .i64 (x0_2.jump)), (.int .i64 (x0_2.on)), (.slice p0_1 x0_2.next_.length c0_4)] 61, ow [(.slice p0_3 r0_3.length c0_6)] r0_3] := hm.pick [0, 1, 2] (by decide) rfl
         refine td_p hf rfl rfl rfl rfl (fun w => y_move rfl rfl) ?_
         clear hf a; intro a hf
         refine td_p hf rfl rfl rfl rfl (fun w => y_eql rfl rfl rfl) ?_
         clear hf a; intro a hf
         refine td_p hf rfl rfl rfl rfl (fun w => y_move rfl rfl) ?_
         clear hf a; intro a hf
         rcases bcases (decide (b_ = 0)) with h2_7 | h2_7
         ·
          replace hq1_2 := (ite_t h2_7).symm.trans hq1_2
          have h2_8 := of_decide_eq_true h2_7
          refine td_pno hf rfl rfl rfl (lk_b rfl h2_7) rfl rfl rfl ?_
          clear hf a; intro a hf
          refine td_pno hf rfl rfl rfl (lk_b rfl h2_7) rfl rfl rfl ?_
          clear hf a; intro a hf
          refine td_pno hf rfl rfl rfl (lk_b rfl h2_7) rfl rfl rfl ?_
          clear hf a; intro a hf
          refine td_pno hf rfl rfl rfl (lk_b rfl h2_7) rfl rfl rfl ?_
          clear hf a; intro a hf
          refine te_one ?_
          refine td_no' hf rfl rfl rfl (lk_b rfl h2_7) rfl rfl rfl ?_
          clear hf a; intro a hf
          refine ⟨fun h => absurd h (by decide), ?_⟩
          refine td_pno hf rfl rfl rfl (lk_b rfl h2_7) rfl rfl rfl ?_
          clear hf a; intro a hf
          refine td_pno hf rfl rfl rfl (lk_b rfl h2_7) rfl rfl rfl ?_
          clear hf a; intro a hf
          refine te_one ?_
          refine td_no' hf rfl rfl rfl (lk_b rfl h2_7) rfl rfl rfl ?_
          clear hf a; intro a hf
          refine ⟨fun h => absurd h (by decide), ?_⟩
          refine td_pno hf rfl rfl rfl (lk_b rfl h2_7) rfl rfl rfl ?_
          clear hf a; intro a hf
          refine td_pno hf rfl rfl rfl (lk_b rfl h2_7) rfl rfl rfl ?_
          clear hf a; intro a hf
          refine td_p hf rfl rfl rfl rfl (fun w => y_pick_t rfl (ev_b rfl h2_7) rfl) ?_
          clear hf a; intro a hf
          refine td_p hf rfl rfl rfl rfl (fun w => y_move rfl rfl) ?_
          clear hf a; intro a hf
          refine td_pno hf rfl rfl rfl (lk_b rfl rfl) rfl rfl rfl ?_
          clear hf a; intro a hf
          refine td_pno hf rfl rfl rfl (lk_b rfl rfl) rfl rfl rfl ?_
          clear hf a; intro a hf
          refine td_no hf rfl rfl rfl (lk_b rfl rfl) rfl rfl rfl hS ?_
          clear hf a; intro a hf
          refine te_one ?_
          refine td_no' hf rfl rfl rfl (lk_b rfl rfl) rfl rfl rfl ?_
          clear hf a; intro a hf
          refine ⟨fun _ => hS, ?_⟩
          refine td_pno hf rfl rfl rfl (lk_b rfl rfl) rfl rfl rfl ?_
          clear hf a; intro a hf
          refine td_pno hf rfl rfl rfl (lk_b rfl rfl) rfl rfl rfl ?_
          clear hf a; intro a hf
          refine te_one ?_
          refine td_no' hf rfl rfl rfl (lk_b rfl rfl) rfl rfl rfl ?_
          clear hf a; intro a hf
          refine ⟨fun _ => hS, ?_⟩
          refine te_one ?_
          refine td_no' hf rfl rfl rfl (lk_b rfl rfl) rfl rfl rfl ?_
          clear hf a; intro a hf
          refine ⟨fun h => absurd h (by decide), ?_⟩
          refine td_pno hf rfl rfl rfl (lk_b rfl rfl) rfl rfl rfl ?_
          clear hf a; intro a hf
          refine td_p hf rfl rfl rfl rfl (fun w => y_pick_t rfl (ev_b rfl rfl) rfl) ?_
          clear hf a; intro a hf
          refine td_p hf rfl rfl rfl rfl (fun w => y_move rfl rfl) ?_
          clear hf a; intro a hf
          refine td_pno hf rfl rfl rfl (lk_b rfl rfl) rfl rfl rfl ?_
          clear hf a; intro a hf
          refine td_pno hf rfl rfl rfl (lk_b rfl rfl) rfl rfl rfl ?_
          clear hf a; intro a hf
          refine td_pno hf rfl rfl rfl (lk_b rfl rfl) rfl rfl rfl ?_
          clear hf a; intro a hf
          refine td_no hf rfl rfl rfl (lk_b rfl rfl) rfl rfl rfl hS ?_
          clear hf a; intro a hf
          refine td_pno hf rfl rfl rfl (lk_b rfl rfl) rfl rfl rfl ?_
          clear hf a; intro a hf
          refine td_pno hf rfl rfl rfl (lk_b rfl rfl) rfl rfl rfl ?_
          clear hf a; intro a hf
          refine td_no hf rfl rfl rfl (lk_b rfl rfl) rfl rfl rfl hS ?_
          clear hf a; intro a hf
          refine te_one ?_
          refine td_no' hf rfl rfl rfl (lk_b rfl rfl) rfl rfl rfl ?_
          clear hf a; intro a hf
          refine ⟨fun _ => hS, ?_⟩
          refine td_pno hf rfl rfl rfl (lk_b rfl rfl) rfl rfl rfl ?_
          clear hf a; intro a hf
          refine te_one ?_
          refine td_no' hf rfl rfl rfl (lk_b rfl rfl) rfl rfl rfl ?_
          clear hf a; intro a hf
          refine ⟨fun h => absurd h (by decide), ?_⟩
          refine td_pno hf rfl rfl rfl (lk_b rfl rfl) rfl rfl rfl ?_
          clear hf a; intro a hf
          refine td_p hf rfl rfl rfl rfl (fun w => y_pick_t rfl (ev_b rfl rfl) rfl) ?_
          clear hf a; intro a hf
          clear hS; refine td_end ?_
          refine x_then_n ?_
          obtain rfl := Option.some.inj hq1_2
          exact ⟨hf.sub ⟨rfl, rfl, rfl, rfl, rfl, rfl, trivial⟩, hm.pick [0, 1, 2] (by decide) rfl⟩
         ·
          replace hq1_2 := (ite_f h2_7).symm.trans hq1_2
          have h2_9 := of_decide_eq_false h2_7
          refine td_pg hf rfl rfl rfl (lk_b rfl h2_7) rfl rfl (fun w => y_fieldAddr fo_61_0 rfl rfl) ?_
          clear hf a; intro a hf
          refine td_pg hf rfl rfl rfl (lk_b rfl h2_7) rfl rfl (fun w => y_move rfl rfl) ?_
          clear hf a; intro a hf
          refine td_pg hf rfl rfl rfl (lk_b rfl h2_7) rfl rfl (fun w => y_move rfl rfl) ?_
          clear hf a; intro a hf
          refine td_pg hf rfl rfl rfl (lk_b rfl h2_7) rfl rfl (fun w => y_len_slice st_26.und rfl rfl) ?_
          clear hf a; intro a hf
          refine te_one ?_
          refine td_efg hf rfl rfl rfl (lk_b rfl h2_7) rfl rfl (ef_y hf (y_load1 Try.isAgg59 rfl rfl (hm.blk_cell 1 rfl rfl))) ?_
          clear hf a; rintro _ _ a ⟨rfl, rfl⟩ hf
          refine ⟨fun h => absurd h (by decide), ?_⟩
          obtain ⟨x2_1, hx2_1, hq1_2⟩ := bnd hq1_2
          obtain ⟨h2_10, hx2_2⟩ := getI_some.1 hx2_1
          obtain ⟨b2_1, o2_1, c2_2, he⟩ := idx_form' h0_4 hx2_2
          simp only [Value.slice.injEq, Option.some.injEq] at he; obtain ⟨rfl, _, rfl⟩ := he
          obtain ⟨_, _, hc2_1, hr2_1⟩ := ro_get' h0_4 hx2_2
          obtain ⟨_, _, rfl, rfl, h2_11⟩ := hr2_1
          obtain ⟨v2_1, rfl, -⟩ := id h2_11
          replace h2_11 : GT.rep (hp w0) [v2_1] x2_1.args := h2_11
          replace hc2_1 : CellsAt (hp w0) b2_1 (o2_1 + (i1_3).toNat * 2) [(.int .i64 (x2_1.to)), v2_1] := hc2_1
          refine td_pg hf rfl rfl rfl (lk_b rfl h2_7) rfl rfl (fun w => y_indexAddr st_59 rfl rfl rfl h2_10 (idx_lt hx2_2)) ?_
          clear hf a; intro a hf
          refine td_pg hf rfl rfl rfl (lk_b rfl h2_7) rfl rfl (fun w => y_fieldAddr fo_127_1 rfl rfl) ?_
          clear hf a; intro a hf
          refine te_one ?_
          refine td_efg hf rfl rfl rfl (lk_b rfl h2_7) rfl rfl (ef_y hf (y_load1 Try.isAgg26 rfl rfl ((hc2_1.mono hm.lez).cell (j := 1) rfl))) ?_
          clear hf a; rintro _ _ a ⟨rfl, rfl⟩ hf
          refine ⟨fun h => absurd h (by decide), ?_⟩
          obtain ⟨p2_1, c2_3, he, hl2_1⟩ := ro_slice h2_11
          subst he
          refine td_pg hf rfl rfl rfl (lk_b rfl h2_7) rfl rfl (fun w => y_len_slice st_26.und rfl rfl) ?_
          clear hf a; intro a hf
          refine td_pg hf rfl rfl rfl (lk_b rfl h2_7) rfl rfl (fun w => y_neq rfl rfl rfl) ?_
          clear hf a; intro a hf
          refine td_p hf rfl rfl rfl rfl (fun w => y_pick_f rfl (ev_b rfl h2_7) rfl) ?_
          clear hf a; intro a hf
          refine td_p hf rfl rfl rfl rfl (fun w => y_move rfl rfl) ?_
          clear hf a; intro a hf
          rcases bcases (decide (((x2_1.args.length : Int)) ≠ ((r0_3.length : Int)))) with h2_12 | h2_12
          ·
           replace hq1_2 := (ite_t h2_12).symm.trans hq1_2
           have h2_13 := of_decide_eq_true h2_12
           refine td_pno hf rfl rfl rfl (lk_b rfl h2_12) rfl rfl rfl ?_
           clear hf a; intro a hf
           refine td_pno hf rfl rfl rfl (lk_b rfl h2_12) rfl rfl rfl ?_
           clear hf a; intro a hf
           refine td_no hf rfl rfl rfl (lk_b rfl h2_12) rfl rfl rfl hS ?_
           clear hf a; intro a hf
           refine te_one ?_
           refine td_no' hf rfl rfl rfl (lk_b rfl h2_12) rfl rfl rfl ?_
           clear hf a; intro a hf
           refine ⟨fun _ => hS, ?_⟩
           refine td_pno hf rfl rfl rfl (lk_b rfl h2_12) rfl rfl rfl ?_
           clear hf a; intro a hf
           refine td_pno hf rfl rfl rfl (lk_b rfl h2_12) rfl rfl rfl ?_
           clear hf a; intro a hf
           refine te_one ?_
           refine td_no' hf rfl rfl rfl (lk_b rfl h2_12) rfl rfl rfl ?_
           clear hf a; intro a hf
           refine ⟨fun _ => hS, ?_⟩
           refine te_one ?_
           refine td_no' hf rfl rfl rfl (lk_b rfl h2_12) rfl rfl rfl ?_
           clear hf a; intro a hf
           refine ⟨fun h => absurd h (by decide), ?_⟩
           refine td_pno hf rfl rfl rfl (lk_b rfl h2_12) rfl rfl rfl ?_
           clear hf a; intro a hf
           refine td_p hf rfl rfl rfl rfl (fun w => y_pick_t rfl (ev_b rfl h2_12) rfl) ?_
           clear hf a; intro a hf
           refine td_p hf rfl rfl rfl rfl (fun w => y_move rfl rfl) ?_
           clear hf a; intro a hf
           refine td_pno hf rfl rfl rfl (lk_b rfl rfl) rfl rfl rfl ?_
           clear hf a; intro a hf
           refine td_pno hf rfl rfl rfl (lk_b rfl rfl) rfl rfl rfl ?_
           clear hf a; intro a hf
           refine td_pno hf rfl rfl rfl (lk_b rfl rfl) rfl rfl rfl ?_
           clear hf a; intro a hf
           refine td_no hf rfl rfl rfl (lk_b rfl rfl) rfl rfl rfl hS ?_
           clear hf a; intro a hf
           refine td_pno hf rfl rfl rfl (lk_b rfl rfl) rfl rfl rfl ?_
           clear hf a; intro a hf
           refine td_pno hf rfl rfl rfl (lk_b rfl rfl) rfl rfl rfl ?_
           clear hf a; intro a hf
           refine td_no hf rfl rfl rfl (lk_b rfl rfl) rfl rfl rfl hS ?_
           clear hf a; intro a hf
           refine te_one ?_
           refine td_no' hf rfl rfl rfl (lk_b rfl rfl) rfl rfl rfl ?_
           clear hf a; intro a hf
           refine ⟨fun _ => hS, ?_⟩
           refine td_pno hf rfl rfl rfl (lk_b rfl rfl) rfl rfl rfl ?_
           clear hf a; intro a hf
           refine te_one ?_
           refine td_no' hf rfl rfl rfl (lk_b rfl rfl) rfl rfl rfl ?_
           clear hf a; intro a hf
           refine ⟨fun h => absurd h (by decide), ?_⟩
           refine td_pno hf rfl rfl rfl (lk_b rfl rfl) rfl rfl rfl ?_
           clear hf a; intro a hf
           refine td_p hf rfl rfl rfl rfl (fun w => y_pick_t rfl (ev_b rfl rfl) rfl) ?_
           clear hf a; intro a hf
           clear hS; refine td_end ?_
           refine x_then_n ?_
           obtain rfl := Option.some.inj hq1_2
           exact ⟨hf.sub ⟨rfl, rfl, rfl, rfl, rfl, rfl, trivial⟩, hm.pick [0, 1, 2] (by decide) rfl⟩
          ·
           replace hq1_2 := (ite_f h2_12).symm.trans hq1_2
           have h2_14 := of_decide_eq_false h2_12
           refine td_pg hf rfl rfl rfl (lk_b rfl h2_12) rfl rfl (fun w => y_fieldAddr fo_61_0 rfl rfl) ?_
           clear hf a; intro a hf
           refine td_pg hf rfl rfl rfl (lk_b rfl h2_12) rfl rfl (fun w => y_move rfl rfl) ?_
           clear hf a; intro a hf
           refine td_yg hf rfl rfl rfl (lk_b rfl h2_12) rfl rfl hS (fun w hm => y_loadN (cs := [(.int .i64 (x0_1.params)), (.int .i64 (x0_1.regs)), (.slice (some ⟨b0_4, o0_2, none⟩) x0_1.blocks.length c0_2)]) Try.isAgg55 Try.sizeOf55 rfl rfl (hm.blk_at 0 rfl)) ?_
           clear hf a; intro a hf
           refine te_one ?_
           refine td_efg hf rfl rfl rfl (lk_b rfl h2_12) rfl rfl (ef_y hf (y_load1 Try.isAgg59 rfl rfl (hm.blk_cell 1 rfl rfl))) ?_
           clear hf a; rintro _ _ a ⟨rfl, rfl⟩ hf
           refine ⟨fun _ => hS, ?_⟩
           refine td_pg hf rfl rfl rfl (lk_b rfl h2_12) rfl rfl (fun w => y_indexAddr st_59 rfl rfl rfl h2_10 (idx_lt hx2_2)) ?_
           clear hf a; intro a hf
           refine td_pg hf rfl rfl rfl (lk_b rfl h2_12) rfl rfl (fun w => y_fieldAddr fo_127_1 rfl rfl) ?_
           clear hf a; intro a hf
           refine te_one ?_
           refine td_efg hf rfl rfl rfl (lk_b rfl h2_12) rfl rfl (ef_y hf (y_load1 Try.isAgg26 rfl rfl ((hc2_1.mono hm.lez).cell (j := 1) rfl))) ?_
           clear hf a; rintro _ _ a ⟨rfl, rfl⟩ hf
           refine ⟨fun _ => hS, ?_⟩
           refine te_one ?_
           obtain ⟨r2_1, hx2_3, hq1_2⟩ := bnd hq1_2
           refine td_efg hf rfl rfl rfl (lk_b rfl h2_12) rfl rfl (e_call hf rfl Try.call144 rfl (spec_l7Regs_ok _ x0_1 (.slice (some ⟨b0_4, o0_2, none⟩) x0_1.blocks.length c0_2) (hm.now h0_2) x2_1.args (.slice p2_1 x2_1.args.length c2_3) (hm.now h2_11) _ hx2_3)) ?_
           clear hf a; rintro v2_2 w2_1 a ho2_1 hf
           obtain ⟨rfl, hB⟩ := ho2_1
           replace hm := hm.below' hB; clear hB
           clear hS
           have hS : Mem w0 (hp w0) _ [blk b0_3 [(.int .i64 (x0_1.params)), (.int .i64 (x0_1.regs)), (.slice (some ⟨b0_4, o0_2, none⟩) x0_1.blocks.length c0_2)] 55, blk b0_5 [(.slice (some ⟨b2_1, o2_1, none⟩) x0_2.phis.length c1_7), (.slice p0_2 x0_2.ins.length c0_5), (.int .i64 (x0_2.jump)), (.int .i64 (x0_2.on)), (.slice p0_1 x0_2.next_.length c0_4)] 61, ow [(.slice p0_3 r0_3.length c0_6)] r0_3] := hm.pick [0, 1, 2] (by decide) rfl
           refine ⟨fun h => absurd h (by decide), ?_⟩
           refine td_pg hf rfl rfl rfl (lk_b rfl h2_12) rfl rfl (fun w => y_not rfl rfl) ?_
           clear hf a; intro a hf
           refine td_p hf rfl rfl rfl rfl (fun w => y_pick_f rfl (ev_b rfl h2_12) rfl) ?_
           clear hf a; intro a hf
           refine td_p hf rfl rfl rfl rfl (fun w => y_move rfl rfl) ?_
           clear hf a; intro a hf
           rcases bcases (!(r2_1)) with h2_15 | h2_15
           ·
            replace hq1_2 := (ite_t h2_15).symm.trans hq1_2
            have h2_16 := bnot_t' h2_15
            refine td_pno hf rfl rfl rfl (lk_b rfl h2_15) rfl rfl rfl ?_
            clear hf a; intro a hf
            refine td_pno hf rfl rfl rfl (lk_b rfl h2_15) rfl rfl rfl ?_
            clear hf a; intro a hf
            refine td_pno hf rfl rfl rfl (lk_b rfl h2_15) rfl rfl rfl ?_
            clear hf a; intro a hf
            refine td_no hf rfl rfl rfl (lk_b rfl h2_15) rfl rfl rfl hS ?_
            clear hf a; intro a hf
            refine td_pno hf rfl rfl rfl (lk_b rfl h2_15) rfl rfl rfl ?_
            clear hf a; intro a hf
            refine td_pno hf rfl rfl rfl (lk_b rfl h2_15) rfl rfl rfl ?_
            clear hf a; intro a hf
            refine td_no hf rfl rfl rfl (lk_b rfl h2_15) rfl rfl rfl hS ?_
            clear hf a; intro a hf
            refine te_one ?_
            refine td_no' hf rfl rfl rfl (lk_b rfl h2_15) rfl rfl rfl ?_
            clear hf a; intro a hf
            refine ⟨fun _ => hS, ?_⟩
            refine td_pno hf rfl rfl rfl (lk_b rfl h2_15) rfl rfl rfl ?_
            clear hf a; intro a hf
            refine te_one ?_
            refine td_no' hf rfl rfl rfl (lk_b rfl h2_15) rfl rfl rfl ?_
            clear hf a; intro a hf
            refine ⟨fun h => absurd h (by decide), ?_⟩
            refine td_pno hf rfl rfl rfl (lk_b rfl h2_15) rfl rfl rfl ?_
            clear hf a; intro a hf
            refine td_p hf rfl rfl rfl rfl (fun w => y_pick_t rfl (ev_b rfl h2_15) rfl) ?_
            clear hf a; intro a hf
            clear hS; refine td_end ?_
            refine x_then_n ?_
            obtain rfl := Option.some.inj hq1_2
            exact ⟨hf.sub ⟨rfl, rfl, rfl, rfl, rfl, rfl, trivial⟩, hm.pick [0, 1, 2] (by decide) rfl⟩
           ·
            replace hq1_2 := (ite_f h2_15).symm.trans hq1_2
            have h2_17 := bnot_f' h2_15
            refine td_pg hf rfl rfl rfl (lk_b rfl h2_15) rfl rfl (fun w => y_fieldAddr fo_61_0 rfl rfl) ?_
            clear hf a; intro a hf
            refine td_pg hf rfl rfl rfl (lk_b rfl h2_15) rfl rfl (fun w => y_move rfl rfl) ?_
            clear hf a; intro a hf
            refine td_pg hf rfl rfl rfl (lk_b rfl h2_15) rfl rfl (fun w => y_fieldAddr fo_55_1 rfl rfl) ?_
            clear hf a; intro a hf
            refine td_yg hf rfl rfl rfl (lk_b rfl h2_15) rfl rfl hS (fun w hm => y_load1 Try.isAgg59 rfl rfl (hm.blk_cell 1 rfl rfl)) ?_
            clear hf a; intro a hf
            refine td_pg hf rfl rfl rfl (lk_b rfl h2_15) rfl rfl (fun w => y_indexAddr st_59 rfl rfl rfl h2_10 (idx_lt hx2_2)) ?_
            clear hf a; intro a hf
            refine td_pg hf rfl rfl rfl (lk_b rfl h2_15) rfl rfl (fun w => y_fieldAddr fo_127_0 rfl rfl) ?_
            clear hf a; intro a hf
            refine td_yg hf rfl rfl rfl (lk_b rfl h2_15) rfl rfl hS (fun w hm => y_load1 Try.isAgg3 rfl rfl ((hc2_1.mono hm.lez).cell (j := 0) rfl)) ?_
            clear hf a; intro a hf
            refine te_one ?_
            refine td_efg hf rfl rfl rfl (lk_b rfl h2_15) rfl rfl (ef_y hf (y_load1 Try.isAgg3 rfl rfl (hm.blk_cell 0 rfl rfl))) ?_
            clear hf a; rintro _ _ a ⟨rfl, rfl⟩ hf
            refine ⟨fun _ => hS, ?_⟩
            refine td_pg hf rfl rfl rfl (lk_b rfl h2_15) rfl rfl (fun w => y_subw rfl rfl rfl) ?_
            clear hf a; intro a hf
            refine te_one ?_
            obtain ⟨r2_2, hx2_4, hq1_2⟩ := bnd hq1_2
            refine td_efg hf rfl rfl rfl (lk_b rfl h2_15) rfl rfl (e_call hf rfl Try.call56 rfl (spec_l1In_ok _ x2_1.to 0 (w64 (x0_1.regs - 1)) _ hx2_4)) ?_
            clear hf a; rintro v2_3 w2_2 a ho2_2 hf
            obtain ⟨rfl, hB⟩ := ho2_2
            replace hm := hm.below' hB; clear hB
            refine ⟨fun h => absurd h (by decide), ?_⟩
            refine td_pg hf rfl rfl rfl (lk_b rfl h2_15) rfl rfl (fun w => y_not rfl rfl) ?_
            clear hf a; intro a hf
            refine td_p hf rfl rfl rfl rfl (fun w => y_pick_f rfl (ev_b rfl h2_15) rfl) ?_
            clear hf a; intro a hf
            clear hS; refine td_end ?_
            refine x_then_n ?_
            obtain rfl := Option.some.inj hq1_2
            exact ⟨hf.sub ⟨rfl, rfl, rfl, rfl, rfl, rfl, trivial⟩, hm.pick [0, 1, 2] (by decide) rfl⟩
        ·
         clear hf hm
         rintro a w ⟨hf, hm⟩
         refine x_then_n ?_
         rcases bcases (s1_2) with h1_16 | h1_16
         ·
          replace hb0_3 := (ite_t h1_16).symm.trans hb0_3
          refine cond_t hf rfl h1_16 ?_
          refine wp_seq ?_
          refine wp_region_lit ?_
          refine st_y hf rfl rfl rfl (y_assign rfl rfl) ?_
          clear hf a; intro a hf
          refine st_end ?_
          refine x_then_n ?_
          refine wp_ret ?_
          refine x_blk_ret ?_
          refine x_then_ret ?_
          refine x_then_ret ?_
          refine x_blk_ret ?_
          refine x_then_ret ?_
          obtain rfl := Option.some.inj hb0_3
          obtain rfl := ho0_4 _ rfl
          replace hq := sum_r hq
          obtain rfl := Option.some.inj hq
          refine ret_tmp hf Try.results112 rfl ?_
          exact ⟨rfl, hm.below⟩
         ·
          replace hb0_3 := (ite_f h1_16).symm.trans hb0_3
          refine cond_f hf rfl h1_16 ?_
          refine wp_skip ?_
          refine x_blk_n ?_
          refine x_then_n ?_
          refine wp_region_lit ?_
          refine st_y hf rfl rfl rfl (y_move rfl rfl) ?_
          clear hf a; intro a hf
          refine st_y hf rfl rfl rfl (y_add64 rfl rfl rfl (by omega) (by omega)) ?_
          clear hf a; intro a hf
          refine st_y hf rfl rfl rfl (y_assign rfl rfl) ?_
          clear hf a; intro a hf
          refine st_end ?_
          refine x_then_n ?_
          obtain rfl := Option.some.inj hb0_3
          exact ⟨_, rfl, hf.sub ⟨rfl, rfl, rfl, rfl, rfl, trivial⟩, hm.pick [0, 1, 2] (by decide) rfl⟩
       ·
        clear hf hm
        rintro i0_3 xs0_3 a w ⟨hf, hm⟩ hi0_5 hi0_6 rfl
        replace hq := sum_l hq
        refine wp_seq ?_
        refine wp_seq ?_
        refine wp_region_lit ?_
        refine st_y hf rfl rfl rfl (y_move rfl rfl) ?_
        clear hf a; intro a hf
        refine st_y hf rfl rfl rfl (y_fieldAddr fo_61_0 rfl rfl) ?_
        clear hf a; intro a hf
        refine st_y hf rfl rfl rfl (y_load1 Try.isAgg59 rfl rfl (hm.blk_cell 1 rfl rfl)) ?_
        clear hf a; intro a hf
        obtain ⟨p0_4, c0_7, he, hl0_7⟩ := ro_slice h0_4
        subst he
        refine st_y hf rfl rfl rfl (y_len_slice st_59.und rfl rfl) ?_
        clear hf a; intro a hf
        refine st_y hf rfl rfl rfl (y_lss rfl rfl rfl) ?_
        clear hf a; intro a hf
        refine st_end ?_
        refine x_then_n ?_
        refine cond_f hf rfl (decide_eq_false (by omega)) ?_
        refine wp_exit ?_
        refine x_then_exit ?_
        refine x_then_exit ?_
        refine x_blk_hit ?_
        refine x_then_n ?_
        refine wp_seq ?_
        refine wp_region_lit ?_
        refine st_y hf rfl rfl rfl (y_assign rfl rfl) ?_
        clear hf a; intro a hf
        refine st_end ?_
        refine x_then_n ?_
        refine wp_ret ?_
        obtain rfl := Option.some.inj hq
        refine ret_tmp hf Try.results112 rfl ?_
        exact ⟨rfl, hm.below⟩

end Go.Proofs.Ytjbcoilagfdidaa
