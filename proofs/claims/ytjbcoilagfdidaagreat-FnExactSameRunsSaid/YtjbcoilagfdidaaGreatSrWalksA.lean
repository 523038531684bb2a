/- A part of the proof of FnExactSameRunsSaid. -/
import Derived.Test.YtjbcoilagfdidaaGreatSrModels
import Derived.Test.YtjbcoilagfdidaaGreatChecked
import Derived.Laws.Pointers
import Derived.Tactics
import Derived.Tactics2
namespace Go.Proofs.YtjbcoilagfdidaaGreat
open Go Go.Wk Go.RowKit
set_option maxRecDepth 4000
set_option maxHeartbeats 4000000

theorem fo_24_0 : FieldOff Tryz.prog 24 0 0 := by have h := FieldOff.mk (k := 0) Tryz.underlying24 rfl Tryz.sizeOf22; exact h
theorem fo_30_0 : FieldOff Tryz.prog 30 0 0 := by have h := FieldOff.mk (k := 0) Tryz.underlying30 rfl Tryz.sizeOf28; exact h
theorem fo_41_0 : FieldOff Tryz.prog 41 0 0 := by have h := FieldOff.mk (k := 0) Tryz.underlying41 rfl Tryz.sizeOf25; exact h
theorem fo_41_1 : FieldOff Tryz.prog 41 1 1 := by have h := FieldOff.mk (k := 1) Tryz.underlying41 rfl Tryz.sizeOf3; exact h
theorem fo_41_2 : FieldOff Tryz.prog 41 2 2 := by have h := FieldOff.mk (k := 2) Tryz.underlying41 rfl Tryz.sizeOf3; exact h
theorem fo_41_3 : FieldOff Tryz.prog 41 3 3 := by have h := FieldOff.mk (k := 3) Tryz.underlying41 rfl Tryz.sizeOf25; exact h
theorem fo_52_0 : FieldOff Tryz.prog 52 0 0 := by have h := FieldOff.mk (k := 0) Tryz.underlying52 rfl Tryz.sizeOf30; exact h
theorem fo_52_1 : FieldOff Tryz.prog 52 1 1 := by have h := FieldOff.mk (k := 1) Tryz.underlying52 rfl Tryz.sizeOf41; exact h
theorem fo_52_2 : FieldOff Tryz.prog 52 2 5 := by have h := FieldOff.mk (k := 2) Tryz.underlying52 rfl Tryz.sizeOf3; exact h
theorem fo_52_3 : FieldOff Tryz.prog 52 3 6 := by have h := FieldOff.mk (k := 3) Tryz.underlying52 rfl Tryz.sizeOf4; exact h
theorem fo_52_4 : FieldOff Tryz.prog 52 4 7 := by have h := FieldOff.mk (k := 4) Tryz.underlying52 rfl Tryz.sizeOf25; exact h
theorem fo_61_0 : FieldOff Tryz.prog 61 0 0 := by have h := FieldOff.mk (k := 0) Tryz.underlying61 rfl Tryz.sizeOf30; exact h
theorem fo_61_1 : FieldOff Tryz.prog 61 1 1 := by have h := FieldOff.mk (k := 1) Tryz.underlying61 rfl Tryz.sizeOf3; exact h
theorem fo_61_2 : FieldOff Tryz.prog 61 2 2 := by have h := FieldOff.mk (k := 2) Tryz.underlying61 rfl Tryz.sizeOf3; exact h
theorem fo_61_3 : FieldOff Tryz.prog 61 3 3 := by have h := FieldOff.mk (k := 3) Tryz.underlying61 rfl Tryz.sizeOf25; exact h
theorem fo_61_4 : FieldOff Tryz.prog 61 4 4 := by have h := FieldOff.mk (k := 4) Tryz.underlying61 rfl Tryz.sizeOf59; exact h
theorem fo_61_5 : FieldOff Tryz.prog 61 5 20 := by have h := FieldOff.mk (k := 5) Tryz.underlying61 rfl Tryz.sizeOf25; exact h
theorem fo_66_0 : FieldOff Tryz.prog 66 0 0 := by have h := FieldOff.mk (k := 0) Tryz.underlying66 rfl Tryz.sizeOf3; exact h
theorem fo_66_1 : FieldOff Tryz.prog 66 1 1 := by have h := FieldOff.mk (k := 1) Tryz.underlying66 rfl Tryz.sizeOf3; exact h
theorem fo_66_2 : FieldOff Tryz.prog 66 2 2 := by have h := FieldOff.mk (k := 2) Tryz.underlying66 rfl Tryz.sizeOf64; exact h
theorem fo_69_0 : FieldOff Tryz.prog 69 0 0 := by have h := FieldOff.mk (k := 0) Tryz.underlying69 rfl Tryz.sizeOf3; exact h
theorem fo_69_1 : FieldOff Tryz.prog 69 1 1 := by have h := FieldOff.mk (k := 1) Tryz.underlying69 rfl Tryz.sizeOf3; exact h
theorem fo_69_2 : FieldOff Tryz.prog 69 2 2 := by have h := FieldOff.mk (k := 2) Tryz.underlying69 rfl Tryz.sizeOf67; exact h
theorem fo_86_0 : FieldOff Tryz.prog 86 0 0 := by have h := FieldOff.mk (k := 0) Tryz.underlying86 rfl Tryz.sizeOf83; exact h
theorem fo_86_1 : FieldOff Tryz.prog 86 1 1 := by have h := FieldOff.mk (k := 1) Tryz.underlying86 rfl Tryz.sizeOf84; exact h
theorem fo_86_2 : FieldOff Tryz.prog 86 2 2 := by have h := FieldOff.mk (k := 2) Tryz.underlying86 rfl Tryz.sizeOf3; exact h
theorem fo_86_3 : FieldOff Tryz.prog 86 3 3 := by have h := FieldOff.mk (k := 3) Tryz.underlying86 rfl Tryz.sizeOf3; exact h
theorem fo_86_4 : FieldOff Tryz.prog 86 4 4 := by have h := FieldOff.mk (k := 4) Tryz.underlying86 rfl Tryz.sizeOf25; exact h
theorem fo_91_0 : FieldOff Tryz.prog 91 0 0 := by have h := FieldOff.mk (k := 0) Tryz.underlying91 rfl Tryz.sizeOf3; exact h
theorem fo_91_1 : FieldOff Tryz.prog 91 1 1 := by have h := FieldOff.mk (k := 1) Tryz.underlying91 rfl Tryz.sizeOf3; exact h
theorem fo_91_2 : FieldOff Tryz.prog 91 2 2 := by have h := FieldOff.mk (k := 2) Tryz.underlying91 rfl Tryz.sizeOf25; exact h
theorem fo_91_3 : FieldOff Tryz.prog 91 3 3 := by have h := FieldOff.mk (k := 3) Tryz.underlying91 rfl Tryz.sizeOf3; exact h
theorem fo_102_0 : FieldOff Tryz.prog 102 0 0 := by have h := FieldOff.mk (k := 0) Tryz.underlying102 rfl Tryz.sizeOf3; exact h
theorem fo_102_1 : FieldOff Tryz.prog 102 1 1 := by have h := FieldOff.mk (k := 1) Tryz.underlying102 rfl Tryz.sizeOf25; exact h
theorem fo_110_0 : FieldOff Tryz.prog 110 0 0 := by have h := FieldOff.mk (k := 0) Tryz.underlying110 rfl Tryz.sizeOf107; exact h
theorem fo_110_1 : FieldOff Tryz.prog 110 1 1 := by have h := FieldOff.mk (k := 1) Tryz.underlying110 rfl Tryz.sizeOf108; exact h
theorem fo_110_2 : FieldOff Tryz.prog 110 2 2 := by have h := FieldOff.mk (k := 2) Tryz.underlying110 rfl Tryz.sizeOf3; exact h
theorem fo_110_3 : FieldOff Tryz.prog 110 3 3 := by have h := FieldOff.mk (k := 3) Tryz.underlying110 rfl Tryz.sizeOf3; exact h
theorem fo_110_4 : FieldOff Tryz.prog 110 4 4 := by have h := FieldOff.mk (k := 4) Tryz.underlying110 rfl Tryz.sizeOf25; exact h
theorem fo_135_0 : FieldOff Tryz.prog 135 0 0 := by have h := FieldOff.mk (k := 0) Tryz.underlying135 rfl Tryz.sizeOf3; exact h
theorem fo_135_1 : FieldOff Tryz.prog 135 1 1 := by have h := FieldOff.mk (k := 1) Tryz.underlying135 rfl Tryz.sizeOf25; exact h
theorem fo_137_0 : FieldOff Tryz.prog 137 0 0 := by have h := FieldOff.mk (k := 0) Tryz.underlying137 rfl Tryz.sizeOf3; exact h
theorem fo_137_1 : FieldOff Tryz.prog 137 1 1 := by have h := FieldOff.mk (k := 1) Tryz.underlying137 rfl Tryz.sizeOf3; exact h
theorem fo_137_2 : FieldOff Tryz.prog 137 2 2 := by have h := FieldOff.mk (k := 2) Tryz.underlying137 rfl Tryz.sizeOf25; exact h
theorem fo_137_3 : FieldOff Tryz.prog 137 3 3 := by have h := FieldOff.mk (k := 3) Tryz.underlying137 rfl Tryz.sizeOf3; exact h
theorem st_22 : SliceTy Tryz.prog 22 66 3 := ⟨Tryz.underlying22, Tryz.sizeOf66⟩
theorem st_25 : SliceTy Tryz.prog 25 3 1 := ⟨Tryz.underlying25, Tryz.sizeOf3⟩
theorem st_28 : SliceTy Tryz.prog 28 69 3 := ⟨Tryz.underlying28, Tryz.sizeOf69⟩
theorem st_64 : SliceTy Tryz.prog 64 110 5 := ⟨Tryz.underlying64, Tryz.sizeOf110⟩
theorem st_67 : SliceTy Tryz.prog 67 86 5 := ⟨Tryz.underlying67, Tryz.sizeOf86⟩
theorem st_83 : SliceTy Tryz.prog 83 102 2 := ⟨Tryz.underlying83, Tryz.sizeOf102⟩
theorem st_84 : SliceTy Tryz.prog 84 91 4 := ⟨Tryz.underlying84, Tryz.sizeOf91⟩
theorem st_107 : SliceTy Tryz.prog 107 135 2 := ⟨Tryz.underlying107, Tryz.sizeOf135⟩
theorem st_108 : SliceTy Tryz.prog 108 137 4 := ⟨Tryz.underlying108, Tryz.sizeOf137⟩
theorem et_25 : ElemTy Tryz.prog 25 3 1 (.int .i64 (0)) := ⟨Tryz.underlying25, ⟨_, (by kernel_rfl : Tryz.prog.info? 3 = some Tryz.t3), rfl, by decide, rfl⟩, rfl, by decide⟩
theorem et_28 : ElemTy Tryz.prog 28 69 3 (.agg #[(.int .i64 (0)), (.int .i64 (0)), (.slice none 0 0)]) := ⟨Tryz.underlying28, ⟨_, (by kernel_rfl : Tryz.prog.info? 69 = some Tryz.t69), rfl, by decide, rfl⟩, rfl, by decide⟩
theorem et_67 : ElemTy Tryz.prog 67 86 5 (.agg #[(.slice none 0 0), (.slice none 0 0), (.int .i64 (0)), (.int .i64 (0)), (.slice none 0 0)]) := ⟨Tryz.underlying67, ⟨_, (by kernel_rfl : Tryz.prog.info? 86 = some Tryz.t86), rfl, by decide, rfl⟩, rfl, by decide⟩
theorem et_83 : ElemTy Tryz.prog 83 102 2 (.agg #[(.int .i64 (0)), (.slice none 0 0)]) := ⟨Tryz.underlying83, ⟨_, (by kernel_rfl : Tryz.prog.info? 102 = some Tryz.t102), rfl, by decide, rfl⟩, rfl, by decide⟩
theorem et_84 : ElemTy Tryz.prog 84 91 4 (.agg #[(.int .i64 (0)), (.int .i64 (0)), (.slice none 0 0), (.int .i64 (0))]) := ⟨Tryz.underlying84, ⟨_, (by kernel_rfl : Tryz.prog.info? 91 = some Tryz.t91), rfl, by decide, rfl⟩, rfl, by decide⟩

theorem laws_szIntS_ok (w0 : World) (a_ : List Int) (v1 : Value) (h1 : GT.rep (hp w0) [v1] a_) (left : Int) (r : Int) (hq : laws_szIntS a_ left = some r) :
    Con Tryz.prog 97 [v1, (.int .i64 (left))] w0 (fun v w' => v = (.int .i64 (r)) ∧ Below w0.heap.size w0 w') := by
  unfold laws_szIntS at hq
  refine con_body (l := [(0, v1), (1, (.int .i64 (left)))]) Tryz.func97 rfl Tryz.ntmps97 (Args.get ⟨rfl, rfl, trivial⟩) rfl ?_
  intro a hf
  have hm := Mem.start w0
  refine wp_seq (wp_region_lit (st_y hf rfl rfl rfl (y_assign rfl rfl) fun a hf => st_end (x_then_n (wp_seq (wp_region_lit (st_y hf rfl rfl rfl (y_move rfl rfl) fun a hf => st_y hf rfl rfl rfl (y_move rfl rfl) fun a hf => ?_))))))
  obtain ⟨p0_1, c0_1, he, hl0_1⟩ := ro_slice h1
  subst he
  refine st_y hf rfl rfl rfl (y_len_slice st_25.und rfl rfl) fun a hf => st_y hf rfl rfl rfl (y_subw rfl rfl rfl) fun a hf => st_y hf rfl rfl rfl (y_assign rfl rfl) fun a hf => st_end (x_then_n (wp_seq (wp_seq (wp_region_lit (st_y hf rfl rfl rfl (y_move rfl rfl) fun a hf => ?_)))))
  refine st_y hf rfl rfl rfl (y_lss rfl rfl rfl) fun a hf => st_end (x_then_n ?_)
  rcases bcases (decide ((w64 (left - ((a_.length : Int)))) < 0)) with h0_1 | h0_1
  ·
   replace hq := (ite_t h0_1).symm.trans hq
   have h0_2 := of_decide_eq_true h0_1
   refine cond_t hf rfl h0_1 (wp_seq (wp_region_lit (st_y hf rfl rfl rfl (y_assign rfl rfl) fun a hf => st_end (x_then_n (wp_ret (x_then_ret ?_))))))
   obtain rfl := Option.some.inj hq
   refine ret_tmp hf Tryz.results97 rfl ?_
   exact ⟨rfl, hm.below⟩
  ·
   replace hq := (ite_f h0_1).symm.trans hq
   have h0_3 := of_decide_eq_false h0_1
   refine cond_f hf rfl h0_1 (wp_skip (x_then_n (wp_seq (wp_region_lit (st_y hf rfl rfl rfl (y_move rfl rfl) fun a hf => st_y hf rfl rfl rfl (y_assign rfl rfl) fun a hf => st_end (x_then_n ?_))))))
   refine wp_ret ?_
   obtain rfl := Option.some.inj hq
   refine ret_tmp hf Tryz.results97 rfl ?_
   exact ⟨rfl, hm.below⟩

theorem laws_szPhi_ok (w0 : World) (a_ : Phi_) (v1 : Value) (h1 : GT.rep (hp w0) [v1] a_.args) (left : Int) (r : Int) (hq : laws_szPhi a_ left = some r) :
    Con Tryz.prog 113 [(.agg #[(.int .i64 (a_.to)), v1]), (.int .i64 (left))] w0 (fun v w' => v = (.int .i64 (r)) ∧ Below w0.heap.size w0 w') := by
  unfold laws_szPhi at hq
  refine con_body (l := [(0, (.agg #[(.int .i64 (a_.to)), v1])), (1, (.int .i64 (left)))]) Tryz.func113 rfl Tryz.ntmps113 (Args.get ⟨rfl, rfl, trivial⟩) rfl ?_
  intro a hf
  have hm := Mem.start w0
  refine wp_seq (wp_region_lit (st_ef hf rfl rfl rfl (e_box hf hm rfl rfl rfl) ?_))
  clear hf a; rintro _ w0_1 a ⟨b0_1, rfl, hm⟩ hf
  refine st_y hf rfl rfl rfl (y_assign rfl rfl) fun a hf => st_end (x_then_n (wp_seq (wp_region_lit (st_y hf rfl rfl rfl (y_fieldAddr fo_135_1 rfl rfl) fun a hf => st_y hf rfl rfl rfl (y_load1 Tryz.isAgg25 rfl rfl (hm.blk_cell 0 rfl rfl)) fun a hf => st_y hf rfl rfl rfl (y_move rfl rfl) fun a hf => ?_))))
  obtain ⟨r0_1, hx0_1, hq⟩ := bnd hq
  refine st_ef hf rfl rfl rfl (e_call hf rfl Tryz.call97 rfl (laws_szIntS_ok _ a_.args v1 (hm.now h1) left _ hx0_1)) ?_
  clear hf a; rintro v0_1 w0_2 a ho0_1 hf
  obtain ⟨rfl, hB⟩ := ho0_1
  replace hm := hm.below' hB; clear hB
  refine st_y hf rfl rfl rfl (y_assign rfl rfl) fun a hf => st_end (x_then_n (wp_seq (wp_seq (wp_region_lit (st_y hf rfl rfl rfl (y_move rfl rfl) fun a hf => st_y hf rfl rfl rfl (y_lss rfl rfl rfl) fun a hf => st_end ?_)))))
  refine x_then_n ?_
  rcases bcases (decide (r0_1 < 0)) with h0_1 | h0_1
  ·
   replace hq := (ite_t h0_1).symm.trans hq
   have h0_2 := of_decide_eq_true h0_1
   refine cond_t hf rfl h0_1 (wp_seq (wp_region_lit (st_y hf rfl rfl rfl (y_assign rfl rfl) fun a hf => st_end (x_then_n (wp_ret (x_then_ret ?_))))))
   obtain rfl := Option.some.inj hq
   refine ret_tmp hf Tryz.results113 rfl ?_
   exact ⟨rfl, hm.below⟩
  ·
   replace hq := (ite_f h0_1).symm.trans hq
   have h0_3 := of_decide_eq_false h0_1
   refine cond_f hf rfl h0_1 (wp_skip (x_then_n (wp_seq (wp_region_lit (st_y hf rfl rfl rfl (y_move rfl rfl) fun a hf => st_y hf rfl rfl rfl (y_assign rfl rfl) fun a hf => st_end (x_then_n ?_))))))
   refine wp_ret ?_
   obtain rfl := Option.some.inj hq
   refine ret_tmp hf Tryz.results113 rfl ?_
   exact ⟨rfl, hm.below⟩

theorem laws_szPhiS_ok (w0 : World) (a_ : List Phi_) (v1 : Value) (h1 : GT.rep (hp w0) [v1] a_) (left : Int) (r : Int) (hq : laws_szPhiS a_ left = some r) :
    Con Tryz.prog 95 [v1, (.int .i64 (left))] w0 (fun v w' => v = (.int .i64 (r)) ∧ Below w0.heap.size w0 w') := by
  unfold laws_szPhiS at hq
  refine con_body (l := [(0, v1), (1, (.int .i64 (left)))]) Tryz.func95 rfl Tryz.ntmps95 (Args.get ⟨rfl, rfl, trivial⟩) rfl ?_
  intro a hf
  have hm := Mem.start w0
  refine wp_seq (wp_region_lit (st_y hf rfl rfl rfl (y_assign rfl rfl) fun a hf => st_end (x_then_n (wp_seq (wp_region_lit (st_y hf rfl rfl rfl (y_move rfl rfl) fun a hf => st_y hf rfl rfl rfl (y_move rfl rfl) fun a hf => ?_))))))
  obtain ⟨p0_1, c0_1, he, hl0_1⟩ := ro_slice h1
  subst he
  refine st_y hf rfl rfl rfl (y_len_slice st_107.und rfl rfl) fun a hf => st_y hf rfl rfl rfl (y_subw rfl rfl rfl) fun a hf => st_y hf rfl rfl rfl (y_assign rfl rfl) fun a hf => st_end (x_then_n (wp_seq (wp_seq (wp_region_lit (st_y hf rfl rfl rfl (y_move rfl rfl) fun a hf => ?_)))))
  refine st_y hf rfl rfl rfl (y_lss rfl rfl rfl) fun a hf => st_end (x_then_n ?_)
  rcases bcases (decide ((w64 (left - ((a_.length : Int)))) < 0)) with h0_1 | h0_1
  ·
   replace hq := (ite_t h0_1).symm.trans hq
   have h0_2 := of_decide_eq_true h0_1
   refine cond_t hf rfl h0_1 (wp_seq (wp_region_lit (st_y hf rfl rfl rfl (y_assign rfl rfl) fun a hf => st_end (x_then_n (wp_ret (x_then_ret ?_))))))
   obtain rfl := Option.some.inj hq
   refine ret_tmp hf Tryz.results95 rfl ?_
   exact ⟨rfl, hm.below⟩
  ·
   replace hq := (ite_f h0_1).symm.trans hq
   have h0_3 := of_decide_eq_false h0_1
   refine cond_f hf rfl h0_1 (wp_skip (x_then_n (wp_seq (wp_seq (wp_region_lit (st_y hf rfl rfl rfl (y_assign rfl rfl) fun a hf => st_end (x_then_n ?_)))))))
   refine wp_block ?_
   obtain ⟨r0_1, hl0_2, hq⟩ := bnd hq
   refine wp_forN _ (fun i1_1 xs1_1 a w => 0 ≤ xs1_1 ∧ Fr 27 [(0, (.slice p0_1 a_.length c0_1)), (1, (.int .i64 (xs1_1))), (5, (.int .i64 (i1_1)))] a ∧ Mem w0 (hp w0) w []) (0) ((a_.length : Int)) hl0_2 ?_ ?_ ?_
   ·
    exact ⟨(by first | omega | (dsimp only; omega)), hf.sub ⟨rfl, rfl, rfl, trivial⟩, hm.pick [] (by decide) rfl⟩
   ·
    clear hf hm
    rintro i1_1 xs1_1 a w ⟨hn1_1, hf, hm⟩ hi1_1 hi1_2 q0_1 hb0_1 ho0_1
    refine wp_seq (wp_seq (wp_region_lit (st_y hf rfl rfl rfl (y_move rfl rfl) fun a hf => st_y hf rfl rfl rfl (y_move rfl rfl) fun a hf => st_y hf rfl rfl rfl (y_len_slice st_107.und rfl rfl) fun a hf => st_y hf rfl rfl rfl (y_lss rfl rfl rfl) fun a hf => st_end (x_then_n ?_))))
    refine cond_t hf rfl (decide_eq_true (by omega)) (wp_skip (x_then_n (wp_seq (wp_block (wp_seq (wp_region_lit (st_y hf rfl rfl rfl (y_move rfl rfl) fun a hf => st_y hf rfl rfl rfl (y_move rfl rfl) fun a hf => ?_)))))))
    obtain ⟨x1_1, hx1_1, hb0_1⟩ := bnd hb0_1
    obtain ⟨h1_1, hx1_2⟩ := getI_some.1 hx1_1
    obtain ⟨b1_1, o1_1, c1_1, he⟩ := idx_form' h1 hx1_2
    simp only [Value.slice.injEq, Option.some.injEq] at he; obtain ⟨rfl, _, rfl⟩ := he
    obtain ⟨_, _, hc1_1, hr1_1⟩ := ro_get' h1 hx1_2
    obtain ⟨_, _, rfl, rfl, h1_2⟩ := hr1_1
    obtain ⟨v1_1, rfl, -⟩ := id h1_2
    replace h1_2 : GT.rep (hp w0) [v1_1] x1_1.args := h1_2
    replace hc1_1 : CellsAt (hp w0) b1_1 (o1_1 + (i1_1).toNat * 2) [(.int .i64 (x1_1.to)), v1_1] := hc1_1
    refine st_y hf rfl rfl rfl (y_indexAddr st_107 rfl rfl rfl h1_1 (idx_lt hx1_2)) fun a hf => st_y hf rfl rfl rfl (y_loadN (cs := [(.int .i64 (x1_1.to)), v1_1]) Tryz.isAgg135 Tryz.sizeOf135 rfl rfl (hc1_1.mono hm.lez)) fun a hf => st_y hf rfl rfl rfl (y_move rfl rfl) fun a hf => ?_
    obtain ⟨r1_1, hx1_3, hb0_1⟩ := bnd hb0_1
    refine st_ef hf rfl rfl rfl (e_call hf rfl Tryz.call113 rfl (laws_szPhi_ok _ x1_1 v1_1 (hm.now h1_2) xs1_1 _ hx1_3)) ?_
    clear hf a; rintro v1_2 w1_1 a ho1_1 hf
    obtain ⟨rfl, hB⟩ := ho1_1
    replace hm := hm.below' hB; clear hB
    refine st_y hf rfl rfl rfl (y_assign rfl rfl) fun a hf => st_end (x_then_n (wp_seq (wp_region_lit (st_y hf rfl rfl rfl (y_move rfl rfl) fun a hf => st_y hf rfl rfl rfl (y_lss rfl rfl rfl) fun a hf => st_end (x_then_n ?_)))))
    rcases bcases (decide (r1_1 < 0)) with h1_3 | h1_3
    ·
     replace hb0_1 := (ite_t h1_3).symm.trans hb0_1
     have h1_4 := of_decide_eq_true h1_3
     refine cond_t hf rfl h1_3 (wp_seq (wp_region_lit (st_y hf rfl rfl rfl (y_assign rfl rfl) fun a hf => st_end (x_then_n (wp_ret (x_blk_ret (x_then_ret ?_)))))))
     refine x_then_ret (x_blk_ret (x_then_ret ?_))
     obtain rfl := Option.some.inj hb0_1
     obtain rfl := ho0_1 _ rfl
     replace hq := sum_r hq
     obtain rfl := Option.some.inj hq
     refine ret_tmp hf Tryz.results95 rfl ?_
     exact ⟨rfl, hm.below⟩
    ·
     replace hb0_1 := (ite_f h1_3).symm.trans hb0_1
     have h1_5 := of_decide_eq_false h1_3
     refine cond_f hf rfl h1_3 (wp_skip (x_blk_n (x_then_n (wp_region_lit (st_y hf rfl rfl rfl (y_move rfl rfl) fun a hf => st_y hf rfl rfl rfl (y_add64 rfl rfl rfl (by omega) (by omega)) fun a hf => st_y hf rfl rfl rfl (y_assign rfl rfl) fun a hf => st_end ?_)))))
     refine x_then_n ?_
     obtain rfl := Option.some.inj hb0_1
     exact ⟨_, rfl, (by first | omega | (dsimp only; omega)), hf.sub ⟨rfl, rfl, rfl, trivial⟩, hm.pick [] (by decide) rfl⟩
   ·
    clear hf hm
    rintro i0_1 xs0_1 a w ⟨hn0_1, hf, hm⟩ hi0_1 hi0_2 rfl
    replace hq := sum_l hq
    refine wp_seq (wp_seq (wp_region_lit (st_y hf rfl rfl rfl (y_move rfl rfl) fun a hf => st_y hf rfl rfl rfl (y_move rfl rfl) fun a hf => st_y hf rfl rfl rfl (y_len_slice st_107.und rfl rfl) fun a hf => st_y hf rfl rfl rfl (y_lss rfl rfl rfl) fun a hf => st_end (x_then_n ?_))))
    refine cond_f hf rfl (decide_eq_false (by omega)) (wp_exit (x_then_exit (x_then_exit (x_blk_hit (x_then_n (wp_seq (wp_region_lit (st_y hf rfl rfl rfl (y_move rfl rfl) fun a hf => ?_))))))))
    refine st_y hf rfl rfl rfl (y_assign rfl rfl) fun a hf => st_end (x_then_n (wp_ret ?_))
    obtain rfl := Option.some.inj hq
    refine ret_tmp hf Tryz.results95 rfl ?_
    exact ⟨rfl, hm.below⟩

theorem laws_szIns_ok (w0 : World) (a_ : Ins_) (v1 : Value) (h1 : GT.rep (hp w0) [v1] a_.args) (left : Int) (r : Int) (hq : laws_szIns a_ left = some r) :
    Con Tryz.prog 114 [(.agg #[(.int .i64 (a_.op)), (.int .i64 (a_.to)), v1, (.int .i64 (a_.n_))]), (.int .i64 (left))] w0 (fun v w' => v = (.int .i64 (r)) ∧ Below w0.heap.size w0 w') := by
  unfold laws_szIns at hq
  refine con_body (l := [(0, (.agg #[(.int .i64 (a_.op)), (.int .i64 (a_.to)), v1, (.int .i64 (a_.n_))])), (1, (.int .i64 (left)))]) Tryz.func114 rfl Tryz.ntmps114 (Args.get ⟨rfl, rfl, trivial⟩) rfl ?_
  intro a hf
  have hm := Mem.start w0
  refine wp_seq (wp_region_lit (st_ef hf rfl rfl rfl (e_box hf hm rfl rfl rfl) ?_))
  clear hf a; rintro _ w0_1 a ⟨b0_1, rfl, hm⟩ hf
  refine st_y hf rfl rfl rfl (y_assign rfl rfl) fun a hf => st_end (x_then_n (wp_seq (wp_region_lit (st_y hf rfl rfl rfl (y_fieldAddr fo_137_2 rfl rfl) fun a hf => st_y hf rfl rfl rfl (y_load1 Tryz.isAgg25 rfl rfl (hm.blk_cell 0 rfl rfl)) fun a hf => st_y hf rfl rfl rfl (y_move rfl rfl) fun a hf => ?_))))
  obtain ⟨r0_1, hx0_1, hq⟩ := bnd hq
  refine st_ef hf rfl rfl rfl (e_call hf rfl Tryz.call97 rfl (laws_szIntS_ok _ a_.args v1 (hm.now h1) left _ hx0_1)) ?_
  clear hf a; rintro v0_1 w0_2 a ho0_1 hf
  obtain ⟨rfl, hB⟩ := ho0_1
  replace hm := hm.below' hB; clear hB
  refine st_y hf rfl rfl rfl (y_assign rfl rfl) fun a hf => st_end (x_then_n (wp_seq (wp_seq (wp_region_lit (st_y hf rfl rfl rfl (y_move rfl rfl) fun a hf => st_y hf rfl rfl rfl (y_lss rfl rfl rfl) fun a hf => st_end ?_)))))
  refine x_then_n ?_
  rcases bcases (decide (r0_1 < 0)) with h0_1 | h0_1
  ·
   replace hq := (ite_t h0_1).symm.trans hq
   have h0_2 := of_decide_eq_true h0_1
   refine cond_t hf rfl h0_1 (wp_seq (wp_region_lit (st_y hf rfl rfl rfl (y_assign rfl rfl) fun a hf => st_end (x_then_n (wp_ret (x_then_ret ?_))))))
   obtain rfl := Option.some.inj hq
   refine ret_tmp hf Tryz.results114 rfl ?_
   exact ⟨rfl, hm.below⟩
  ·
   replace hq := (ite_f h0_1).symm.trans hq
   have h0_3 := of_decide_eq_false h0_1
   refine cond_f hf rfl h0_1 (wp_skip (x_then_n (wp_seq (wp_region_lit (st_y hf rfl rfl rfl (y_move rfl rfl) fun a hf => st_y hf rfl rfl rfl (y_assign rfl rfl) fun a hf => st_end (x_then_n ?_))))))
   refine wp_ret ?_
   obtain rfl := Option.some.inj hq
   refine ret_tmp hf Tryz.results114 rfl ?_
   exact ⟨rfl, hm.below⟩

theorem laws_szInsS_ok (w0 : World) (a_ : List Ins_) (v1 : Value) (h1 : GT.rep (hp w0) [v1] a_) (left : Int) (r : Int) (hq : laws_szInsS a_ left = some r) :
    Con Tryz.prog 96 [v1, (.int .i64 (left))] w0 (fun v w' => v = (.int .i64 (r)) ∧ Below w0.heap.size w0 w') := by
  unfold laws_szInsS at hq
  refine con_body (l := [(0, v1), (1, (.int .i64 (left)))]) Tryz.func96 rfl Tryz.ntmps96 (Args.get ⟨rfl, rfl, trivial⟩) rfl ?_
  intro a hf
  have hm := Mem.start w0
  refine wp_seq (wp_region_lit (st_y hf rfl rfl rfl (y_assign rfl rfl) fun a hf => st_end (x_then_n (wp_seq (wp_region_lit (st_y hf rfl rfl rfl (y_move rfl rfl) fun a hf => st_y hf rfl rfl rfl (y_move rfl rfl) fun a hf => ?_))))))
  obtain ⟨p0_1, c0_1, he, hl0_1⟩ := ro_slice h1
  subst he
  refine st_y hf rfl rfl rfl (y_len_slice st_108.und rfl rfl) fun a hf => st_y hf rfl rfl rfl (y_subw rfl rfl rfl) fun a hf => st_y hf rfl rfl rfl (y_assign rfl rfl) fun a hf => st_end (x_then_n (wp_seq (wp_seq (wp_region_lit (st_y hf rfl rfl rfl (y_move rfl rfl) fun a hf => ?_)))))
  refine st_y hf rfl rfl rfl (y_lss rfl rfl rfl) fun a hf => st_end (x_then_n ?_)
  rcases bcases (decide ((w64 (left - ((a_.length : Int)))) < 0)) with h0_1 | h0_1
  ·
   replace hq := (ite_t h0_1).symm.trans hq
   have h0_2 := of_decide_eq_true h0_1
   refine cond_t hf rfl h0_1 (wp_seq (wp_region_lit (st_y hf rfl rfl rfl (y_assign rfl rfl) fun a hf => st_end (x_then_n (wp_ret (x_then_ret ?_))))))
   obtain rfl := Option.some.inj hq
   refine ret_tmp hf Tryz.results96 rfl ?_
   exact ⟨rfl, hm.below⟩
  ·
   replace hq := (ite_f h0_1).symm.trans hq
   have h0_3 := of_decide_eq_false h0_1
   refine cond_f hf rfl h0_1 (wp_skip (x_then_n (wp_seq (wp_seq (wp_region_lit (st_y hf rfl rfl rfl (y_assign rfl rfl) fun a hf => st_end (x_then_n ?_)))))))
   refine wp_block ?_
   obtain ⟨r0_1, hl0_2, hq⟩ := bnd hq
   refine wp_forN _ (fun i1_1 xs1_1 a w => 0 ≤ xs1_1 ∧ Fr 27 [(0, (.slice p0_1 a_.length c0_1)), (1, (.int .i64 (xs1_1))), (5, (.int .i64 (i1_1)))] a ∧ Mem w0 (hp w0) w []) (0) ((a_.length : Int)) hl0_2 ?_ ?_ ?_
   ·
    exact ⟨(by first | omega | (dsimp only; omega)), hf.sub ⟨rfl, rfl, rfl, trivial⟩, hm.pick [] (by decide) rfl⟩
   ·
    clear hf hm
    rintro i1_1 xs1_1 a w ⟨hn1_1, hf, hm⟩ hi1_1 hi1_2 q0_1 hb0_1 ho0_1
    refine wp_seq (wp_seq (wp_region_lit (st_y hf rfl rfl rfl (y_move rfl rfl) fun a hf => st_y hf rfl rfl rfl (y_move rfl rfl) fun a hf => st_y hf rfl rfl rfl (y_len_slice st_108.und rfl rfl) fun a hf => st_y hf rfl rfl rfl (y_lss rfl rfl rfl) fun a hf => st_end (x_then_n ?_))))
    refine cond_t hf rfl (decide_eq_true (by omega)) (wp_skip (x_then_n (wp_seq (wp_block (wp_seq (wp_region_lit (st_y hf rfl rfl rfl (y_move rfl rfl) fun a hf => st_y hf rfl rfl rfl (y_move rfl rfl) fun a hf => ?_)))))))
    obtain ⟨x1_1, hx1_1, hb0_1⟩ := bnd hb0_1
    obtain ⟨h1_1, hx1_2⟩ := getI_some.1 hx1_1
    obtain ⟨b1_1, o1_1, c1_1, he⟩ := idx_form' h1 hx1_2
    simp only [Value.slice.injEq, Option.some.injEq] at he; obtain ⟨rfl, _, rfl⟩ := he
    obtain ⟨_, _, hc1_1, hr1_1⟩ := ro_get' h1 hx1_2
    obtain ⟨_, _, rfl, rfl, _, _, rfl, rfl, _, _, rfl, h1_2, rfl⟩ := hr1_1
    obtain ⟨v1_1, rfl, -⟩ := id h1_2
    replace h1_2 : GT.rep (hp w0) [v1_1] x1_1.args := h1_2
    replace hc1_1 : CellsAt (hp w0) b1_1 (o1_1 + (i1_1).toNat * 4) [(.int .i64 (x1_1.op)), (.int .i64 (x1_1.to)), v1_1, (.int .i64 (x1_1.n_))] := hc1_1
    refine st_y hf rfl rfl rfl (y_indexAddr st_108 rfl rfl rfl h1_1 (idx_lt hx1_2)) fun a hf => st_y hf rfl rfl rfl (y_loadN (cs := [(.int .i64 (x1_1.op)), (.int .i64 (x1_1.to)), v1_1, (.int .i64 (x1_1.n_))]) Tryz.isAgg137 Tryz.sizeOf137 rfl rfl (hc1_1.mono hm.lez)) fun a hf => st_y hf rfl rfl rfl (y_move rfl rfl) fun a hf => ?_
    obtain ⟨r1_1, hx1_3, hb0_1⟩ := bnd hb0_1
    refine st_ef hf rfl rfl rfl (e_call hf rfl Tryz.call114 rfl (laws_szIns_ok _ x1_1 v1_1 (hm.now h1_2) xs1_1 _ hx1_3)) ?_
    clear hf a; rintro v1_2 w1_1 a ho1_1 hf
    obtain ⟨rfl, hB⟩ := ho1_1
    replace hm := hm.below' hB; clear hB
    refine st_y hf rfl rfl rfl (y_assign rfl rfl) fun a hf => st_end (x_then_n (wp_seq (wp_region_lit (st_y hf rfl rfl rfl (y_move rfl rfl) fun a hf => st_y hf rfl rfl rfl (y_lss rfl rfl rfl) fun a hf => st_end (x_then_n ?_)))))
    rcases bcases (decide (r1_1 < 0)) with h1_3 | h1_3
    ·
     replace hb0_1 := (ite_t h1_3).symm.trans hb0_1
     have h1_4 := of_decide_eq_true h1_3
     refine cond_t hf rfl h1_3 (wp_seq (wp_region_lit (st_y hf rfl rfl rfl (y_assign rfl rfl) fun a hf => st_end (x_then_n (wp_ret (x_blk_ret (x_then_ret ?_)))))))
     refine x_then_ret (x_blk_ret (x_then_ret ?_))
     obtain rfl := Option.some.inj hb0_1
     obtain rfl := ho0_1 _ rfl
     replace hq := sum_r hq
     obtain rfl := Option.some.inj hq
     refine ret_tmp hf Tryz.results96 rfl ?_
     exact ⟨rfl, hm.below⟩
    ·
     replace hb0_1 := (ite_f h1_3).symm.trans hb0_1
     have h1_5 := of_decide_eq_false h1_3
     refine cond_f hf rfl h1_3 (wp_skip (x_blk_n (x_then_n (wp_region_lit (st_y hf rfl rfl rfl (y_move rfl rfl) fun a hf => st_y hf rfl rfl rfl (y_add64 rfl rfl rfl (by omega) (by omega)) fun a hf => st_y hf rfl rfl rfl (y_assign rfl rfl) fun a hf => st_end ?_)))))
     refine x_then_n ?_
     obtain rfl := Option.some.inj hb0_1
     exact ⟨_, rfl, (by first | omega | (dsimp only; omega)), hf.sub ⟨rfl, rfl, rfl, trivial⟩, hm.pick [] (by decide) rfl⟩
   ·
    clear hf hm
    rintro i0_1 xs0_1 a w ⟨hn0_1, hf, hm⟩ hi0_1 hi0_2 rfl
    replace hq := sum_l hq
    refine wp_seq (wp_seq (wp_region_lit (st_y hf rfl rfl rfl (y_move rfl rfl) fun a hf => st_y hf rfl rfl rfl (y_move rfl rfl) fun a hf => st_y hf rfl rfl rfl (y_len_slice st_108.und rfl rfl) fun a hf => st_y hf rfl rfl rfl (y_lss rfl rfl rfl) fun a hf => st_end (x_then_n ?_))))
    refine cond_f hf rfl (decide_eq_false (by omega)) (wp_exit (x_then_exit (x_then_exit (x_blk_hit (x_then_n (wp_seq (wp_region_lit (st_y hf rfl rfl rfl (y_move rfl rfl) fun a hf => ?_))))))))
    refine st_y hf rfl rfl rfl (y_assign rfl rfl) fun a hf => st_end (x_then_n (wp_ret ?_))
    obtain rfl := Option.some.inj hq
    refine ret_tmp hf Tryz.results96 rfl ?_
    exact ⟨rfl, hm.below⟩

theorem laws_szBlock_ok (w0 : World) (a_ : Block_) (v1 : Value) (h1 : GT.rep (hp w0) [v1] a_.phis) (v2 : Value) (h2 : GT.rep (hp w0) [v2] a_.ins) (v3 : Value) (h3 : GT.rep (hp w0) [v3] a_.next_) (left : Int) (r : Int) (hq : laws_szBlock a_ left = some r) :
    Con Tryz.prog 72 [(.agg #[v1, v2, (.int .i64 (a_.jump)), (.int .i64 (a_.on)), v3]), (.int .i64 (left))] w0 (fun v w' => v = (.int .i64 (r)) ∧ Below w0.heap.size w0 w') := by
  unfold laws_szBlock at hq
  refine con_body (l := [(0, (.agg #[v1, v2, (.int .i64 (a_.jump)), (.int .i64 (a_.on)), v3])), (1, (.int .i64 (left)))]) Tryz.func72 rfl Tryz.ntmps72 (Args.get ⟨rfl, rfl, trivial⟩) rfl ?_
  intro a hf
  have hm := Mem.start w0
  refine wp_seq (wp_region_lit (st_ef hf rfl rfl rfl (e_box hf hm rfl rfl rfl) ?_))
  clear hf a; rintro _ w0_1 a ⟨b0_1, rfl, hm⟩ hf
  refine st_y hf rfl rfl rfl (y_assign rfl rfl) fun a hf => st_end (x_then_n (wp_seq (wp_region_lit (st_y hf rfl rfl rfl (y_fieldAddr fo_110_0 rfl rfl) fun a hf => st_y hf rfl rfl rfl (y_load1 Tryz.isAgg107 rfl rfl (hm.blk_cell 0 rfl rfl)) fun a hf => st_y hf rfl rfl rfl (y_move rfl rfl) fun a hf => ?_))))
  obtain ⟨r0_1, hx0_1, hq⟩ := bnd hq
  refine st_ef hf rfl rfl rfl (e_call hf rfl Tryz.call95 rfl (laws_szPhiS_ok _ a_.phis v1 (hm.now h1) left _ hx0_1)) ?_
  clear hf a; rintro v0_1 w0_2 a ho0_1 hf
  obtain ⟨rfl, hB⟩ := ho0_1
  replace hm := hm.below' hB; clear hB
  refine st_y hf rfl rfl rfl (y_assign rfl rfl) fun a hf => st_end (x_then_n (wp_seq (wp_seq (wp_region_lit (st_y hf rfl rfl rfl (y_move rfl rfl) fun a hf => st_y hf rfl rfl rfl (y_lss rfl rfl rfl) fun a hf => st_end ?_)))))
  refine x_then_n ?_
  rcases bcases (decide (r0_1 < 0)) with h0_1 | h0_1
  ·
   replace hq := (ite_t h0_1).symm.trans hq
   have h0_2 := of_decide_eq_true h0_1
   refine cond_t hf rfl h0_1 (wp_seq (wp_region_lit (st_y hf rfl rfl rfl (y_assign rfl rfl) fun a hf => st_end (x_then_n (wp_ret (x_then_ret ?_))))))
   obtain rfl := Option.some.inj hq
   refine ret_tmp hf Tryz.results72 rfl ?_
   exact ⟨rfl, hm.below⟩
  ·
   replace hq := (ite_f h0_1).symm.trans hq
   have h0_3 := of_decide_eq_false h0_1
   refine cond_f hf rfl h0_1 (wp_skip (x_then_n (wp_seq (wp_region_lit (st_y hf rfl rfl rfl (y_fieldAddr fo_110_1 rfl rfl) fun a hf => st_y hf rfl rfl rfl (y_load1 Tryz.isAgg108 rfl rfl (hm.blk_cell 0 rfl rfl)) fun a hf => st_y hf rfl rfl rfl (y_move rfl rfl) fun a hf => ?_)))))
   obtain ⟨r0_2, hx0_2, hq⟩ := bnd hq
   refine st_ef hf rfl rfl rfl (e_call hf rfl Tryz.call96 rfl (laws_szInsS_ok _ a_.ins v2 (hm.now h2) r0_1 _ hx0_2)) ?_
   clear hf a; rintro v0_2 w0_3 a ho0_2 hf
   obtain ⟨rfl, hB⟩ := ho0_2
   replace hm := hm.below' hB; clear hB
   refine st_y hf rfl rfl rfl (y_assign rfl rfl) fun a hf => st_end (x_then_n (wp_seq (wp_seq (wp_region_lit (st_y hf rfl rfl rfl (y_move rfl rfl) fun a hf => st_y hf rfl rfl rfl (y_lss rfl rfl rfl) fun a hf => st_end ?_)))))
   refine x_then_n ?_
   rcases bcases (decide (r0_2 < 0)) with h0_4 | h0_4
   ·
    replace hq := (ite_t h0_4).symm.trans hq
    have h0_5 := of_decide_eq_true h0_4
    refine cond_t hf rfl h0_4 (wp_seq (wp_region_lit (st_y hf rfl rfl rfl (y_assign rfl rfl) fun a hf => st_end (x_then_n (wp_ret (x_then_ret ?_))))))
    obtain rfl := Option.some.inj hq
    refine ret_tmp hf Tryz.results72 rfl ?_
    exact ⟨rfl, hm.below⟩
   ·
    replace hq := (ite_f h0_4).symm.trans hq
    have h0_6 := of_decide_eq_false h0_4
    refine cond_f hf rfl h0_4 (wp_skip (x_then_n (wp_seq (wp_region_lit (st_y hf rfl rfl rfl (y_fieldAddr fo_110_4 rfl rfl) fun a hf => st_y hf rfl rfl rfl (y_load1 Tryz.isAgg25 rfl rfl (hm.blk_cell 0 rfl rfl)) fun a hf => st_y hf rfl rfl rfl (y_move rfl rfl) fun a hf => ?_)))))
    obtain ⟨r0_3, hx0_3, hq⟩ := bnd hq
    refine st_ef hf rfl rfl rfl (e_call hf rfl Tryz.call97 rfl (laws_szIntS_ok _ a_.next_ v3 (hm.now h3) r0_2 _ hx0_3)) ?_
    clear hf a; rintro v0_3 w0_4 a ho0_3 hf
    obtain ⟨rfl, hB⟩ := ho0_3
    replace hm := hm.below' hB; clear hB
    refine st_y hf rfl rfl rfl (y_assign rfl rfl) fun a hf => st_end (x_then_n (wp_seq (wp_seq (wp_region_lit (st_y hf rfl rfl rfl (y_move rfl rfl) fun a hf => st_y hf rfl rfl rfl (y_lss rfl rfl rfl) fun a hf => st_end ?_)))))
    refine x_then_n ?_
    rcases bcases (decide (r0_3 < 0)) with h0_7 | h0_7
    ·
     replace hq := (ite_t h0_7).symm.trans hq
     have h0_8 := of_decide_eq_true h0_7
     refine cond_t hf rfl h0_7 (wp_seq (wp_region_lit (st_y hf rfl rfl rfl (y_assign rfl rfl) fun a hf => st_end (x_then_n (wp_ret (x_then_ret ?_))))))
     obtain rfl := Option.some.inj hq
     refine ret_tmp hf Tryz.results72 rfl ?_
     exact ⟨rfl, hm.below⟩
    ·
     replace hq := (ite_f h0_7).symm.trans hq
     have h0_9 := of_decide_eq_false h0_7
     refine cond_f hf rfl h0_7 (wp_skip (x_then_n (wp_seq (wp_region_lit (st_y hf rfl rfl rfl (y_move rfl rfl) fun a hf => st_y hf rfl rfl rfl (y_assign rfl rfl) fun a hf => st_end (x_then_n ?_))))))
     refine wp_ret ?_
     obtain rfl := Option.some.inj hq
     refine ret_tmp hf Tryz.results72 rfl ?_
     exact ⟨rfl, hm.below⟩

theorem laws_szBlockS_ok (w0 : World) (a_ : List Block_) (v1 : Value) (h1 : GT.rep (hp w0) [v1] a_) (left : Int) (r : Int) (hq : laws_szBlockS a_ left = some r) :
    Con Tryz.prog 51 [v1, (.int .i64 (left))] w0 (fun v w' => v = (.int .i64 (r)) ∧ Below w0.heap.size w0 w') := by
  unfold laws_szBlockS at hq
  refine con_body (l := [(0, v1), (1, (.int .i64 (left)))]) Tryz.func51 rfl Tryz.ntmps51 (Args.get ⟨rfl, rfl, trivial⟩) rfl ?_
  intro a hf
  have hm := Mem.start w0
  refine wp_seq (wp_region_lit (st_y hf rfl rfl rfl (y_assign rfl rfl) fun a hf => st_end (x_then_n (wp_seq (wp_region_lit (st_y hf rfl rfl rfl (y_move rfl rfl) fun a hf => st_y hf rfl rfl rfl (y_move rfl rfl) fun a hf => ?_))))))
  obtain ⟨p0_1, c0_1, he, hl0_1⟩ := ro_slice h1
  subst he
  refine st_y hf rfl rfl rfl (y_len_slice st_64.und rfl rfl) fun a hf => st_y hf rfl rfl rfl (y_subw rfl rfl rfl) fun a hf => st_y hf rfl rfl rfl (y_assign rfl rfl) fun a hf => st_end (x_then_n (wp_seq (wp_seq (wp_region_lit (st_y hf rfl rfl rfl (y_move rfl rfl) fun a hf => ?_)))))
  refine st_y hf rfl rfl rfl (y_lss rfl rfl rfl) fun a hf => st_end (x_then_n ?_)
  rcases bcases (decide ((w64 (left - ((a_.length : Int)))) < 0)) with h0_1 | h0_1
  ·
   replace hq := (ite_t h0_1).symm.trans hq
   have h0_2 := of_decide_eq_true h0_1
   refine cond_t hf rfl h0_1 (wp_seq (wp_region_lit (st_y hf rfl rfl rfl (y_assign rfl rfl) fun a hf => st_end (x_then_n (wp_ret (x_then_ret ?_))))))
   obtain rfl := Option.some.inj hq
   refine ret_tmp hf Tryz.results51 rfl ?_
   exact ⟨rfl, hm.below⟩
  ·
   replace hq := (ite_f h0_1).symm.trans hq
   have h0_3 := of_decide_eq_false h0_1
   refine cond_f hf rfl h0_1 (wp_skip (x_then_n (wp_seq (wp_seq (wp_region_lit (st_y hf rfl rfl rfl (y_assign rfl rfl) fun a hf => st_end (x_then_n ?_)))))))
   refine wp_block ?_
   obtain ⟨r0_1, hl0_2, hq⟩ := bnd hq
   refine wp_forN _ (fun i1_1 xs1_1 a w => 0 ≤ xs1_1 ∧ Fr 27 [(0, (.slice p0_1 a_.length c0_1)), (1, (.int .i64 (xs1_1))), (5, (.int .i64 (i1_1)))] a ∧ Mem w0 (hp w0) w []) (0) ((a_.length : Int)) hl0_2 ?_ ?_ ?_
   ·
    exact ⟨(by first | omega | (dsimp only; omega)), hf.sub ⟨rfl, rfl, rfl, trivial⟩, hm.pick [] (by decide) rfl⟩
   ·
    clear hf hm
    rintro i1_1 xs1_1 a w ⟨hn1_1, hf, hm⟩ hi1_1 hi1_2 q0_1 hb0_1 ho0_1
    refine wp_seq (wp_seq (wp_region_lit (st_y hf rfl rfl rfl (y_move rfl rfl) fun a hf => st_y hf rfl rfl rfl (y_move rfl rfl) fun a hf => st_y hf rfl rfl rfl (y_len_slice st_64.und rfl rfl) fun a hf => st_y hf rfl rfl rfl (y_lss rfl rfl rfl) fun a hf => st_end (x_then_n ?_))))
    refine cond_t hf rfl (decide_eq_true (by omega)) (wp_skip (x_then_n (wp_seq (wp_block (wp_seq (wp_region_lit (st_y hf rfl rfl rfl (y_move rfl rfl) fun a hf => st_y hf rfl rfl rfl (y_move rfl rfl) fun a hf => ?_)))))))
    obtain ⟨x1_1, hx1_1, hb0_1⟩ := bnd hb0_1
    obtain ⟨h1_1, hx1_2⟩ := getI_some.1 hx1_1
    obtain ⟨b1_1, o1_1, c1_1, he⟩ := idx_form' h1 hx1_2
    simp only [Value.slice.injEq, Option.some.injEq] at he; obtain ⟨rfl, _, rfl⟩ := he
    obtain ⟨_, _, hc1_1, hr1_1⟩ := ro_get' h1 hx1_2
    obtain ⟨_, _, rfl, h1_2, _, _, rfl, h1_3, _, _, rfl, rfl, _, _, rfl, rfl, h1_4⟩ := hr1_1
    obtain ⟨v1_1, rfl, -⟩ := id h1_2
    replace h1_2 : GT.rep (hp w0) [v1_1] x1_1.phis := h1_2
    obtain ⟨v1_2, rfl, -⟩ := id h1_3
    replace h1_3 : GT.rep (hp w0) [v1_2] x1_1.ins := h1_3
    obtain ⟨v1_3, rfl, -⟩ := id h1_4
    replace h1_4 : GT.rep (hp w0) [v1_3] x1_1.next_ := h1_4
    replace hc1_1 : CellsAt (hp w0) b1_1 (o1_1 + (i1_1).toNat * 5) [v1_1, v1_2, (.int .i64 (x1_1.jump)), (.int .i64 (x1_1.on)), v1_3] := hc1_1
    refine st_y hf rfl rfl rfl (y_indexAddr st_64 rfl rfl rfl h1_1 (idx_lt hx1_2)) fun a hf => st_y hf rfl rfl rfl (y_loadN (cs := [v1_1, v1_2, (.int .i64 (x1_1.jump)), (.int .i64 (x1_1.on)), v1_3]) Tryz.isAgg110 Tryz.sizeOf110 rfl rfl (hc1_1.mono hm.lez)) fun a hf => st_y hf rfl rfl rfl (y_move rfl rfl) fun a hf => ?_
    obtain ⟨r1_1, hx1_3, hb0_1⟩ := bnd hb0_1
    refine st_ef hf rfl rfl rfl (e_call hf rfl Tryz.call72 rfl (laws_szBlock_ok _ x1_1 v1_1 (hm.now h1_2) v1_2 (hm.now h1_3) v1_3 (hm.now h1_4) xs1_1 _ hx1_3)) ?_
    clear hf a; rintro v1_4 w1_1 a ho1_1 hf
    obtain ⟨rfl, hB⟩ := ho1_1
    replace hm := hm.below' hB; clear hB
    refine st_y hf rfl rfl rfl (y_assign rfl rfl) fun a hf => st_end (x_then_n (wp_seq (wp_region_lit (st_y hf rfl rfl rfl (y_move rfl rfl) fun a hf => st_y hf rfl rfl rfl (y_lss rfl rfl rfl) fun a hf => st_end (x_then_n ?_)))))
    rcases bcases (decide (r1_1 < 0)) with h1_5 | h1_5
    ·
     replace hb0_1 := (ite_t h1_5).symm.trans hb0_1
     have h1_6 := of_decide_eq_true h1_5
     refine cond_t hf rfl h1_5 (wp_seq (wp_region_lit (st_y hf rfl rfl rfl (y_assign rfl rfl) fun a hf => st_end (x_then_n (wp_ret (x_blk_ret (x_then_ret ?_)))))))
     refine x_then_ret (x_blk_ret (x_then_ret ?_))
     obtain rfl := Option.some.inj hb0_1
     obtain rfl := ho0_1 _ rfl
     replace hq := sum_r hq
     obtain rfl := Option.some.inj hq
     refine ret_tmp hf Tryz.results51 rfl ?_
     exact ⟨rfl, hm.below⟩
    ·
     replace hb0_1 := (ite_f h1_5).symm.trans hb0_1
     have h1_7 := of_decide_eq_false h1_5
     refine cond_f hf rfl h1_5 (wp_skip (x_blk_n (x_then_n (wp_region_lit (st_y hf rfl rfl rfl (y_move rfl rfl) fun a hf => st_y hf rfl rfl rfl (y_add64 rfl rfl rfl (by omega) (by omega)) fun a hf => st_y hf rfl rfl rfl (y_assign rfl rfl) fun a hf => st_end ?_)))))
     refine x_then_n ?_
     obtain rfl := Option.some.inj hb0_1
     exact ⟨_, rfl, (by first | omega | (dsimp only; omega)), hf.sub ⟨rfl, rfl, rfl, trivial⟩, hm.pick [] (by decide) rfl⟩
   ·
    clear hf hm
    rintro i0_1 xs0_1 a w ⟨hn0_1, hf, hm⟩ hi0_1 hi0_2 rfl
    replace hq := sum_l hq
    refine wp_seq (wp_seq (wp_region_lit (st_y hf rfl rfl rfl (y_move rfl rfl) fun a hf => st_y hf rfl rfl rfl (y_move rfl rfl) fun a hf => st_y hf rfl rfl rfl (y_len_slice st_64.und rfl rfl) fun a hf => st_y hf rfl rfl rfl (y_lss rfl rfl rfl) fun a hf => st_end (x_then_n ?_))))
    refine cond_f hf rfl (decide_eq_false (by omega)) (wp_exit (x_then_exit (x_then_exit (x_blk_hit (x_then_n (wp_seq (wp_region_lit (st_y hf rfl rfl rfl (y_move rfl rfl) fun a hf => ?_))))))))
    refine st_y hf rfl rfl rfl (y_assign rfl rfl) fun a hf => st_end (x_then_n (wp_ret ?_))
    obtain rfl := Option.some.inj hq
    refine ret_tmp hf Tryz.results51 rfl ?_
    exact ⟨rfl, hm.below⟩

theorem laws_szCode_ok (w0 : World) (a_ : Code_) (v1 : Value) (h1 : GT.rep (hp w0) [v1] a_.blocks) (left : Int) (r : Int) (hq : laws_szCode a_ left = some r) :
    Con Tryz.prog 34 [(.agg #[(.int .i64 (a_.params)), (.int .i64 (a_.regs)), v1]), (.int .i64 (left))] w0 (fun v w' => v = (.int .i64 (r)) ∧ Below w0.heap.size w0 w') := by
  unfold laws_szCode at hq
  refine con_body (l := [(0, (.agg #[(.int .i64 (a_.params)), (.int .i64 (a_.regs)), v1])), (1, (.int .i64 (left)))]) Tryz.func34 rfl Tryz.ntmps34 (Args.get ⟨rfl, rfl, trivial⟩) rfl ?_
  intro a hf
  have hm := Mem.start w0
  refine wp_seq (wp_region_lit (st_ef hf rfl rfl rfl (e_box hf hm rfl rfl rfl) ?_))
  clear hf a; rintro _ w0_1 a ⟨b0_1, rfl, hm⟩ hf
  refine st_y hf rfl rfl rfl (y_assign rfl rfl) fun a hf => st_end (x_then_n (wp_seq (wp_region_lit (st_y hf rfl rfl rfl (y_fieldAddr fo_66_2 rfl rfl) fun a hf => st_y hf rfl rfl rfl (y_load1 Tryz.isAgg64 rfl rfl (hm.blk_cell 0 rfl rfl)) fun a hf => st_y hf rfl rfl rfl (y_move rfl rfl) fun a hf => ?_))))
  obtain ⟨r0_1, hx0_1, hq⟩ := bnd hq
  refine st_ef hf rfl rfl rfl (e_call hf rfl Tryz.call51 rfl (laws_szBlockS_ok _ a_.blocks v1 (hm.now h1) left _ hx0_1)) ?_
  clear hf a; rintro v0_1 w0_2 a ho0_1 hf
  obtain ⟨rfl, hB⟩ := ho0_1
  replace hm := hm.below' hB; clear hB
  refine st_y hf rfl rfl rfl (y_assign rfl rfl) fun a hf => st_end (x_then_n (wp_seq (wp_seq (wp_region_lit (st_y hf rfl rfl rfl (y_move rfl rfl) fun a hf => st_y hf rfl rfl rfl (y_lss rfl rfl rfl) fun a hf => st_end ?_)))))
  refine x_then_n ?_
  rcases bcases (decide (r0_1 < 0)) with h0_1 | h0_1
  ·
   replace hq := (ite_t h0_1).symm.trans hq
   have h0_2 := of_decide_eq_true h0_1
   refine cond_t hf rfl h0_1 (wp_seq (wp_region_lit (st_y hf rfl rfl rfl (y_assign rfl rfl) fun a hf => st_end (x_then_n (wp_ret (x_then_ret ?_))))))
   obtain rfl := Option.some.inj hq
   refine ret_tmp hf Tryz.results34 rfl ?_
   exact ⟨rfl, hm.below⟩
  ·
   replace hq := (ite_f h0_1).symm.trans hq
   have h0_3 := of_decide_eq_false h0_1
   refine cond_f hf rfl h0_1 (wp_skip (x_then_n (wp_seq (wp_region_lit (st_y hf rfl rfl rfl (y_move rfl rfl) fun a hf => st_y hf rfl rfl rfl (y_assign rfl rfl) fun a hf => st_end (x_then_n ?_))))))
   refine wp_ret ?_
   obtain rfl := Option.some.inj hq
   refine ret_tmp hf Tryz.results34 rfl ?_
   exact ⟨rfl, hm.below⟩

theorem laws_szCodeS_ok (w0 : World) (a_ : List Code_) (v1 : Value) (h1 : GT.rep (hp w0) [v1] a_) (left : Int) (r : Int) (hq : laws_szCodeS a_ left = some r) :
    Con Tryz.prog 23 [v1, (.int .i64 (left))] w0 (fun v w' => v = (.int .i64 (r)) ∧ Below w0.heap.size w0 w') := by
  unfold laws_szCodeS at hq
  refine con_body (l := [(0, v1), (1, (.int .i64 (left)))]) Tryz.func23 rfl Tryz.ntmps23 (Args.get ⟨rfl, rfl, trivial⟩) rfl ?_
  intro a hf
  have hm := Mem.start w0
  refine wp_seq (wp_region_lit (st_y hf rfl rfl rfl (y_assign rfl rfl) fun a hf => st_end (x_then_n (wp_seq (wp_region_lit (st_y hf rfl rfl rfl (y_move rfl rfl) fun a hf => st_y hf rfl rfl rfl (y_move rfl rfl) fun a hf => ?_))))))
  obtain ⟨p0_1, c0_1, he, hl0_1⟩ := ro_slice h1
  subst he
  refine st_y hf rfl rfl rfl (y_len_slice st_22.und rfl rfl) fun a hf => st_y hf rfl rfl rfl (y_subw rfl rfl rfl) fun a hf => st_y hf rfl rfl rfl (y_assign rfl rfl) fun a hf => st_end (x_then_n (wp_seq (wp_seq (wp_region_lit (st_y hf rfl rfl rfl (y_move rfl rfl) fun a hf => ?_)))))
  refine st_y hf rfl rfl rfl (y_lss rfl rfl rfl) fun a hf => st_end (x_then_n ?_)
  rcases bcases (decide ((w64 (left - ((a_.length : Int)))) < 0)) with h0_1 | h0_1
  ·
   replace hq := (ite_t h0_1).symm.trans hq
   have h0_2 := of_decide_eq_true h0_1
   refine cond_t hf rfl h0_1 (wp_seq (wp_region_lit (st_y hf rfl rfl rfl (y_assign rfl rfl) fun a hf => st_end (x_then_n (wp_ret (x_then_ret ?_))))))
   obtain rfl := Option.some.inj hq
   refine ret_tmp hf Tryz.results23 rfl ?_
   exact ⟨rfl, hm.below⟩
  ·
   replace hq := (ite_f h0_1).symm.trans hq
   have h0_3 := of_decide_eq_false h0_1
   refine cond_f hf rfl h0_1 (wp_skip (x_then_n (wp_seq (wp_seq (wp_region_lit (st_y hf rfl rfl rfl (y_assign rfl rfl) fun a hf => st_end (x_then_n ?_)))))))
   refine wp_block ?_
   obtain ⟨r0_1, hl0_2, hq⟩ := bnd hq
   refine wp_forN _ (fun i1_1 xs1_1 a w => 0 ≤ xs1_1 ∧ Fr 27 [(0, (.slice p0_1 a_.length c0_1)), (1, (.int .i64 (xs1_1))), (5, (.int .i64 (i1_1)))] a ∧ Mem w0 (hp w0) w []) (0) ((a_.length : Int)) hl0_2 ?_ ?_ ?_
   ·
    exact ⟨(by first | omega | (dsimp only; omega)), hf.sub ⟨rfl, rfl, rfl, trivial⟩, hm.pick [] (by decide) rfl⟩
   ·
    clear hf hm
    rintro i1_1 xs1_1 a w ⟨hn1_1, hf, hm⟩ hi1_1 hi1_2 q0_1 hb0_1 ho0_1
    refine wp_seq (wp_seq (wp_region_lit (st_y hf rfl rfl rfl (y_move rfl rfl) fun a hf => st_y hf rfl rfl rfl (y_move rfl rfl) fun a hf => st_y hf rfl rfl rfl (y_len_slice st_22.und rfl rfl) fun a hf => st_y hf rfl rfl rfl (y_lss rfl rfl rfl) fun a hf => st_end (x_then_n ?_))))
    refine cond_t hf rfl (decide_eq_true (by omega)) (wp_skip (x_then_n (wp_seq (wp_block (wp_seq (wp_region_lit (st_y hf rfl rfl rfl (y_move rfl rfl) fun a hf => st_y hf rfl rfl rfl (y_move rfl rfl) fun a hf => ?_)))))))
    obtain ⟨x1_1, hx1_1, hb0_1⟩ := bnd hb0_1
    obtain ⟨h1_1, hx1_2⟩ := getI_some.1 hx1_1
    obtain ⟨b1_1, o1_1, c1_1, he⟩ := idx_form' h1 hx1_2
    simp only [Value.slice.injEq, Option.some.injEq] at he; obtain ⟨rfl, _, rfl⟩ := he
    obtain ⟨_, _, hc1_1, hr1_1⟩ := ro_get' h1 hx1_2
    obtain ⟨_, _, rfl, rfl, _, _, rfl, rfl, h1_2⟩ := hr1_1
    obtain ⟨v1_1, rfl, -⟩ := id h1_2
    replace h1_2 : GT.rep (hp w0) [v1_1] x1_1.blocks := h1_2
    replace hc1_1 : CellsAt (hp w0) b1_1 (o1_1 + (i1_1).toNat * 3) [(.int .i64 (x1_1.params)), (.int .i64 (x1_1.regs)), v1_1] := hc1_1
    refine st_y hf rfl rfl rfl (y_indexAddr st_22 rfl rfl rfl h1_1 (idx_lt hx1_2)) fun a hf => st_y hf rfl rfl rfl (y_loadN (cs := [(.int .i64 (x1_1.params)), (.int .i64 (x1_1.regs)), v1_1]) Tryz.isAgg66 Tryz.sizeOf66 rfl rfl (hc1_1.mono hm.lez)) fun a hf => st_y hf rfl rfl rfl (y_move rfl rfl) fun a hf => ?_
    obtain ⟨r1_1, hx1_3, hb0_1⟩ := bnd hb0_1
    refine st_ef hf rfl rfl rfl (e_call hf rfl Tryz.call34 rfl (laws_szCode_ok _ x1_1 v1_1 (hm.now h1_2) xs1_1 _ hx1_3)) ?_
    clear hf a; rintro v1_2 w1_1 a ho1_1 hf
    obtain ⟨rfl, hB⟩ := ho1_1
    replace hm := hm.below' hB; clear hB
    refine st_y hf rfl rfl rfl (y_assign rfl rfl) fun a hf => st_end (x_then_n (wp_seq (wp_region_lit (st_y hf rfl rfl rfl (y_move rfl rfl) fun a hf => st_y hf rfl rfl rfl (y_lss rfl rfl rfl) fun a hf => st_end (x_then_n ?_)))))
    rcases bcases (decide (r1_1 < 0)) with h1_3 | h1_3
    ·
     replace hb0_1 := (ite_t h1_3).symm.trans hb0_1
     have h1_4 := of_decide_eq_true h1_3
     refine cond_t hf rfl h1_3 (wp_seq (wp_region_lit (st_y hf rfl rfl rfl (y_assign rfl rfl) fun a hf => st_end (x_then_n (wp_ret (x_blk_ret (x_then_ret ?_)))))))
     refine x_then_ret (x_blk_ret (x_then_ret ?_))
     obtain rfl := Option.some.inj hb0_1
     obtain rfl := ho0_1 _ rfl
     replace hq := sum_r hq
     obtain rfl := Option.some.inj hq
     refine ret_tmp hf Tryz.results23 rfl ?_
     exact ⟨rfl, hm.below⟩
    ·
     replace hb0_1 := (ite_f h1_3).symm.trans hb0_1
     have h1_5 := of_decide_eq_false h1_3
     refine cond_f hf rfl h1_3 (wp_skip (x_blk_n (x_then_n (wp_region_lit (st_y hf rfl rfl rfl (y_move rfl rfl) fun a hf => st_y hf rfl rfl rfl (y_add64 rfl rfl rfl (by omega) (by omega)) fun a hf => st_y hf rfl rfl rfl (y_assign rfl rfl) fun a hf => st_end ?_)))))
     refine x_then_n ?_
     obtain rfl := Option.some.inj hb0_1
     exact ⟨_, rfl, (by first | omega | (dsimp only; omega)), hf.sub ⟨rfl, rfl, rfl, trivial⟩, hm.pick [] (by decide) rfl⟩
   ·
    clear hf hm
    rintro i0_1 xs0_1 a w ⟨hn0_1, hf, hm⟩ hi0_1 hi0_2 rfl
    replace hq := sum_l hq
    refine wp_seq (wp_seq (wp_region_lit (st_y hf rfl rfl rfl (y_move rfl rfl) fun a hf => st_y hf rfl rfl rfl (y_move rfl rfl) fun a hf => st_y hf rfl rfl rfl (y_len_slice st_22.und rfl rfl) fun a hf => st_y hf rfl rfl rfl (y_lss rfl rfl rfl) fun a hf => st_end (x_then_n ?_))))
    refine cond_f hf rfl (decide_eq_false (by omega)) (wp_exit (x_then_exit (x_then_exit (x_blk_hit (x_then_n (wp_seq (wp_region_lit (st_y hf rfl rfl rfl (y_move rfl rfl) fun a hf => ?_))))))))
    refine st_y hf rfl rfl rfl (y_assign rfl rfl) fun a hf => st_end (x_then_n (wp_ret ?_))
    obtain rfl := Option.some.inj hq
    refine ret_tmp hf Tryz.results23 rfl ?_
    exact ⟨rfl, hm.below⟩

theorem laws_szUnit_ok (w0 : World) (a_ : Unit_) (v1 : Value) (h1 : GT.rep (hp w0) [v1] a_.codes) (left : Int) (r : Int) (hq : laws_szUnit a_ left = some r) :
    Con Tryz.prog 6 [(.agg #[v1]), (.int .i64 (left))] w0 (fun v w' => v = (.int .i64 (r)) ∧ Below w0.heap.size w0 w') := by
  unfold laws_szUnit at hq
  refine con_body (l := [(0, (.agg #[v1])), (1, (.int .i64 (left)))]) Tryz.func6 rfl Tryz.ntmps6 (Args.get ⟨rfl, rfl, trivial⟩) rfl ?_
  intro a hf
  have hm := Mem.start w0
  refine wp_seq (wp_region_lit (st_ef hf rfl rfl rfl (e_box hf hm rfl rfl rfl) ?_))
  clear hf a; rintro _ w0_1 a ⟨b0_1, rfl, hm⟩ hf
  refine st_y hf rfl rfl rfl (y_assign rfl rfl) fun a hf => st_end (x_then_n (wp_seq (wp_region_lit (st_y hf rfl rfl rfl (y_fieldAddr fo_24_0 rfl rfl) fun a hf => st_y hf rfl rfl rfl (y_load1 Tryz.isAgg22 rfl rfl (hm.blk_cell 0 rfl rfl)) fun a hf => st_y hf rfl rfl rfl (y_move rfl rfl) fun a hf => ?_))))
  obtain ⟨r0_1, hx0_1, hq⟩ := bnd hq
  refine st_ef hf rfl rfl rfl (e_call hf rfl Tryz.call23 rfl (laws_szCodeS_ok _ a_.codes v1 (hm.now h1) left _ hx0_1)) ?_
  clear hf a; rintro v0_1 w0_2 a ho0_1 hf
  obtain ⟨rfl, hB⟩ := ho0_1
  replace hm := hm.below' hB; clear hB
  refine st_y hf rfl rfl rfl (y_assign rfl rfl) fun a hf => st_end (x_then_n (wp_seq (wp_seq (wp_region_lit (st_y hf rfl rfl rfl (y_move rfl rfl) fun a hf => st_y hf rfl rfl rfl (y_lss rfl rfl rfl) fun a hf => st_end ?_)))))
  refine x_then_n ?_
  rcases bcases (decide (r0_1 < 0)) with h0_1 | h0_1
  ·
   replace hq := (ite_t h0_1).symm.trans hq
   have h0_2 := of_decide_eq_true h0_1
   refine cond_t hf rfl h0_1 (wp_seq (wp_region_lit (st_y hf rfl rfl rfl (y_assign rfl rfl) fun a hf => st_end (x_then_n (wp_ret (x_then_ret ?_))))))
   obtain rfl := Option.some.inj hq
   refine ret_tmp hf Tryz.results6 rfl ?_
   exact ⟨rfl, hm.below⟩
  ·
   replace hq := (ite_f h0_1).symm.trans hq
   have h0_3 := of_decide_eq_false h0_1
   refine cond_f hf rfl h0_1 (wp_skip (x_then_n (wp_seq (wp_region_lit (st_y hf rfl rfl rfl (y_move rfl rfl) fun a hf => st_y hf rfl rfl rfl (y_assign rfl rfl) fun a hf => st_end (x_then_n ?_))))))
   refine wp_ret ?_
   obtain rfl := Option.some.inj hq
   refine ret_tmp hf Tryz.results6 rfl ?_
   exact ⟨rfl, hm.below⟩

theorem laws_toIntS_ok (w0 : World) (a_ : List Int) (v1 : Value) (h1 : GT.rep (hp w0) [v1] a_) (r : (List Int)) (hq : laws_toIntS a_ = some r) :
    Con Tryz.prog 9 [v1] w0 (fun v w' => ∃ (x1 : Value), v = x1 ∧ Mem w0 (hp w0) w' [ow [x1] r]) := by
  unfold laws_toIntS at hq
  refine con_body (l := [(0, v1)]) Tryz.func9 rfl Tryz.ntmps9 (Args.get ⟨rfl, trivial⟩) rfl ?_
  intro a hf
  have hm := Mem.start w0
  refine wp_seq (wp_region_lit (st_y hf rfl rfl rfl (y_assign rfl rfl) fun a hf => st_end (x_then_n (wp_seq (wp_region_lit (st_y hf rfl rfl rfl (y_move rfl rfl) fun a hf => ?_))))))
  obtain ⟨p0_1, c0_1, he, hl0_1⟩ := ro_slice h1
  subst he
  refine st_y hf rfl rfl rfl (y_len_slice st_25.und rfl rfl) fun a hf => ?_
  obtain ⟨ys0_1, hx0_1, hq⟩ := bnd hq
  obtain ⟨⟨h0_11, h0_12⟩, h0_1e⟩ := makeM_some.1 hx0_1
  refine st_ef hf rfl rfl rfl (e_make (x0 := (0 : Int)) et_25 (fun _ => (Flat.own_iff.2 rfl)) hf hm rfl rfl rfl h0_11 (Int.le_refl _) h0_12) ?_
  clear hf a; rintro v0_1 w0_1 a hm hf
  rw [h0_1e] at hm
  have h0_1l : (ys0_1.length : Int) = (a_.length : Int) := by rw [← h0_1e]; simp only [List.length_replicate]; omega
  refine st_y hf rfl rfl rfl (y_assign rfl rfl) fun a hf => st_end (x_then_n (wp_seq (wp_seq (wp_region_lit (st_y hf rfl rfl rfl (y_assign rfl rfl) fun a hf => st_end (x_then_n ?_))))))
  obtain ⟨p0_2, c0_2, he, hl0_2⟩ := ro_slice (hm.ow_rep 0 rfl)
  subst he
  refine wp_block ?_
  obtain ⟨r0_1, hl0_3, hq⟩ := bnd hq
  refine wp_forN _ (fun i1_1 xs1_1 a w => Fr 22 [(0, (.slice p0_1 a_.length c0_1)), (3, (.slice p0_2 ys0_1.length c0_2)), (4, (.int .i64 (i1_1)))] a ∧ Mem w0 (hp w0) w [ow [(.slice p0_2 ys0_1.length c0_2)] xs1_1]) (0) ((a_.length : Int)) hl0_3 ?_ ?_ ?_
  ·
   exact ⟨hf.sub ⟨rfl, rfl, rfl, trivial⟩, hm.pick [0] (by decide) rfl⟩
  ·
   clear hf hm
   rintro i1_1 xs1_1 a w ⟨hf, hm⟩ hi1_1 hi1_2 q0_1 hb0_1 ho0_1
   refine wp_seq (wp_seq (wp_region_lit (st_y hf rfl rfl rfl (y_move rfl rfl) fun a hf => st_y hf rfl rfl rfl (y_move rfl rfl) fun a hf => st_y hf rfl rfl rfl (y_len_slice st_25.und rfl rfl) fun a hf => st_y hf rfl rfl rfl (y_lss rfl rfl rfl) fun a hf => st_end (x_then_n ?_))))
   refine cond_t hf rfl (decide_eq_true (by omega)) (wp_skip (x_then_n (wp_seq (wp_block (wp_region_lit (st_y hf rfl rfl rfl (y_move rfl rfl) fun a hf => st_y hf rfl rfl rfl (y_move rfl rfl) fun a hf => st_y hf rfl rfl rfl (y_move rfl rfl) fun a hf => ?_))))))
   refine st_y hf rfl rfl rfl (y_move rfl rfl) fun a hf => ?_
   obtain ⟨x1_1, hx1_1, hb0_1⟩ := bnd hb0_1
   obtain ⟨h1_1, hx1_2⟩ := getI_some.1 hx1_1
   obtain ⟨b1_1, o1_1, c1_1, he⟩ := idx_form h1 hx1_2
   simp only [Value.slice.injEq, Option.some.injEq] at he; obtain ⟨rfl, _, rfl⟩ := he
   refine st_y hf rfl rfl rfl (y_indexAddr st_25 rfl rfl rfl h1_1 (idx_lt hx1_2)) fun a hf => st_y hf rfl rfl rfl (y_load1 Tryz.isAgg3 rfl rfl ((flat_cells (cs := [(.int .i64 (x1_1))]) (hm.now h1) hx1_2 rfl).cell (j := 0) rfl)) fun a hf => ?_
   obtain ⟨x1_2, hx1_3, hb0_1⟩ := bnd hb0_1
   obtain ⟨h1_2, hx1_4⟩ := getI_some.1 hx1_3
   obtain ⟨b1_2, o1_2, c1_2, he⟩ := idx_form (hm.ow_rep 0 rfl) hx1_4
   simp only [Value.slice.injEq, Option.some.injEq] at he; obtain ⟨rfl, _, rfl⟩ := he
   have hL1_1 := rep_slice_len (hm.ow_rep 0 rfl)
   refine st_y hf rfl rfl rfl (y_indexAddr st_25 rfl rfl rfl h1_2 (idx_lt2 hx1_4 hL1_1)) fun a hf => st_ef0 hf rfl rfl (e_setElem (x1 := x1_1) (j := 0) (vs := [(.int .i64 (x1_1))]) 0 hf hm rfl hx1_4 rfl Tryz.sizeOf3 rfl rfl rfl (one_cons rfl one_nil) rfl rfl) ?_
   clear hf a; rintro _ w1_1 a hm hf
   have hx1_5 := List.getElem?_set_self (a := x1_1) (idx_lt hx1_4)
   refine st_end (x_blk_n (x_then_n (wp_region_lit (st_y hf rfl rfl rfl (y_move rfl rfl) fun a hf => st_y hf rfl rfl rfl (y_add64 rfl rfl rfl (by omega) (by omega)) fun a hf => st_y hf rfl rfl rfl (y_assign rfl rfl) fun a hf => st_end (x_then_n ?_)))))
   obtain rfl := Option.some.inj hb0_1
   exact ⟨_, rfl, hf.sub ⟨rfl, rfl, rfl, trivial⟩, hm.pick [0] (by decide) rfl⟩
  ·
   clear hf hm
   rintro i0_1 xs0_1 a w ⟨hf, hm⟩ hi0_1 hi0_2 rfl
   replace hq := sum_l hq
   refine wp_seq (wp_seq (wp_region_lit (st_y hf rfl rfl rfl (y_move rfl rfl) fun a hf => st_y hf rfl rfl rfl (y_move rfl rfl) fun a hf => st_y hf rfl rfl rfl (y_len_slice st_25.und rfl rfl) fun a hf => st_y hf rfl rfl rfl (y_lss rfl rfl rfl) fun a hf => st_end (x_then_n ?_))))
   refine cond_f hf rfl (decide_eq_false (by omega)) (wp_exit (x_then_exit (x_then_exit (x_blk_hit (x_then_n (wp_seq (wp_region_lit (st_y hf rfl rfl rfl (y_move rfl rfl) fun a hf => ?_))))))))
   refine st_y hf rfl rfl rfl (y_assign rfl rfl) fun a hf => st_end (x_then_n (wp_ret ?_))
   obtain rfl := Option.some.inj hq
   refine ret_tmp hf Tryz.results9 rfl ?_
   exact ⟨(.slice p0_2 ys0_1.length c0_2), rfl, hm.pick [0] (by decide) rfl⟩

theorem laws_toPhi_ok (w0 : World) (a_ : Phi_) (v1 : Value) (h1 : GT.rep (hp w0) [v1] a_.args) (r : Phi_) (hq : laws_toPhi a_ = some r) :
    Con Tryz.prog 115 [(.agg #[(.int .i64 (a_.to)), v1])] w0 (fun v w' => ∃ (x1 : Value), v = (.agg #[(.int .i64 (r.to)), x1]) ∧ Mem w0 (hp w0) w' [ow [x1] r.args]) := by
  unfold laws_toPhi at hq
  refine con_body (l := [(0, (.agg #[(.int .i64 (a_.to)), v1]))]) Tryz.func115 rfl Tryz.ntmps115 (Args.get ⟨rfl, trivial⟩) rfl ?_
  intro a hf
  have hm := Mem.start w0
  refine wp_seq (wp_region_lit (st_ef hf rfl rfl rfl (e_box hf hm rfl rfl rfl) ?_))
  clear hf a; rintro _ w0_1 a ⟨b0_1, rfl, hm⟩ hf
  refine st_ef hf rfl rfl rfl (e_alloc hm Tryz.zeroValue102 rfl rfl) ?_
  clear hf a; rintro _ w0_2 a ⟨b0_2, rfl, hm⟩ hf
  refine st_end (x_then_n (wp_seq (wp_region_lit (st_ef hf rfl rfl rfl (e_alloc hm Tryz.zeroValue102 rfl rfl) ?_))))
  clear hf a; rintro _ w0_3 a ⟨b0_3, rfl, hm⟩ hf
  refine st_end (x_then_n (wp_seq (wp_region_lit (st_y hf rfl rfl rfl (y_fieldAddr fo_135_0 rfl rfl) fun a hf => st_y hf rfl rfl rfl (y_load1 Tryz.isAgg3 rfl rfl (hm.blk_cell 2 rfl rfl)) fun a hf => st_y hf rfl rfl rfl (y_fieldAddr fo_102_0 rfl rfl) fun a hf => st_ef0 hf rfl rfl (e_store1 0 hf hm rfl Tryz.sizeOf3 rfl rfl rfl rfl rfl) ?_))))
  clear hf a; rintro _ w0_4 a hm hf
  refine st_end (x_then_n (wp_seq (wp_region_lit (st_y hf rfl rfl rfl (y_fieldAddr fo_135_1 rfl rfl) fun a hf => st_y hf rfl rfl rfl (y_load1 Tryz.isAgg25 rfl rfl (hm.blk_cell 2 rfl rfl)) fun a hf => ?_))))
  obtain ⟨r0_1, hx0_1, hq⟩ := bnd hq
  refine st_ef hf rfl rfl rfl (e_call hf rfl Tryz.call9 rfl (laws_toIntS_ok _ a_.args v1 (hm.now h1) _ hx0_1)) ?_
  clear hf a; rintro v0_1 w0_5 a ho0_1 hf
  obtain ⟨_, rfl, hB⟩ := ho0_1
  replace hm := hm.give hB; clear hB
  refine st_y hf rfl rfl rfl (y_fieldAddr fo_102_1 rfl rfl) fun a hf => st_ef0 hf rfl rfl (e_store1 1 hf hm rfl Tryz.sizeOf25 rfl rfl rfl (rep_one (hm.ow_rep 0 rfl)) rfl) ?_
  clear hf a; rintro _ w0_6 a hm hf
  refine st_end (x_then_n (wp_seq (wp_region_lit (st_y hf rfl rfl rfl (y_loadN (cs := [(.int .i64 (a_.to)), v0_1]) Tryz.isAgg102 Tryz.sizeOf102 rfl rfl (hm.blk_at 1 rfl)) fun a hf => st_ef0 hf rfl rfl (e_storeN 2 hf hm rfl Tryz.sizeOf102 rfl rfl rfl (one_cons rfl (one_cons (rep_one (hm.ow_rep 0 rfl)) one_nil)) rfl rfl) ?_))))
  clear hf a; rintro _ w0_7 a hm hf
  refine st_end (x_then_n (wp_ret ?_))
  obtain rfl := Option.some.inj hq
  refine ret_cell 2 hf Tryz.results115 hm rfl rfl Tryz.isAgg102 Tryz.sizeOf102 ?_
  exact ⟨v0_1, rfl, hm.pick [0] (by decide) rfl⟩

theorem laws_toPhiS_ok (w0 : World) (a_ : List Phi_) (v1 : Value) (h1 : GT.rep (hp w0) [v1] a_) (r : (List Phi_)) (hq : laws_toPhiS a_ = some r) :
    Con Tryz.prog 98 [v1] w0 (fun v w' => ∃ (x1 : Value), v = x1 ∧ Mem w0 (hp w0) w' [ow [x1] r]) := by
  unfold laws_toPhiS at hq
  refine con_body (l := [(0, v1)]) Tryz.func98 rfl Tryz.ntmps98 (Args.get ⟨rfl, trivial⟩) rfl ?_
  intro a hf
  have hm := Mem.start w0
  refine wp_seq (wp_region_lit (st_y hf rfl rfl rfl (y_assign rfl rfl) fun a hf => st_end (x_then_n (wp_seq (wp_region_lit (st_y hf rfl rfl rfl (y_move rfl rfl) fun a hf => ?_))))))
  obtain ⟨p0_1, c0_1, he, hl0_1⟩ := ro_slice h1
  subst he
  refine st_y hf rfl rfl rfl (y_len_slice st_107.und rfl rfl) fun a hf => ?_
  obtain ⟨ys0_1, hx0_1, hq⟩ := bnd hq
  obtain ⟨⟨h0_11, h0_12⟩, h0_1e⟩ := makeM_some.1 hx0_1
  refine st_ef hf rfl rfl rfl (e_make (x0 := ((⟨0, []⟩ : Phi_) : Phi_)) et_83 (fun _ => ⟨[(.int .i64 (0))], [(.slice none 0 0)], rfl, fun _ => False, fun _ => False, fun _ h => h.elim, fun _ h => h.elim, fun _ h => h.elim, (Flat.own_iff.2 rfl), (own_list.2 (.inl ⟨rfl, rfl⟩))⟩) hf hm rfl rfl rfl h0_11 (Int.le_refl _) h0_12) ?_
  clear hf a; rintro v0_1 w0_1 a hm hf
  rw [h0_1e] at hm
  have h0_1l : (ys0_1.length : Int) = (a_.length : Int) := by rw [← h0_1e]; simp only [List.length_replicate]; omega
  refine st_y hf rfl rfl rfl (y_assign rfl rfl) fun a hf => st_end (x_then_n (wp_seq (wp_seq (wp_region_lit (st_y hf rfl rfl rfl (y_assign rfl rfl) fun a hf => st_end (x_then_n ?_))))))
  obtain ⟨p0_2, c0_2, he, hl0_2⟩ := ro_slice (hm.ow_rep 0 rfl)
  subst he
  refine wp_block ?_
  obtain ⟨r0_1, hl0_3, hq⟩ := bnd hq
  refine wp_forN _ (fun i1_1 xs1_1 a w => Fr 23 [(0, (.slice p0_1 a_.length c0_1)), (3, (.slice p0_2 ys0_1.length c0_2)), (4, (.int .i64 (i1_1)))] a ∧ Mem w0 (hp w0) w [ow [(.slice p0_2 ys0_1.length c0_2)] xs1_1]) (0) ((a_.length : Int)) hl0_3 ?_ ?_ ?_
  ·
   exact ⟨hf.sub ⟨rfl, rfl, rfl, trivial⟩, hm.pick [0] (by decide) rfl⟩
  ·
   clear hf hm
   rintro i1_1 xs1_1 a w ⟨hf, hm⟩ hi1_1 hi1_2 q0_1 hb0_1 ho0_1
   refine wp_seq (wp_seq (wp_region_lit (st_y hf rfl rfl rfl (y_move rfl rfl) fun a hf => st_y hf rfl rfl rfl (y_move rfl rfl) fun a hf => st_y hf rfl rfl rfl (y_len_slice st_107.und rfl rfl) fun a hf => st_y hf rfl rfl rfl (y_lss rfl rfl rfl) fun a hf => st_end (x_then_n ?_))))
   refine cond_t hf rfl (decide_eq_true (by omega)) (wp_skip (x_then_n (wp_seq (wp_block (wp_region_lit (st_y hf rfl rfl rfl (y_move rfl rfl) fun a hf => st_y hf rfl rfl rfl (y_move rfl rfl) fun a hf => st_y hf rfl rfl rfl (y_move rfl rfl) fun a hf => ?_))))))
   refine st_y hf rfl rfl rfl (y_move rfl rfl) fun a hf => ?_
   obtain ⟨x1_1, hx1_1, hb0_1⟩ := bnd hb0_1
   obtain ⟨h1_1, hx1_2⟩ := getI_some.1 hx1_1
   obtain ⟨b1_1, o1_1, c1_1, he⟩ := idx_form' h1 hx1_2
   simp only [Value.slice.injEq, Option.some.injEq] at he; obtain ⟨rfl, _, rfl⟩ := he
   obtain ⟨_, _, hc1_1, hr1_1⟩ := ro_get' h1 hx1_2
   obtain ⟨_, _, rfl, rfl, h1_2⟩ := hr1_1
   obtain ⟨v1_1, rfl, -⟩ := id h1_2
   replace h1_2 : GT.rep (hp w0) [v1_1] x1_1.args := h1_2
   replace hc1_1 : CellsAt (hp w0) b1_1 (o1_1 + (i1_1).toNat * 2) [(.int .i64 (x1_1.to)), v1_1] := hc1_1
   refine st_y hf rfl rfl rfl (y_indexAddr st_107 rfl rfl rfl h1_1 (idx_lt hx1_2)) fun a hf => st_y hf rfl rfl rfl (y_loadN (cs := [(.int .i64 (x1_1.to)), v1_1]) Tryz.isAgg135 Tryz.sizeOf135 rfl rfl (hc1_1.mono hm.lez)) fun a hf => ?_
   obtain ⟨r1_1, hx1_3, hb0_1⟩ := bnd hb0_1
   refine st_ef hf rfl rfl rfl (e_call hf rfl Tryz.call115 rfl (laws_toPhi_ok _ x1_1 v1_1 (hm.now h1_2) _ hx1_3)) ?_
   clear hf a; rintro v1_2 w1_1 a ho1_1 hf
   obtain ⟨v1_3, rfl, hB⟩ := ho1_1
   replace hm := hm.give hB; clear hB
   obtain ⟨x1_2, hx1_4, hb0_1⟩ := bnd hb0_1
   obtain ⟨h1_3, hx1_5⟩ := getI_some.1 hx1_4
   obtain ⟨b1_2, o1_2, c1_2, he⟩ := idx_form' (hm.ow_rep 1 rfl) hx1_5
   simp only [Value.slice.injEq, Option.some.injEq] at he; obtain ⟨rfl, _, rfl⟩ := he
   obtain ⟨_, _, hc1_2, hr1_2⟩ := ro_get' (hm.ow_rep 1 rfl) hx1_5
   obtain ⟨_, _, rfl, rfl, h1_4⟩ := hr1_2
   obtain ⟨v1_4, rfl, -⟩ := id h1_4
   replace h1_4 : GT.rep (hp _) [v1_4] x1_2.args := h1_4
   replace hc1_2 : CellsAt (hp _) b1_2 (o1_2 + (i1_1).toNat * 2) [(.int .i64 (x1_2.to)), v1_4] := hc1_2
   have hL1_1 := rep_slice_len (hm.ow_rep 1 rfl)
   refine st_y hf rfl rfl rfl (y_indexAddr st_83 rfl rfl rfl h1_3 (idx_lt2 hx1_5 hL1_1)) fun a hf => ?_
   replace hm := hm.own0 (c := [(.int .i64 (r1_1.to))]) (x := (r1_1.to : Int)) (fun h => Flat.own_iff.2 rfl)
   replace hm := (hm.pair (x := (r1_1.to : Int)) (y := (r1_1.args : List Int)) 0 1 (by decide) rfl rfl).pick (L' := [ow [(.int .i64 (r1_1.to)), v1_3] ((r1_1.to, r1_1.args) : Int × (List Int)), ow [(.slice (some ⟨b1_2, o1_2, none⟩) ys0_1.length c0_2)] xs1_1]) [0, 2] (by decide) rfl
   replace hm := hm.imp (c' := ow [(.int .i64 (r1_1.to)), v1_3] (r1_1 : Phi_)) 0 rfl (fun F h0 => h0)
   replace hm := (hm.both 1 0 (by decide) rfl rfl).pick (L' := [both (ow [(.slice (some ⟨b1_2, o1_2, none⟩) ys0_1.length c0_2)] xs1_1) (ow [(.int .i64 (r1_1.to)), v1_3] (r1_1 : Phi_))]) [1] (by decide) rfl
   refine st_ef0 hf rfl rfl (e_putElem (x1 := (r1_1 : Phi_)) (vs := [(.int .i64 (r1_1.to)), v1_3]) 0 hf hm rfl hx1_5 rfl Tryz.sizeOf102 rfl rfl rfl rfl) ?_
   clear hf a; rintro _ w1_2 a hm hf
   have hx1_6 := List.getElem?_set_self (a := (r1_1 : Phi_)) (idx_lt hx1_5)
   refine st_end (x_blk_n (x_then_n (wp_region_lit (st_y hf rfl rfl rfl (y_move rfl rfl) fun a hf => st_y hf rfl rfl rfl (y_add64 rfl rfl rfl (by omega) (by omega)) fun a hf => st_y hf rfl rfl rfl (y_assign rfl rfl) fun a hf => st_end (x_then_n ?_)))))
   obtain rfl := Option.some.inj hb0_1
   exact ⟨_, rfl, hf.sub ⟨rfl, rfl, rfl, trivial⟩, hm.pick [0] (by decide) rfl⟩
  ·
   clear hf hm
   rintro i0_1 xs0_1 a w ⟨hf, hm⟩ hi0_1 hi0_2 rfl
   replace hq := sum_l hq
   refine wp_seq (wp_seq (wp_region_lit (st_y hf rfl rfl rfl (y_move rfl rfl) fun a hf => st_y hf rfl rfl rfl (y_move rfl rfl) fun a hf => st_y hf rfl rfl rfl (y_len_slice st_107.und rfl rfl) fun a hf => st_y hf rfl rfl rfl (y_lss rfl rfl rfl) fun a hf => st_end (x_then_n ?_))))
   refine cond_f hf rfl (decide_eq_false (by omega)) (wp_exit (x_then_exit (x_then_exit (x_blk_hit (x_then_n (wp_seq (wp_region_lit (st_y hf rfl rfl rfl (y_move rfl rfl) fun a hf => ?_))))))))
   refine st_y hf rfl rfl rfl (y_assign rfl rfl) fun a hf => st_end (x_then_n (wp_ret ?_))
   obtain rfl := Option.some.inj hq
   refine ret_tmp hf Tryz.results98 rfl ?_
   exact ⟨(.slice p0_2 ys0_1.length c0_2), rfl, hm.pick [0] (by decide) rfl⟩

theorem laws_toIns_ok (w0 : World) (a_ : Ins_) (v1 : Value) (h1 : GT.rep (hp w0) [v1] a_.args) (r : Ins_) (hq : laws_toIns a_ = some r) :
    Con Tryz.prog 116 [(.agg #[(.int .i64 (a_.op)), (.int .i64 (a_.to)), v1, (.int .i64 (a_.n_))])] w0 (fun v w' => ∃ (x1 : Value), v = (.agg #[(.int .i64 (r.op)), (.int .i64 (r.to)), x1, (.int .i64 (r.n_))]) ∧ Mem w0 (hp w0) w' [ow [x1] r.args]) := by
  unfold laws_toIns at hq
  refine con_body (l := [(0, (.agg #[(.int .i64 (a_.op)), (.int .i64 (a_.to)), v1, (.int .i64 (a_.n_))]))]) Tryz.func116 rfl Tryz.ntmps116 (Args.get ⟨rfl, trivial⟩) rfl ?_
  intro a hf
  have hm := Mem.start w0
  refine wp_seq (wp_region_lit (st_ef hf rfl rfl rfl (e_box hf hm rfl rfl rfl) ?_))
  clear hf a; rintro _ w0_1 a ⟨b0_1, rfl, hm⟩ hf
  refine st_ef hf rfl rfl rfl (e_alloc hm Tryz.zeroValue91 rfl rfl) ?_
  clear hf a; rintro _ w0_2 a ⟨b0_2, rfl, hm⟩ hf
  refine st_end (x_then_n (wp_seq (wp_region_lit (st_ef hf rfl rfl rfl (e_alloc hm Tryz.zeroValue91 rfl rfl) ?_))))
  clear hf a; rintro _ w0_3 a ⟨b0_3, rfl, hm⟩ hf
  refine st_end (x_then_n (wp_seq (wp_region_lit (st_y hf rfl rfl rfl (y_fieldAddr fo_137_0 rfl rfl) fun a hf => st_y hf rfl rfl rfl (y_load1 Tryz.isAgg3 rfl rfl (hm.blk_cell 2 rfl rfl)) fun a hf => st_y hf rfl rfl rfl (y_fieldAddr fo_91_0 rfl rfl) fun a hf => st_ef0 hf rfl rfl (e_store1 0 hf hm rfl Tryz.sizeOf3 rfl rfl rfl rfl rfl) ?_))))
  clear hf a; rintro _ w0_4 a hm hf
  refine st_end (x_then_n (wp_seq (wp_region_lit (st_y hf rfl rfl rfl (y_fieldAddr fo_137_1 rfl rfl) fun a hf => st_y hf rfl rfl rfl (y_load1 Tryz.isAgg3 rfl rfl (hm.blk_cell 2 rfl rfl)) fun a hf => st_y hf rfl rfl rfl (y_fieldAddr fo_91_1 rfl rfl) fun a hf => st_ef0 hf rfl rfl (e_store1 0 hf hm rfl Tryz.sizeOf3 rfl rfl rfl rfl rfl) ?_))))
  clear hf a; rintro _ w0_5 a hm hf
  refine st_end (x_then_n (wp_seq (wp_region_lit (st_y hf rfl rfl rfl (y_fieldAddr fo_137_2 rfl rfl) fun a hf => st_y hf rfl rfl rfl (y_load1 Tryz.isAgg25 rfl rfl (hm.blk_cell 2 rfl rfl)) fun a hf => ?_))))
  obtain ⟨r0_1, hx0_1, hq⟩ := bnd hq
  refine st_ef hf rfl rfl rfl (e_call hf rfl Tryz.call9 rfl (laws_toIntS_ok _ a_.args v1 (hm.now h1) _ hx0_1)) ?_
  clear hf a; rintro v0_1 w0_6 a ho0_1 hf
  obtain ⟨_, rfl, hB⟩ := ho0_1
  replace hm := hm.give hB; clear hB
  refine st_y hf rfl rfl rfl (y_fieldAddr fo_91_2 rfl rfl) fun a hf => st_ef0 hf rfl rfl (e_store1 1 hf hm rfl Tryz.sizeOf25 rfl rfl rfl (rep_one (hm.ow_rep 0 rfl)) rfl) ?_
  clear hf a; rintro _ w0_7 a hm hf
  refine st_end (x_then_n (wp_seq (wp_region_lit (st_y hf rfl rfl rfl (y_fieldAddr fo_137_3 rfl rfl) fun a hf => st_y hf rfl rfl rfl (y_load1 Tryz.isAgg3 rfl rfl (hm.blk_cell 3 rfl rfl)) fun a hf => st_y hf rfl rfl rfl (y_fieldAddr fo_91_3 rfl rfl) fun a hf => st_ef0 hf rfl rfl (e_store1 1 hf hm rfl Tryz.sizeOf3 rfl rfl rfl rfl rfl) ?_))))
  clear hf a; rintro _ w0_8 a hm hf
  refine st_end (x_then_n (wp_seq (wp_region_lit (st_y hf rfl rfl rfl (y_loadN (cs := [(.int .i64 (a_.op)), (.int .i64 (a_.to)), v0_1, (.int .i64 (a_.n_))]) Tryz.isAgg91 Tryz.sizeOf91 rfl rfl (hm.blk_at 1 rfl)) fun a hf => st_ef0 hf rfl rfl (e_storeN 2 hf hm rfl Tryz.sizeOf91 rfl rfl rfl (one_cons rfl (one_cons rfl (one_cons (rep_one (hm.ow_rep 0 rfl)) (one_cons rfl one_nil)))) rfl rfl) ?_))))
  clear hf a; rintro _ w0_9 a hm hf
  refine st_end (x_then_n (wp_ret ?_))
  obtain rfl := Option.some.inj hq
  refine ret_cell 2 hf Tryz.results116 hm rfl rfl Tryz.isAgg91 Tryz.sizeOf91 ?_
  exact ⟨v0_1, rfl, hm.pick [0] (by decide) rfl⟩

theorem laws_toInsS_ok (w0 : World) (a_ : List Ins_) (v1 : Value) (h1 : GT.rep (hp w0) [v1] a_) (r : (List Ins_)) (hq : laws_toInsS a_ = some r) :
    Con Tryz.prog 99 [v1] w0 (fun v w' => ∃ (x1 : Value), v = x1 ∧ Mem w0 (hp w0) w' [ow [x1] r]) := by
  unfold laws_toInsS at hq
  refine con_body (l := [(0, v1)]) Tryz.func99 rfl Tryz.ntmps99 (Args.get ⟨rfl, trivial⟩) rfl ?_
  intro a hf
  have hm := Mem.start w0
  refine wp_seq (wp_region_lit (st_y hf rfl rfl rfl (y_assign rfl rfl) fun a hf => st_end (x_then_n (wp_seq (wp_region_lit (st_y hf rfl rfl rfl (y_move rfl rfl) fun a hf => ?_))))))
  obtain ⟨p0_1, c0_1, he, hl0_1⟩ := ro_slice h1
  subst he
  refine st_y hf rfl rfl rfl (y_len_slice st_108.und rfl rfl) fun a hf => ?_
  obtain ⟨ys0_1, hx0_1, hq⟩ := bnd hq
  obtain ⟨⟨h0_11, h0_12⟩, h0_1e⟩ := makeM_some.1 hx0_1
  refine st_ef hf rfl rfl rfl (e_make (x0 := ((⟨0, 0, [], 0⟩ : Ins_) : Ins_)) et_84 (fun _ => ⟨[(.int .i64 (0))], [(.int .i64 (0)), (.slice none 0 0), (.int .i64 (0))], rfl, fun _ => False, fun _ => False, fun _ h => h.elim, fun _ h => h.elim, fun _ h => h.elim, (Flat.own_iff.2 rfl), ⟨[(.int .i64 (0))], [(.slice none 0 0), (.int .i64 (0))], rfl, fun _ => False, fun _ => False, fun _ h => h.elim, fun _ h => h.elim, fun _ h => h.elim, (Flat.own_iff.2 rfl), ⟨[(.slice none 0 0)], [(.int .i64 (0))], rfl, fun _ => False, fun _ => False, fun _ h => h.elim, fun _ h => h.elim, fun _ h => h.elim, (own_list.2 (.inl ⟨rfl, rfl⟩)), (Flat.own_iff.2 rfl)⟩⟩⟩) hf hm rfl rfl rfl h0_11 (Int.le_refl _) h0_12) ?_
  clear hf a; rintro v0_1 w0_1 a hm hf
  rw [h0_1e] at hm
  have h0_1l : (ys0_1.length : Int) = (a_.length : Int) := by rw [← h0_1e]; simp only [List.length_replicate]; omega
  refine st_y hf rfl rfl rfl (y_assign rfl rfl) fun a hf => st_end (x_then_n (wp_seq (wp_seq (wp_region_lit (st_y hf rfl rfl rfl (y_assign rfl rfl) fun a hf => st_end (x_then_n ?_))))))
  obtain ⟨p0_2, c0_2, he, hl0_2⟩ := ro_slice (hm.ow_rep 0 rfl)
  subst he
  refine wp_block ?_
  obtain ⟨r0_1, hl0_3, hq⟩ := bnd hq
  refine wp_forN _ (fun i1_1 xs1_1 a w => Fr 23 [(0, (.slice p0_1 a_.length c0_1)), (3, (.slice p0_2 ys0_1.length c0_2)), (4, (.int .i64 (i1_1)))] a ∧ Mem w0 (hp w0) w [ow [(.slice p0_2 ys0_1.length c0_2)] xs1_1]) (0) ((a_.length : Int)) hl0_3 ?_ ?_ ?_
  ·
   exact ⟨hf.sub ⟨rfl, rfl, rfl, trivial⟩, hm.pick [0] (by decide) rfl⟩
  ·
   clear hf hm
   rintro i1_1 xs1_1 a w ⟨hf, hm⟩ hi1_1 hi1_2 q0_1 hb0_1 ho0_1
   refine wp_seq (wp_seq (wp_region_lit (st_y hf rfl rfl rfl (y_move rfl rfl) fun a hf => st_y hf rfl rfl rfl (y_move rfl rfl) fun a hf => st_y hf rfl rfl rfl (y_len_slice st_108.und rfl rfl) fun a hf => st_y hf rfl rfl rfl (y_lss rfl rfl rfl) fun a hf => st_end (x_then_n ?_))))
   refine cond_t hf rfl (decide_eq_true (by omega)) (wp_skip (x_then_n (wp_seq (wp_block (wp_region_lit (st_y hf rfl rfl rfl (y_move rfl rfl) fun a hf => st_y hf rfl rfl rfl (y_move rfl rfl) fun a hf => st_y hf rfl rfl rfl (y_move rfl rfl) fun a hf => ?_))))))
   refine st_y hf rfl rfl rfl (y_move rfl rfl) fun a hf => ?_
   obtain ⟨x1_1, hx1_1, hb0_1⟩ := bnd hb0_1
   obtain ⟨h1_1, hx1_2⟩ := getI_some.1 hx1_1
   obtain ⟨b1_1, o1_1, c1_1, he⟩ := idx_form' h1 hx1_2
   simp only [Value.slice.injEq, Option.some.injEq] at he; obtain ⟨rfl, _, rfl⟩ := he
   obtain ⟨_, _, hc1_1, hr1_1⟩ := ro_get' h1 hx1_2
   obtain ⟨_, _, rfl, rfl, _, _, rfl, rfl, _, _, rfl, h1_2, rfl⟩ := hr1_1
   obtain ⟨v1_1, rfl, -⟩ := id h1_2
   replace h1_2 : GT.rep (hp w0) [v1_1] x1_1.args := h1_2
   replace hc1_1 : CellsAt (hp w0) b1_1 (o1_1 + (i1_1).toNat * 4) [(.int .i64 (x1_1.op)), (.int .i64 (x1_1.to)), v1_1, (.int .i64 (x1_1.n_))] := hc1_1
   refine st_y hf rfl rfl rfl (y_indexAddr st_108 rfl rfl rfl h1_1 (idx_lt hx1_2)) fun a hf => st_y hf rfl rfl rfl (y_loadN (cs := [(.int .i64 (x1_1.op)), (.int .i64 (x1_1.to)), v1_1, (.int .i64 (x1_1.n_))]) Tryz.isAgg137 Tryz.sizeOf137 rfl rfl (hc1_1.mono hm.lez)) fun a hf => ?_
   obtain ⟨r1_1, hx1_3, hb0_1⟩ := bnd hb0_1
   refine st_ef hf rfl rfl rfl (e_call hf rfl Tryz.call116 rfl (laws_toIns_ok _ x1_1 v1_1 (hm.now h1_2) _ hx1_3)) ?_
   clear hf a; rintro v1_2 w1_1 a ho1_1 hf
   obtain ⟨v1_3, rfl, hB⟩ := ho1_1
   replace hm := hm.give hB; clear hB
   obtain ⟨x1_2, hx1_4, hb0_1⟩ := bnd hb0_1
   obtain ⟨h1_3, hx1_5⟩ := getI_some.1 hx1_4
   obtain ⟨b1_2, o1_2, c1_2, he⟩ := idx_form' (hm.ow_rep 1 rfl) hx1_5
   simp only [Value.slice.injEq, Option.some.injEq] at he; obtain ⟨rfl, _, rfl⟩ := he
   obtain ⟨_, _, hc1_2, hr1_2⟩ := ro_get' (hm.ow_rep 1 rfl) hx1_5
   obtain ⟨_, _, rfl, rfl, _, _, rfl, rfl, _, _, rfl, h1_4, rfl⟩ := hr1_2
   obtain ⟨v1_4, rfl, -⟩ := id h1_4
   replace h1_4 : GT.rep (hp _) [v1_4] x1_2.args := h1_4
   replace hc1_2 : CellsAt (hp _) b1_2 (o1_2 + (i1_1).toNat * 4) [(.int .i64 (x1_2.op)), (.int .i64 (x1_2.to)), v1_4, (.int .i64 (x1_2.n_))] := hc1_2
   have hL1_1 := rep_slice_len (hm.ow_rep 1 rfl)
   refine st_y hf rfl rfl rfl (y_indexAddr st_84 rfl rfl rfl h1_3 (idx_lt2 hx1_5 hL1_1)) fun a hf => ?_
   replace hm := hm.own0 (c := [(.int .i64 (r1_1.op))]) (x := (r1_1.op : Int)) (fun h => Flat.own_iff.2 rfl)
   replace hm := hm.own0 (c := [(.int .i64 (r1_1.to))]) (x := (r1_1.to : Int)) (fun h => Flat.own_iff.2 rfl)
   replace hm := hm.own0 (c := [(.int .i64 (r1_1.n_))]) (x := (r1_1.n_ : Int)) (fun h => Flat.own_iff.2 rfl)
   replace hm := (hm.pair (x := (r1_1.args : List Int)) (y := (r1_1.n_ : Int)) 3 0 (by decide) rfl rfl).pick (L' := [ow [(.int .i64 (r1_1.to))] (r1_1.to : Int), ow [(.int .i64 (r1_1.op))] (r1_1.op : Int), ow [v1_3, (.int .i64 (r1_1.n_))] ((r1_1.args, r1_1.n_) : (List Int) × Int), ow [(.slice (some ⟨b1_2, o1_2, none⟩) ys0_1.length c0_2)] xs1_1]) [1, 2, 3, 4] (by decide) rfl
   replace hm := (hm.pair (x := (r1_1.to : Int)) (y := ((r1_1.args, r1_1.n_) : (List Int) × Int)) 0 2 (by decide) rfl rfl).pick (L' := [ow [(.int .i64 (r1_1.to)), v1_3, (.int .i64 (r1_1.n_))] ((r1_1.to, (r1_1.args, r1_1.n_)) : Int × (List Int) × Int), ow [(.int .i64 (r1_1.op))] (r1_1.op : Int), ow [(.slice (some ⟨b1_2, o1_2, none⟩) ys0_1.length c0_2)] xs1_1]) [0, 1, 3] (by decide) rfl
   replace hm := (hm.pair (x := (r1_1.op : Int)) (y := ((r1_1.to, (r1_1.args, r1_1.n_)) : Int × (List Int) × Int)) 1 0 (by decide) rfl rfl).pick (L' := [ow [(.int .i64 (r1_1.op)), (.int .i64 (r1_1.to)), v1_3, (.int .i64 (r1_1.n_))] ((r1_1.op, (r1_1.to, (r1_1.args, r1_1.n_))) : Int × Int × (List Int) × Int), ow [(.slice (some ⟨b1_2, o1_2, none⟩) ys0_1.length c0_2)] xs1_1]) [1, 2] (by decide) rfl
   replace hm := hm.imp (c' := ow [(.int .i64 (r1_1.op)), (.int .i64 (r1_1.to)), v1_3, (.int .i64 (r1_1.n_))] (r1_1 : Ins_)) 0 rfl (fun F h0 => h0)
   replace hm := (hm.both 1 0 (by decide) rfl rfl).pick (L' := [both (ow [(.slice (some ⟨b1_2, o1_2, none⟩) ys0_1.length c0_2)] xs1_1) (ow [(.int .i64 (r1_1.op)), (.int .i64 (r1_1.to)), v1_3, (.int .i64 (r1_1.n_))] (r1_1 : Ins_))]) [1] (by decide) rfl
   refine st_ef0 hf rfl rfl (e_putElem (x1 := (r1_1 : Ins_)) (vs := [(.int .i64 (r1_1.op)), (.int .i64 (r1_1.to)), v1_3, (.int .i64 (r1_1.n_))]) 0 hf hm rfl hx1_5 rfl Tryz.sizeOf91 rfl rfl rfl rfl) ?_
   clear hf a; rintro _ w1_2 a hm hf
   have hx1_6 := List.getElem?_set_self (a := (r1_1 : Ins_)) (idx_lt hx1_5)
   refine st_end (x_blk_n (x_then_n (wp_region_lit (st_y hf rfl rfl rfl (y_move rfl rfl) fun a hf => st_y hf rfl rfl rfl (y_add64 rfl rfl rfl (by omega) (by omega)) fun a hf => st_y hf rfl rfl rfl (y_assign rfl rfl) fun a hf => st_end (x_then_n ?_)))))
   obtain rfl := Option.some.inj hb0_1
   exact ⟨_, rfl, hf.sub ⟨rfl, rfl, rfl, trivial⟩, hm.pick [0] (by decide) rfl⟩
  ·
   clear hf hm
   rintro i0_1 xs0_1 a w ⟨hf, hm⟩ hi0_1 hi0_2 rfl
   replace hq := sum_l hq
   refine wp_seq (wp_seq (wp_region_lit (st_y hf rfl rfl rfl (y_move rfl rfl) fun a hf => st_y hf rfl rfl rfl (y_move rfl rfl) fun a hf => st_y hf rfl rfl rfl (y_len_slice st_108.und rfl rfl) fun a hf => st_y hf rfl rfl rfl (y_lss rfl rfl rfl) fun a hf => st_end (x_then_n ?_))))
   refine cond_f hf rfl (decide_eq_false (by omega)) (wp_exit (x_then_exit (x_then_exit (x_blk_hit (x_then_n (wp_seq (wp_region_lit (st_y hf rfl rfl rfl (y_move rfl rfl) fun a hf => ?_))))))))
   refine st_y hf rfl rfl rfl (y_assign rfl rfl) fun a hf => st_end (x_then_n (wp_ret ?_))
   obtain rfl := Option.some.inj hq
   refine ret_tmp hf Tryz.results99 rfl ?_
   exact ⟨(.slice p0_2 ys0_1.length c0_2), rfl, hm.pick [0] (by decide) rfl⟩

theorem laws_toBlock_ok (w0 : World) (a_ : Block_) (v1 : Value) (h1 : GT.rep (hp w0) [v1] a_.phis) (v2 : Value) (h2 : GT.rep (hp w0) [v2] a_.ins) (v3 : Value) (h3 : GT.rep (hp w0) [v3] a_.next_) (r : Block_) (hq : laws_toBlock a_ = some r) :
    Con Tryz.prog 73 [(.agg #[v1, v2, (.int .i64 (a_.jump)), (.int .i64 (a_.on)), v3])] w0 (fun v w' => ∃ (x1 : Value) (x2 : Value) (x3 : Value), v = (.agg #[x1, x2, (.int .i64 (r.jump)), (.int .i64 (r.on)), x3]) ∧ Mem w0 (hp w0) w' [ow [x1] r.phis, ow [x2] r.ins, ow [x3] r.next_]) := by
  unfold laws_toBlock at hq
  refine con_body (l := [(0, (.agg #[v1, v2, (.int .i64 (a_.jump)), (.int .i64 (a_.on)), v3]))]) Tryz.func73 rfl Tryz.ntmps73 (Args.get ⟨rfl, trivial⟩) rfl ?_
  intro a hf
  have hm := Mem.start w0
  refine wp_seq (wp_region_lit (st_ef hf rfl rfl rfl (e_box hf hm rfl rfl rfl) ?_))
  clear hf a; rintro _ w0_1 a ⟨b0_1, rfl, hm⟩ hf
  refine st_ef hf rfl rfl rfl (e_alloc hm Tryz.zeroValue86 rfl rfl) ?_
  clear hf a; rintro _ w0_2 a ⟨b0_2, rfl, hm⟩ hf
  refine st_end (x_then_n (wp_seq (wp_region_lit (st_ef hf rfl rfl rfl (e_alloc hm Tryz.zeroValue86 rfl rfl) ?_))))
  clear hf a; rintro _ w0_3 a ⟨b0_3, rfl, hm⟩ hf
  refine st_end (x_then_n (wp_seq (wp_region_lit (st_y hf rfl rfl rfl (y_fieldAddr fo_110_0 rfl rfl) fun a hf => st_y hf rfl rfl rfl (y_load1 Tryz.isAgg107 rfl rfl (hm.blk_cell 2 rfl rfl)) fun a hf => ?_))))
  obtain ⟨r0_1, hx0_1, hq⟩ := bnd hq
  refine st_ef hf rfl rfl rfl (e_call hf rfl Tryz.call98 rfl (laws_toPhiS_ok _ a_.phis v1 (hm.now h1) _ hx0_1)) ?_
  clear hf a; rintro v0_1 w0_4 a ho0_1 hf
  obtain ⟨_, rfl, hB⟩ := ho0_1
  replace hm := hm.give hB; clear hB
  refine st_y hf rfl rfl rfl (y_fieldAddr fo_86_0 rfl rfl) fun a hf => st_ef0 hf rfl rfl (e_store1 1 hf hm rfl Tryz.sizeOf83 rfl rfl rfl (rep_one (hm.ow_rep 0 rfl)) rfl) ?_
  clear hf a; rintro _ w0_5 a hm hf
  refine st_end (x_then_n (wp_seq (wp_region_lit (st_y hf rfl rfl rfl (y_fieldAddr fo_110_1 rfl rfl) fun a hf => st_y hf rfl rfl rfl (y_load1 Tryz.isAgg108 rfl rfl (hm.blk_cell 3 rfl rfl)) fun a hf => ?_))))
  obtain ⟨r0_2, hx0_2, hq⟩ := bnd hq
  refine st_ef hf rfl rfl rfl (e_call hf rfl Tryz.call99 rfl (laws_toInsS_ok _ a_.ins v2 (hm.now h2) _ hx0_2)) ?_
  clear hf a; rintro v0_3 w0_6 a ho0_2 hf
  obtain ⟨_, rfl, hB⟩ := ho0_2
  replace hm := hm.give hB; clear hB
  refine st_y hf rfl rfl rfl (y_fieldAddr fo_86_1 rfl rfl) fun a hf => st_ef0 hf rfl rfl (e_store1 2 hf hm rfl Tryz.sizeOf84 rfl rfl rfl (rep_one (hm.ow_rep 0 rfl)) rfl) ?_
  clear hf a; rintro _ w0_7 a hm hf
  refine st_end (x_then_n (wp_seq (wp_region_lit (st_y hf rfl rfl rfl (y_fieldAddr fo_110_2 rfl rfl) fun a hf => st_y hf rfl rfl rfl (y_load1 Tryz.isAgg3 rfl rfl (hm.blk_cell 4 rfl rfl)) fun a hf => st_y hf rfl rfl rfl (y_fieldAddr fo_86_2 rfl rfl) fun a hf => st_ef0 hf rfl rfl (e_store1 2 hf hm rfl Tryz.sizeOf3 rfl rfl rfl rfl rfl) ?_))))
  clear hf a; rintro _ w0_8 a hm hf
  refine st_end (x_then_n (wp_seq (wp_region_lit (st_y hf rfl rfl rfl (y_fieldAddr fo_110_3 rfl rfl) fun a hf => st_y hf rfl rfl rfl (y_load1 Tryz.isAgg3 rfl rfl (hm.blk_cell 4 rfl rfl)) fun a hf => st_y hf rfl rfl rfl (y_fieldAddr fo_86_3 rfl rfl) fun a hf => st_ef0 hf rfl rfl (e_store1 2 hf hm rfl Tryz.sizeOf3 rfl rfl rfl rfl rfl) ?_))))
  clear hf a; rintro _ w0_9 a hm hf
  refine st_end (x_then_n (wp_seq (wp_region_lit (st_y hf rfl rfl rfl (y_fieldAddr fo_110_4 rfl rfl) fun a hf => st_y hf rfl rfl rfl (y_load1 Tryz.isAgg25 rfl rfl (hm.blk_cell 4 rfl rfl)) fun a hf => ?_))))
  obtain ⟨r0_3, hx0_3, hq⟩ := bnd hq
  refine st_ef hf rfl rfl rfl (e_call hf rfl Tryz.call9 rfl (laws_toIntS_ok _ a_.next_ v3 (hm.now h3) _ hx0_3)) ?_
  clear hf a; rintro v0_5 w0_10 a ho0_3 hf
  obtain ⟨_, rfl, hB⟩ := ho0_3
  replace hm := hm.give hB; clear hB
  refine st_y hf rfl rfl rfl (y_fieldAddr fo_86_4 rfl rfl) fun a hf => st_ef0 hf rfl rfl (e_store1 3 hf hm rfl Tryz.sizeOf25 rfl rfl rfl (rep_one (hm.ow_rep 0 rfl)) rfl) ?_
  clear hf a; rintro _ w0_11 a hm hf
  refine st_end (x_then_n (wp_seq (wp_region_lit (st_y hf rfl rfl rfl (y_loadN (cs := [v0_1, v0_3, (.int .i64 (a_.jump)), (.int .i64 (a_.on)), v0_5]) Tryz.isAgg86 Tryz.sizeOf86 rfl rfl (hm.blk_at 3 rfl)) fun a hf => st_ef0 hf rfl rfl (e_storeN 4 hf hm rfl Tryz.sizeOf86 rfl rfl rfl (one_cons (rep_one (hm.ow_rep 2 rfl)) (one_cons (rep_one (hm.ow_rep 1 rfl)) (one_cons rfl (one_cons rfl (one_cons (rep_one (hm.ow_rep 0 rfl)) one_nil))))) rfl rfl) ?_))))
  clear hf a; rintro _ w0_12 a hm hf
  refine st_end (x_then_n (wp_ret ?_))
  obtain rfl := Option.some.inj hq
  refine ret_cell 4 hf Tryz.results73 hm rfl rfl Tryz.isAgg86 Tryz.sizeOf86 ?_
  exact ⟨v0_1, v0_3, v0_5, rfl, hm.pick [2, 1, 0] (by decide) rfl⟩

theorem laws_toBlockS_ok (w0 : World) (a_ : List Block_) (v1 : Value) (h1 : GT.rep (hp w0) [v1] a_) (r : (List Block_)) (hq : laws_toBlockS a_ = some r) :
    Con Tryz.prog 52 [v1] w0 (fun v w' => ∃ (x1 : Value), v = x1 ∧ Mem w0 (hp w0) w' [ow [x1] r]) := by
  unfold laws_toBlockS at hq
  refine con_body (l := [(0, v1)]) Tryz.func52 rfl Tryz.ntmps52 (Args.get ⟨rfl, trivial⟩) rfl ?_
  intro a hf
  have hm := Mem.start w0
  refine wp_seq (wp_region_lit (st_y hf rfl rfl rfl (y_assign rfl rfl) fun a hf => st_end (x_then_n (wp_seq (wp_region_lit (st_y hf rfl rfl rfl (y_move rfl rfl) fun a hf => ?_))))))
  obtain ⟨p0_1, c0_1, he, hl0_1⟩ := ro_slice h1
  subst he
  refine st_y hf rfl rfl rfl (y_len_slice st_64.und rfl rfl) fun a hf => ?_
  obtain ⟨ys0_1, hx0_1, hq⟩ := bnd hq
  obtain ⟨⟨h0_11, h0_12⟩, h0_1e⟩ := makeM_some.1 hx0_1
  refine st_ef hf rfl rfl rfl (e_make (x0 := ((⟨[], [], 0, 0, []⟩ : Block_) : Block_)) et_67 (fun _ => ⟨[(.slice none 0 0)], [(.slice none 0 0), (.int .i64 (0)), (.int .i64 (0)), (.slice none 0 0)], rfl, fun _ => False, fun _ => False, fun _ h => h.elim, fun _ h => h.elim, fun _ h => h.elim, (own_list.2 (.inl ⟨rfl, rfl⟩)), ⟨[(.slice none 0 0)], [(.int .i64 (0)), (.int .i64 (0)), (.slice none 0 0)], rfl, fun _ => False, fun _ => False, fun _ h => h.elim, fun _ h => h.elim, fun _ h => h.elim, (own_list.2 (.inl ⟨rfl, rfl⟩)), ⟨[(.int .i64 (0))], [(.int .i64 (0)), (.slice none 0 0)], rfl, fun _ => False, fun _ => False, fun _ h => h.elim, fun _ h => h.elim, fun _ h => h.elim, (Flat.own_iff.2 rfl), ⟨[(.int .i64 (0))], [(.slice none 0 0)], rfl, fun _ => False, fun _ => False, fun _ h => h.elim, fun _ h => h.elim, fun _ h => h.elim, (Flat.own_iff.2 rfl), (own_list.2 (.inl ⟨rfl, rfl⟩))⟩⟩⟩⟩) hf hm rfl rfl rfl h0_11 (Int.le_refl _) h0_12) ?_
  clear hf a; rintro v0_1 w0_1 a hm hf
  rw [h0_1e] at hm
  have h0_1l : (ys0_1.length : Int) = (a_.length : Int) := by rw [← h0_1e]; simp only [List.length_replicate]; omega
  refine st_y hf rfl rfl rfl (y_assign rfl rfl) fun a hf => st_end (x_then_n (wp_seq (wp_seq (wp_region_lit (st_y hf rfl rfl rfl (y_assign rfl rfl) fun a hf => st_end (x_then_n ?_))))))
  obtain ⟨p0_2, c0_2, he, hl0_2⟩ := ro_slice (hm.ow_rep 0 rfl)
  subst he
  refine wp_block ?_
  obtain ⟨r0_1, hl0_3, hq⟩ := bnd hq
  refine wp_forN _ (fun i1_1 xs1_1 a w => Fr 23 [(0, (.slice p0_1 a_.length c0_1)), (3, (.slice p0_2 ys0_1.length c0_2)), (4, (.int .i64 (i1_1)))] a ∧ Mem w0 (hp w0) w [ow [(.slice p0_2 ys0_1.length c0_2)] xs1_1]) (0) ((a_.length : Int)) hl0_3 ?_ ?_ ?_
  ·
   exact ⟨hf.sub ⟨rfl, rfl, rfl, trivial⟩, hm.pick [0] (by decide) rfl⟩
  ·
   clear hf hm
   rintro i1_1 xs1_1 a w ⟨hf, hm⟩ hi1_1 hi1_2 q0_1 hb0_1 ho0_1
   refine wp_seq (wp_seq (wp_region_lit (st_y hf rfl rfl rfl (y_move rfl rfl) fun a hf => st_y hf rfl rfl rfl (y_move rfl rfl) fun a hf => st_y hf rfl rfl rfl (y_len_slice st_64.und rfl rfl) fun a hf => st_y hf rfl rfl rfl (y_lss rfl rfl rfl) fun a hf => st_end (x_then_n ?_))))
   refine cond_t hf rfl (decide_eq_true (by omega)) (wp_skip (x_then_n (wp_seq (wp_block (wp_region_lit (st_y hf rfl rfl rfl (y_move rfl rfl) fun a hf => st_y hf rfl rfl rfl (y_move rfl rfl) fun a hf => st_y hf rfl rfl rfl (y_move rfl rfl) fun a hf => ?_))))))
   refine st_y hf rfl rfl rfl (y_move rfl rfl) fun a hf => ?_
   obtain ⟨x1_1, hx1_1, hb0_1⟩ := bnd hb0_1
   obtain ⟨h1_1, hx1_2⟩ := getI_some.1 hx1_1
   obtain ⟨b1_1, o1_1, c1_1, he⟩ := idx_form' h1 hx1_2
   simp only [Value.slice.injEq, Option.some.injEq] at he; obtain ⟨rfl, _, rfl⟩ := he
   obtain ⟨_, _, hc1_1, hr1_1⟩ := ro_get' h1 hx1_2
   obtain ⟨_, _, rfl, h1_2, _, _, rfl, h1_3, _, _, rfl, rfl, _, _, rfl, rfl, h1_4⟩ := hr1_1
   obtain ⟨v1_1, rfl, -⟩ := id h1_2
   replace h1_2 : GT.rep (hp w0) [v1_1] x1_1.phis := h1_2
   obtain ⟨v1_2, rfl, -⟩ := id h1_3
   replace h1_3 : GT.rep (hp w0) [v1_2] x1_1.ins := h1_3
   obtain ⟨v1_3, rfl, -⟩ := id h1_4
   replace h1_4 : GT.rep (hp w0) [v1_3] x1_1.next_ := h1_4
   replace hc1_1 : CellsAt (hp w0) b1_1 (o1_1 + (i1_1).toNat * 5) [v1_1, v1_2, (.int .i64 (x1_1.jump)), (.int .i64 (x1_1.on)), v1_3] := hc1_1
   refine st_y hf rfl rfl rfl (y_indexAddr st_64 rfl rfl rfl h1_1 (idx_lt hx1_2)) fun a hf => st_y hf rfl rfl rfl (y_loadN (cs := [v1_1, v1_2, (.int .i64 (x1_1.jump)), (.int .i64 (x1_1.on)), v1_3]) Tryz.isAgg110 Tryz.sizeOf110 rfl rfl (hc1_1.mono hm.lez)) fun a hf => ?_
   obtain ⟨r1_1, hx1_3, hb0_1⟩ := bnd hb0_1
   refine st_ef hf rfl rfl rfl (e_call hf rfl Tryz.call73 rfl (laws_toBlock_ok _ x1_1 v1_1 (hm.now h1_2) v1_2 (hm.now h1_3) v1_3 (hm.now h1_4) _ hx1_3)) ?_
   clear hf a; rintro v1_4 w1_1 a ho1_1 hf
   obtain ⟨v1_5, v1_6, v1_7, rfl, hB⟩ := ho1_1
   replace hm := hm.give hB; clear hB
   obtain ⟨x1_2, hx1_4, hb0_1⟩ := bnd hb0_1
   obtain ⟨h1_5, hx1_5⟩ := getI_some.1 hx1_4
   obtain ⟨b1_2, o1_2, c1_2, he⟩ := idx_form' (hm.ow_rep 3 rfl) hx1_5
   simp only [Value.slice.injEq, Option.some.injEq] at he; obtain ⟨rfl, _, rfl⟩ := he
   obtain ⟨_, _, hc1_2, hr1_2⟩ := ro_get' (hm.ow_rep 3 rfl) hx1_5
   obtain ⟨_, _, rfl, h1_6, _, _, rfl, h1_7, _, _, rfl, rfl, _, _, rfl, rfl, h1_8⟩ := hr1_2
   obtain ⟨v1_8, rfl, -⟩ := id h1_6
   replace h1_6 : GT.rep (hp _) [v1_8] x1_2.phis := h1_6
   obtain ⟨v1_9, rfl, -⟩ := id h1_7
   replace h1_7 : GT.rep (hp _) [v1_9] x1_2.ins := h1_7
   obtain ⟨v1_10, rfl, -⟩ := id h1_8
   replace h1_8 : GT.rep (hp _) [v1_10] x1_2.next_ := h1_8
   replace hc1_2 : CellsAt (hp _) b1_2 (o1_2 + (i1_1).toNat * 5) [v1_8, v1_9, (.int .i64 (x1_2.jump)), (.int .i64 (x1_2.on)), v1_10] := hc1_2
   have hL1_1 := rep_slice_len (hm.ow_rep 3 rfl)
   refine st_y hf rfl rfl rfl (y_indexAddr st_67 rfl rfl rfl h1_5 (idx_lt2 hx1_5 hL1_1)) fun a hf => ?_
   replace hm := hm.own0 (c := [(.int .i64 (r1_1.jump))]) (x := (r1_1.jump : Int)) (fun h => Flat.own_iff.2 rfl)
   replace hm := hm.own0 (c := [(.int .i64 (r1_1.on))]) (x := (r1_1.on : Int)) (fun h => Flat.own_iff.2 rfl)
   replace hm := (hm.pair (x := (r1_1.on : Int)) (y := (r1_1.next_ : List Int)) 0 4 (by decide) rfl rfl).pick (L' := [ow [(.int .i64 (r1_1.on)), v1_7] ((r1_1.on, r1_1.next_) : Int × (List Int)), ow [(.int .i64 (r1_1.jump))] (r1_1.jump : Int), ow [v1_5] r1_1.phis, ow [v1_6] r1_1.ins, ow [(.slice (some ⟨b1_2, o1_2, none⟩) ys0_1.length c0_2)] xs1_1]) [0, 1, 2, 3, 5] (by decide) rfl
   replace hm := (hm.pair (x := (r1_1.jump : Int)) (y := ((r1_1.on, r1_1.next_) : Int × (List Int))) 1 0 (by decide) rfl rfl).pick (L' := [ow [(.int .i64 (r1_1.jump)), (.int .i64 (r1_1.on)), v1_7] ((r1_1.jump, (r1_1.on, r1_1.next_)) : Int × Int × (List Int)), ow [v1_5] r1_1.phis, ow [v1_6] r1_1.ins, ow [(.slice (some ⟨b1_2, o1_2, none⟩) ys0_1.length c0_2)] xs1_1]) [1, 2, 3, 4] (by decide) rfl
   replace hm := (hm.pair (x := (r1_1.ins : List Ins_)) (y := ((r1_1.jump, (r1_1.on, r1_1.next_)) : Int × Int × (List Int))) 2 0 (by decide) rfl rfl).pick (L' := [ow [v1_5] r1_1.phis, ow [v1_6, (.int .i64 (r1_1.jump)), (.int .i64 (r1_1.on)), v1_7] ((r1_1.ins, (r1_1.jump, (r1_1.on, r1_1.next_))) : (List Ins_) × Int × Int × (List Int)), ow [(.slice (some ⟨b1_2, o1_2, none⟩) ys0_1.length c0_2)] xs1_1]) [1, 2, 3] (by decide) rfl
   replace hm := (hm.pair (x := (r1_1.phis : List Phi_)) (y := ((r1_1.ins, (r1_1.jump, (r1_1.on, r1_1.next_))) : (List Ins_) × Int × Int × (List Int))) 0 1 (by decide) rfl rfl).pick (L' := [ow [v1_5, v1_6, (.int .i64 (r1_1.jump)), (.int .i64 (r1_1.on)), v1_7] ((r1_1.phis, (r1_1.ins, (r1_1.jump, (r1_1.on, r1_1.next_)))) : (List Phi_) × (List Ins_) × Int × Int × (List Int)), ow [(.slice (some ⟨b1_2, o1_2, none⟩) ys0_1.length c0_2)] xs1_1]) [0, 2] (by decide) rfl
   replace hm := hm.imp (c' := ow [v1_5, v1_6, (.int .i64 (r1_1.jump)), (.int .i64 (r1_1.on)), v1_7] (r1_1 : Block_)) 0 rfl (fun F h0 => h0)
   replace hm := (hm.both 1 0 (by decide) rfl rfl).pick (L' := [both (ow [(.slice (some ⟨b1_2, o1_2, none⟩) ys0_1.length c0_2)] xs1_1) (ow [v1_5, v1_6, (.int .i64 (r1_1.jump)), (.int .i64 (r1_1.on)), v1_7] (r1_1 : Block_))]) [1] (by decide) rfl
   refine st_ef0 hf rfl rfl (e_putElem (x1 := (r1_1 : Block_)) (vs := [v1_5, v1_6, (.int .i64 (r1_1.jump)), (.int .i64 (r1_1.on)), v1_7]) 0 hf hm rfl hx1_5 rfl Tryz.sizeOf86 rfl rfl rfl rfl) ?_
   clear hf a; rintro _ w1_2 a hm hf
   have hx1_6 := List.getElem?_set_self (a := (r1_1 : Block_)) (idx_lt hx1_5)
   refine st_end (x_blk_n (x_then_n (wp_region_lit (st_y hf rfl rfl rfl (y_move rfl rfl) fun a hf => st_y hf rfl rfl rfl (y_add64 rfl rfl rfl (by omega) (by omega)) fun a hf => st_y hf rfl rfl rfl (y_assign rfl rfl) fun a hf => st_end (x_then_n ?_)))))
   obtain rfl := Option.some.inj hb0_1
   exact ⟨_, rfl, hf.sub ⟨rfl, rfl, rfl, trivial⟩, hm.pick [0] (by decide) rfl⟩
  ·
   clear hf hm
   rintro i0_1 xs0_1 a w ⟨hf, hm⟩ hi0_1 hi0_2 rfl
   replace hq := sum_l hq
   refine wp_seq (wp_seq (wp_region_lit (st_y hf rfl rfl rfl (y_move rfl rfl) fun a hf => st_y hf rfl rfl rfl (y_move rfl rfl) fun a hf => st_y hf rfl rfl rfl (y_len_slice st_64.und rfl rfl) fun a hf => st_y hf rfl rfl rfl (y_lss rfl rfl rfl) fun a hf => st_end (x_then_n ?_))))
   refine cond_f hf rfl (decide_eq_false (by omega)) (wp_exit (x_then_exit (x_then_exit (x_blk_hit (x_then_n (wp_seq (wp_region_lit (st_y hf rfl rfl rfl (y_move rfl rfl) fun a hf => ?_))))))))
   refine st_y hf rfl rfl rfl (y_assign rfl rfl) fun a hf => st_end (x_then_n (wp_ret ?_))
   obtain rfl := Option.some.inj hq
   refine ret_tmp hf Tryz.results52 rfl ?_
   exact ⟨(.slice p0_2 ys0_1.length c0_2), rfl, hm.pick [0] (by decide) rfl⟩

theorem laws_toCode_ok (w0 : World) (a_ : Code_) (v1 : Value) (h1 : GT.rep (hp w0) [v1] a_.blocks) (r : Code_) (hq : laws_toCode a_ = some r) :
    Con Tryz.prog 36 [(.agg #[(.int .i64 (a_.params)), (.int .i64 (a_.regs)), v1])] w0 (fun v w' => ∃ (x1 : Value), v = (.agg #[(.int .i64 (r.params)), (.int .i64 (r.regs)), x1]) ∧ Mem w0 (hp w0) w' [ow [x1] r.blocks]) := by
  unfold laws_toCode at hq
  refine con_body (l := [(0, (.agg #[(.int .i64 (a_.params)), (.int .i64 (a_.regs)), v1]))]) Tryz.func36 rfl Tryz.ntmps36 (Args.get ⟨rfl, trivial⟩) rfl ?_
  intro a hf
  have hm := Mem.start w0
  refine wp_seq (wp_region_lit (st_ef hf rfl rfl rfl (e_box hf hm rfl rfl rfl) ?_))
  clear hf a; rintro _ w0_1 a ⟨b0_1, rfl, hm⟩ hf
  refine st_ef hf rfl rfl rfl (e_alloc hm Tryz.zeroValue69 rfl rfl) ?_
  clear hf a; rintro _ w0_2 a ⟨b0_2, rfl, hm⟩ hf
  refine st_end (x_then_n (wp_seq (wp_region_lit (st_ef hf rfl rfl rfl (e_alloc hm Tryz.zeroValue69 rfl rfl) ?_))))
  clear hf a; rintro _ w0_3 a ⟨b0_3, rfl, hm⟩ hf
  refine st_end (x_then_n (wp_seq (wp_region_lit (st_y hf rfl rfl rfl (y_fieldAddr fo_66_0 rfl rfl) fun a hf => st_y hf rfl rfl rfl (y_load1 Tryz.isAgg3 rfl rfl (hm.blk_cell 2 rfl rfl)) fun a hf => st_y hf rfl rfl rfl (y_fieldAddr fo_69_0 rfl rfl) fun a hf => st_ef0 hf rfl rfl (e_store1 0 hf hm rfl Tryz.sizeOf3 rfl rfl rfl rfl rfl) ?_))))
  clear hf a; rintro _ w0_4 a hm hf
  refine st_end (x_then_n (wp_seq (wp_region_lit (st_y hf rfl rfl rfl (y_fieldAddr fo_66_1 rfl rfl) fun a hf => st_y hf rfl rfl rfl (y_load1 Tryz.isAgg3 rfl rfl (hm.blk_cell 2 rfl rfl)) fun a hf => st_y hf rfl rfl rfl (y_fieldAddr fo_69_1 rfl rfl) fun a hf => st_ef0 hf rfl rfl (e_store1 0 hf hm rfl Tryz.sizeOf3 rfl rfl rfl rfl rfl) ?_))))
  clear hf a; rintro _ w0_5 a hm hf
  refine st_end (x_then_n (wp_seq (wp_region_lit (st_y hf rfl rfl rfl (y_fieldAddr fo_66_2 rfl rfl) fun a hf => st_y hf rfl rfl rfl (y_load1 Tryz.isAgg64 rfl rfl (hm.blk_cell 2 rfl rfl)) fun a hf => ?_))))
  obtain ⟨r0_1, hx0_1, hq⟩ := bnd hq
  refine st_ef hf rfl rfl rfl (e_call hf rfl Tryz.call52 rfl (laws_toBlockS_ok _ a_.blocks v1 (hm.now h1) _ hx0_1)) ?_
  clear hf a; rintro v0_1 w0_6 a ho0_1 hf
  obtain ⟨_, rfl, hB⟩ := ho0_1
  replace hm := hm.give hB; clear hB
  refine st_y hf rfl rfl rfl (y_fieldAddr fo_69_2 rfl rfl) fun a hf => st_ef0 hf rfl rfl (e_store1 1 hf hm rfl Tryz.sizeOf67 rfl rfl rfl (rep_one (hm.ow_rep 0 rfl)) rfl) ?_
  clear hf a; rintro _ w0_7 a hm hf
  refine st_end (x_then_n (wp_seq (wp_region_lit (st_y hf rfl rfl rfl (y_loadN (cs := [(.int .i64 (a_.params)), (.int .i64 (a_.regs)), v0_1]) Tryz.isAgg69 Tryz.sizeOf69 rfl rfl (hm.blk_at 1 rfl)) fun a hf => st_ef0 hf rfl rfl (e_storeN 2 hf hm rfl Tryz.sizeOf69 rfl rfl rfl (one_cons rfl (one_cons rfl (one_cons (rep_one (hm.ow_rep 0 rfl)) one_nil))) rfl rfl) ?_))))
  clear hf a; rintro _ w0_8 a hm hf
  refine st_end (x_then_n (wp_ret ?_))
  obtain rfl := Option.some.inj hq
  refine ret_cell 2 hf Tryz.results36 hm rfl rfl Tryz.isAgg69 Tryz.sizeOf69 ?_
  exact ⟨v0_1, rfl, hm.pick [0] (by decide) rfl⟩

theorem laws_toCodeS_ok (w0 : World) (a_ : List Code_) (v1 : Value) (h1 : GT.rep (hp w0) [v1] a_) (r : (List Code_)) (hq : laws_toCodeS a_ = some r) :
    Con Tryz.prog 25 [v1] w0 (fun v w' => ∃ (x1 : Value), v = x1 ∧ Mem w0 (hp w0) w' [ow [x1] r]) := by
  unfold laws_toCodeS at hq
  refine con_body (l := [(0, v1)]) Tryz.func25 rfl Tryz.ntmps25 (Args.get ⟨rfl, trivial⟩) rfl ?_
  intro a hf
  have hm := Mem.start w0
  refine wp_seq (wp_region_lit (st_y hf rfl rfl rfl (y_assign rfl rfl) fun a hf => st_end (x_then_n (wp_seq (wp_region_lit (st_y hf rfl rfl rfl (y_move rfl rfl) fun a hf => ?_))))))
  obtain ⟨p0_1, c0_1, he, hl0_1⟩ := ro_slice h1
  subst he
  refine st_y hf rfl rfl rfl (y_len_slice st_22.und rfl rfl) fun a hf => ?_
  obtain ⟨ys0_1, hx0_1, hq⟩ := bnd hq
  obtain ⟨⟨h0_11, h0_12⟩, h0_1e⟩ := makeM_some.1 hx0_1
  refine st_ef hf rfl rfl rfl (e_make (x0 := ((⟨0, 0, []⟩ : Code_) : Code_)) et_28 (fun _ => ⟨[(.int .i64 (0))], [(.int .i64 (0)), (.slice none 0 0)], rfl, fun _ => False, fun _ => False, fun _ h => h.elim, fun _ h => h.elim, fun _ h => h.elim, (Flat.own_iff.2 rfl), ⟨[(.int .i64 (0))], [(.slice none 0 0)], rfl, fun _ => False, fun _ => False, fun _ h => h.elim, fun _ h => h.elim, fun _ h => h.elim, (Flat.own_iff.2 rfl), (own_list.2 (.inl ⟨rfl, rfl⟩))⟩⟩) hf hm rfl rfl rfl h0_11 (Int.le_refl _) h0_12) ?_
  clear hf a; rintro v0_1 w0_1 a hm hf
  rw [h0_1e] at hm
  have h0_1l : (ys0_1.length : Int) = (a_.length : Int) := by rw [← h0_1e]; simp only [List.length_replicate]; omega
  refine st_y hf rfl rfl rfl (y_assign rfl rfl) fun a hf => st_end (x_then_n (wp_seq (wp_seq (wp_region_lit (st_y hf rfl rfl rfl (y_assign rfl rfl) fun a hf => st_end (x_then_n ?_))))))
  obtain ⟨p0_2, c0_2, he, hl0_2⟩ := ro_slice (hm.ow_rep 0 rfl)
  subst he
  refine wp_block ?_
  obtain ⟨r0_1, hl0_3, hq⟩ := bnd hq
  refine wp_forN _ (fun i1_1 xs1_1 a w => Fr 23 [(0, (.slice p0_1 a_.length c0_1)), (3, (.slice p0_2 ys0_1.length c0_2)), (4, (.int .i64 (i1_1)))] a ∧ Mem w0 (hp w0) w [ow [(.slice p0_2 ys0_1.length c0_2)] xs1_1]) (0) ((a_.length : Int)) hl0_3 ?_ ?_ ?_
  ·
   exact ⟨hf.sub ⟨rfl, rfl, rfl, trivial⟩, hm.pick [0] (by decide) rfl⟩
  ·
   clear hf hm
   rintro i1_1 xs1_1 a w ⟨hf, hm⟩ hi1_1 hi1_2 q0_1 hb0_1 ho0_1
   refine wp_seq (wp_seq (wp_region_lit (st_y hf rfl rfl rfl (y_move rfl rfl) fun a hf => st_y hf rfl rfl rfl (y_move rfl rfl) fun a hf => st_y hf rfl rfl rfl (y_len_slice st_22.und rfl rfl) fun a hf => st_y hf rfl rfl rfl (y_lss rfl rfl rfl) fun a hf => st_end (x_then_n ?_))))
   refine cond_t hf rfl (decide_eq_true (by omega)) (wp_skip (x_then_n (wp_seq (wp_block (wp_region_lit (st_y hf rfl rfl rfl (y_move rfl rfl) fun a hf => st_y hf rfl rfl rfl (y_move rfl rfl) fun a hf => st_y hf rfl rfl rfl (y_move rfl rfl) fun a hf => ?_))))))
   refine st_y hf rfl rfl rfl (y_move rfl rfl) fun a hf => ?_
   obtain ⟨x1_1, hx1_1, hb0_1⟩ := bnd hb0_1
   obtain ⟨h1_1, hx1_2⟩ := getI_some.1 hx1_1
   obtain ⟨b1_1, o1_1, c1_1, he⟩ := idx_form' h1 hx1_2
   simp only [Value.slice.injEq, Option.some.injEq] at he; obtain ⟨rfl, _, rfl⟩ := he
   obtain ⟨_, _, hc1_1, hr1_1⟩ := ro_get' h1 hx1_2
   obtain ⟨_, _, rfl, rfl, _, _, rfl, rfl, h1_2⟩ := hr1_1
   obtain ⟨v1_1, rfl, -⟩ := id h1_2
   replace h1_2 : GT.rep (hp w0) [v1_1] x1_1.blocks := h1_2
   replace hc1_1 : CellsAt (hp w0) b1_1 (o1_1 + (i1_1).toNat * 3) [(.int .i64 (x1_1.params)), (.int .i64 (x1_1.regs)), v1_1] := hc1_1
   refine st_y hf rfl rfl rfl (y_indexAddr st_22 rfl rfl rfl h1_1 (idx_lt hx1_2)) fun a hf => st_y hf rfl rfl rfl (y_loadN (cs := [(.int .i64 (x1_1.params)), (.int .i64 (x1_1.regs)), v1_1]) Tryz.isAgg66 Tryz.sizeOf66 rfl rfl (hc1_1.mono hm.lez)) fun a hf => ?_
   obtain ⟨r1_1, hx1_3, hb0_1⟩ := bnd hb0_1
   refine st_ef hf rfl rfl rfl (e_call hf rfl Tryz.call36 rfl (laws_toCode_ok _ x1_1 v1_1 (hm.now h1_2) _ hx1_3)) ?_
   clear hf a; rintro v1_2 w1_1 a ho1_1 hf
   obtain ⟨v1_3, rfl, hB⟩ := ho1_1
   replace hm := hm.give hB; clear hB
   obtain ⟨x1_2, hx1_4, hb0_1⟩ := bnd hb0_1
   obtain ⟨h1_3, hx1_5⟩ := getI_some.1 hx1_4
   obtain ⟨b1_2, o1_2, c1_2, he⟩ := idx_form' (hm.ow_rep 1 rfl) hx1_5
   simp only [Value.slice.injEq, Option.some.injEq] at he; obtain ⟨rfl, _, rfl⟩ := he
   obtain ⟨_, _, hc1_2, hr1_2⟩ := ro_get' (hm.ow_rep 1 rfl) hx1_5
   obtain ⟨_, _, rfl, rfl, _, _, rfl, rfl, h1_4⟩ := hr1_2
   obtain ⟨v1_4, rfl, -⟩ := id h1_4
   replace h1_4 : GT.rep (hp _) [v1_4] x1_2.blocks := h1_4
   replace hc1_2 : CellsAt (hp _) b1_2 (o1_2 + (i1_1).toNat * 3) [(.int .i64 (x1_2.params)), (.int .i64 (x1_2.regs)), v1_4] := hc1_2
   have hL1_1 := rep_slice_len (hm.ow_rep 1 rfl)
   refine st_y hf rfl rfl rfl (y_indexAddr st_28 rfl rfl rfl h1_3 (idx_lt2 hx1_5 hL1_1)) fun a hf => ?_
   replace hm := hm.own0 (c := [(.int .i64 (r1_1.params))]) (x := (r1_1.params : Int)) (fun h => Flat.own_iff.2 rfl)
   replace hm := hm.own0 (c := [(.int .i64 (r1_1.regs))]) (x := (r1_1.regs : Int)) (fun h => Flat.own_iff.2 rfl)
   replace hm := (hm.pair (x := (r1_1.regs : Int)) (y := (r1_1.blocks : List Block_)) 0 2 (by decide) rfl rfl).pick (L' := [ow [(.int .i64 (r1_1.regs)), v1_3] ((r1_1.regs, r1_1.blocks) : Int × (List Block_)), ow [(.int .i64 (r1_1.params))] (r1_1.params : Int), ow [(.slice (some ⟨b1_2, o1_2, none⟩) ys0_1.length c0_2)] xs1_1]) [0, 1, 3] (by decide) rfl
   replace hm := (hm.pair (x := (r1_1.params : Int)) (y := ((r1_1.regs, r1_1.blocks) : Int × (List Block_))) 1 0 (by decide) rfl rfl).pick (L' := [ow [(.int .i64 (r1_1.params)), (.int .i64 (r1_1.regs)), v1_3] ((r1_1.params, (r1_1.regs, r1_1.blocks)) : Int × Int × (List Block_)), ow [(.slice (some ⟨b1_2, o1_2, none⟩) ys0_1.length c0_2)] xs1_1]) [1, 2] (by decide) rfl
   replace hm := hm.imp (c' := ow [(.int .i64 (r1_1.params)), (.int .i64 (r1_1.regs)), v1_3] (r1_1 : Code_)) 0 rfl (fun F h0 => h0)
   replace hm := (hm.both 1 0 (by decide) rfl rfl).pick (L' := [both (ow [(.slice (some ⟨b1_2, o1_2, none⟩) ys0_1.length c0_2)] xs1_1) (ow [(.int .i64 (r1_1.params)), (.int .i64 (r1_1.regs)), v1_3] (r1_1 : Code_))]) [1] (by decide) rfl
   refine st_ef0 hf rfl rfl (e_putElem (x1 := (r1_1 : Code_)) (vs := [(.int .i64 (r1_1.params)), (.int .i64 (r1_1.regs)), v1_3]) 0 hf hm rfl hx1_5 rfl Tryz.sizeOf69 rfl rfl rfl rfl) ?_
   clear hf a; rintro _ w1_2 a hm hf
   have hx1_6 := List.getElem?_set_self (a := (r1_1 : Code_)) (idx_lt hx1_5)
   refine st_end (x_blk_n (x_then_n (wp_region_lit (st_y hf rfl rfl rfl (y_move rfl rfl) fun a hf => st_y hf rfl rfl rfl (y_add64 rfl rfl rfl (by omega) (by omega)) fun a hf => st_y hf rfl rfl rfl (y_assign rfl rfl) fun a hf => st_end (x_then_n ?_)))))
   obtain rfl := Option.some.inj hb0_1
   exact ⟨_, rfl, hf.sub ⟨rfl, rfl, rfl, trivial⟩, hm.pick [0] (by decide) rfl⟩
  ·
   clear hf hm
   rintro i0_1 xs0_1 a w ⟨hf, hm⟩ hi0_1 hi0_2 rfl
   replace hq := sum_l hq
   refine wp_seq (wp_seq (wp_region_lit (st_y hf rfl rfl rfl (y_move rfl rfl) fun a hf => st_y hf rfl rfl rfl (y_move rfl rfl) fun a hf => st_y hf rfl rfl rfl (y_len_slice st_22.und rfl rfl) fun a hf => st_y hf rfl rfl rfl (y_lss rfl rfl rfl) fun a hf => st_end (x_then_n ?_))))
   refine cond_f hf rfl (decide_eq_false (by omega)) (wp_exit (x_then_exit (x_then_exit (x_blk_hit (x_then_n (wp_seq (wp_region_lit (st_y hf rfl rfl rfl (y_move rfl rfl) fun a hf => ?_))))))))
   refine st_y hf rfl rfl rfl (y_assign rfl rfl) fun a hf => st_end (x_then_n (wp_ret ?_))
   obtain rfl := Option.some.inj hq
   refine ret_tmp hf Tryz.results25 rfl ?_
   exact ⟨(.slice p0_2 ys0_1.length c0_2), rfl, hm.pick [0] (by decide) rfl⟩

theorem laws_toUnit_ok (w0 : World) (a_ : Unit_) (v1 : Value) (h1 : GT.rep (hp w0) [v1] a_.codes) (r : Unit_) (hq : laws_toUnit a_ = some r) :
    Con Tryz.prog 8 [(.agg #[v1])] w0 (fun v w' => ∃ (x1 : Value), v = (.agg #[x1]) ∧ Mem w0 (hp w0) w' [ow [x1] r.codes]) := by
  unfold laws_toUnit at hq
  refine con_body (l := [(0, (.agg #[v1]))]) Tryz.func8 rfl Tryz.ntmps8 (Args.get ⟨rfl, trivial⟩) rfl ?_
  intro a hf
  have hm := Mem.start w0
  refine wp_seq (wp_region_lit (st_ef hf rfl rfl rfl (e_box hf hm rfl rfl rfl) ?_))
  clear hf a; rintro _ w0_1 a ⟨b0_1, rfl, hm⟩ hf
  refine st_ef hf rfl rfl rfl (e_alloc hm Tryz.zeroValue30 rfl rfl) ?_
  clear hf a; rintro _ w0_2 a ⟨b0_2, rfl, hm⟩ hf
  refine st_end (x_then_n (wp_seq (wp_region_lit (st_ef hf rfl rfl rfl (e_alloc hm Tryz.zeroValue30 rfl rfl) ?_))))
  clear hf a; rintro _ w0_3 a ⟨b0_3, rfl, hm⟩ hf
  refine st_end (x_then_n (wp_seq (wp_region_lit (st_y hf rfl rfl rfl (y_fieldAddr fo_24_0 rfl rfl) fun a hf => st_y hf rfl rfl rfl (y_load1 Tryz.isAgg22 rfl rfl (hm.blk_cell 2 rfl rfl)) fun a hf => ?_))))
  obtain ⟨r0_1, hx0_1, hq⟩ := bnd hq
  refine st_ef hf rfl rfl rfl (e_call hf rfl Tryz.call25 rfl (laws_toCodeS_ok _ a_.codes v1 (hm.now h1) _ hx0_1)) ?_
  clear hf a; rintro v0_1 w0_4 a ho0_1 hf
  obtain ⟨_, rfl, hB⟩ := ho0_1
  replace hm := hm.give hB; clear hB
  refine st_y hf rfl rfl rfl (y_fieldAddr fo_30_0 rfl rfl) fun a hf => st_ef0 hf rfl rfl (e_store1 1 hf hm rfl Tryz.sizeOf28 rfl rfl rfl (rep_one (hm.ow_rep 0 rfl)) rfl) ?_
  clear hf a; rintro _ w0_5 a hm hf
  refine st_end (x_then_n (wp_seq (wp_region_lit (st_y hf rfl rfl rfl (y_loadN (cs := [v0_1]) Tryz.isAgg30 Tryz.sizeOf30 rfl rfl (hm.blk_at 1 rfl)) fun a hf => st_ef0 hf rfl rfl (e_storeN 2 hf hm rfl Tryz.sizeOf30 rfl rfl rfl (one_cons (rep_one (hm.ow_rep 0 rfl)) one_nil) rfl rfl) ?_))))
  clear hf a; rintro _ w0_6 a hm hf
  refine st_end (x_then_n (wp_ret ?_))
  obtain rfl := Option.some.inj hq
  refine ret_cell 2 hf Tryz.results8 hm rfl rfl Tryz.isAgg30 Tryz.sizeOf30 ?_
  exact ⟨v0_1, rfl, hm.pick [0] (by decide) rfl⟩

theorem spec_l1In_ok (w0 : World) (n_ : Int) (low : Int) (high : Int) (r : Bool) (hq : spec_l1In n_ low high = some r) :
    Con Tryz.prog 29 [(.int .i64 (n_)), (.int .i64 (low)), (.int .i64 (high))] w0 (fun v w' => v = (.bool (r)) ∧ Below w0.heap.size w0 w') := by
  unfold spec_l1In at hq
  refine con_body (l := [(0, (.int .i64 (n_))), (1, (.int .i64 (low))), (2, (.int .i64 (high)))]) Tryz.func29 rfl Tryz.ntmps29 (Args.get ⟨rfl, rfl, rfl, trivial⟩) rfl ?_
  intro a hf
  have hm := Mem.start w0
  refine wp_seq (wp_region_lit (st_y hf rfl rfl rfl (y_assign rfl rfl) fun a hf => st_end (x_then_n (wp_seq ?_))))
  obtain ⟨s0_1, hq0_1, hq⟩ := bnd hq
  refine code_cut (K := fun a w => Fr 15 [(6, (.bool (s0_1)))] a ∧ Mem w0 (hp w0) w []) ?_ ?_
  ·
   refine wp_region_lit (st_y hf rfl rfl rfl (y_move rfl rfl) fun a hf => st_y hf rfl rfl rfl (y_move rfl rfl) fun a hf => st_y hf rfl rfl rfl (y_geq rfl rfl rfl) fun a hf => st_y hf rfl rfl rfl (y_move rfl rfl) fun a hf => ?_)
   rcases bcases (decide (low ≤ n_)) with h1_1 | h1_1
   ·
    replace hq0_1 := (ite_t h1_1).symm.trans hq0_1
    have h1_2 := of_decide_eq_true h1_1
    refine st_yg hf rfl rfl (lk_b rfl h1_1) rfl rfl (y_move rfl rfl) fun a hf => st_yg hf rfl rfl (lk_b rfl h1_1) rfl rfl (y_move rfl rfl) fun a hf => st_yg hf rfl rfl (lk_b rfl h1_1) rfl rfl (y_leq rfl rfl rfl) fun a hf => st_y hf rfl rfl rfl (y_pick_t rfl (ev_b rfl h1_1) rfl) fun a hf => st_y hf rfl rfl rfl (y_assign rfl rfl) fun a hf => st_end (x_then_n ?_)
    obtain rfl := Option.some.inj hq0_1
    exact ⟨hf.sub ⟨rfl, trivial⟩, hm.pick [] (by decide) rfl⟩
   ·
    replace hq0_1 := (ite_f h1_1).symm.trans hq0_1
    have h1_3 := of_decide_eq_false h1_1
    refine st_no hf rfl rfl (lk_b rfl h1_1) rfl rfl rfl fun a hf => st_no hf rfl rfl (lk_b rfl h1_1) rfl rfl rfl fun a hf => st_no hf rfl rfl (lk_b rfl h1_1) rfl rfl rfl fun a hf => st_y hf rfl rfl rfl (y_pick_f rfl (ev_b rfl h1_1) rfl) fun a hf => st_y hf rfl rfl rfl (y_assign rfl rfl) fun a hf => st_end (x_then_n ?_)
    obtain rfl := Option.some.inj hq0_1
    exact ⟨hf.sub ⟨rfl, trivial⟩, hm.pick [] (by decide) rfl⟩
  ·
   clear hf hm
   rintro a w ⟨hf, hm⟩
   refine x_then_n (wp_ret ?_)
   obtain rfl := Option.some.inj hq
   refine ret_tmp hf Tryz.results29 rfl ?_
   exact ⟨rfl, hm.below⟩

theorem spec_l7Regs_ok (w0 : World) (c_ : Code_) (v1 : Value) (h1 : GT.rep (hp w0) [v1] c_.blocks) (list : List Int) (v2 : Value) (h2 : GT.rep (hp w0) [v2] list) (r : Bool) (hq : spec_l7Regs c_ list = some r) :
    Con Tryz.prog 77 [(.agg #[(.int .i64 (c_.params)), (.int .i64 (c_.regs)), v1]), v2] w0 (fun v w' => v = (.bool (r)) ∧ Below w0.heap.size w0 w') := by
  unfold spec_l7Regs at hq
  refine con_body (l := [(0, (.agg #[(.int .i64 (c_.params)), (.int .i64 (c_.regs)), v1])), (1, v2)]) Tryz.func77 rfl Tryz.ntmps77 (Args.get ⟨rfl, rfl, trivial⟩) rfl ?_
  intro a hf
  have hm := Mem.start w0
  refine wp_seq (wp_region_lit (st_ef hf rfl rfl rfl (e_box hf hm rfl rfl rfl) ?_))
  clear hf a; rintro _ w0_1 a ⟨b0_1, rfl, hm⟩ hf
  refine st_y hf rfl rfl rfl (y_assign rfl rfl) fun a hf => st_end (x_then_n (wp_seq (wp_seq (wp_region_lit (st_y hf rfl rfl rfl (y_assign rfl rfl) fun a hf => st_end (x_then_n ?_))))))
  refine wp_block ?_
  obtain ⟨r0_1, hl0_1, hq⟩ := bnd hq
  refine wp_forN _ (fun i1_1 xs1_1 a w => Fr 21 [(1, v2), (2, (.pointer (some ⟨b0_1, 0, none⟩))), (5, (.int .i64 (i1_1)))] a ∧ Mem w0 (hp w0) w [blk b0_1 [(.int .i64 (c_.params)), (.int .i64 (c_.regs)), v1] 69]) (0) ((list.length : Int)) hl0_1 ?_ ?_ ?_
  ·
   exact ⟨hf.sub ⟨rfl, rfl, rfl, trivial⟩, hm.pick [0] (by decide) rfl⟩
  ·
   clear hf hm
   rintro i1_1 xs1_1 a w ⟨hf, hm⟩ hi1_1 hi1_2 q0_1 hb0_1 ho0_1
   refine wp_seq (wp_seq (wp_region_lit (st_y hf rfl rfl rfl (y_move rfl rfl) fun a hf => st_y hf rfl rfl rfl (y_move rfl rfl) fun a hf => ?_)))
   obtain ⟨p1_1, c1_1, he, hl1_1⟩ := ro_slice h2
   subst he
   refine st_y hf rfl rfl rfl (y_len_slice st_25.und rfl rfl) fun a hf => st_y hf rfl rfl rfl (y_lss rfl rfl rfl) fun a hf => st_end (x_then_n (cond_t hf rfl (decide_eq_true (by omega)) (wp_skip (x_then_n (wp_seq (wp_block ?_))))))
   refine wp_seq (wp_tree (.p 0 (.p 1 (.p 2 (.p 4 (.q 3 (.e 5 (.p 6 (.e 7 (.p 8 .fin) .nil)) .nil)))))) [5] [0, 1, 2, 4, 6, 8] (fun w => Mem w0 (hp w0) w [blk b0_1 [(.int .i64 (c_.params)), (.int .i64 (c_.regs)), v1] 69]) (by kernel_rfl) (by kernel_rfl) (fun _ _ _ h => h.2) ?_)
   replace hm := hm.drew
   have hS : Mem w0 (hp w0) _ [blk b0_1 [(.int .i64 (c_.params)), (.int .i64 (c_.regs)), v1] 69] := hm.pick [0] (by decide) rfl
   refine td_p hf rfl rfl rfl rfl (fun w => y_move rfl rfl) fun a hf => td_p hf rfl rfl rfl rfl (fun w => y_move rfl rfl) fun a hf => ?_
   obtain ⟨x1_1, hx1_1, hb0_1⟩ := bnd hb0_1
   obtain ⟨h1_1, hx1_2⟩ := getI_some.1 hx1_1
   obtain ⟨b1_1, o1_1, c1_2, he⟩ := idx_form h2 hx1_2
   simp only [Value.slice.injEq, Option.some.injEq] at he; obtain ⟨rfl, _, rfl⟩ := he
   refine td_p hf rfl rfl rfl rfl (fun w => y_indexAddr st_25 rfl rfl rfl h1_1 (idx_lt hx1_2)) fun a hf => td_p hf rfl rfl rfl rfl (fun w => y_fieldAddr fo_69_1 rfl rfl) fun a hf => td_y hf rfl rfl rfl rfl hS (fun w hm => y_load1 Tryz.isAgg3 rfl rfl ((flat_cells (cs := [(.int .i64 (x1_1))]) (hm.now h2) hx1_2 rfl).cell (j := 0) rfl)) fun a hf => te_one (td_ef hf rfl rfl rfl rfl (ef_y hf (y_load1 Tryz.isAgg3 rfl rfl (hm.blk_cell 0 rfl rfl))) ?_)
   clear hf a; rintro _ _ a ⟨rfl, rfl⟩ hf
   refine ⟨fun _ => hS, ?_⟩
   refine td_p hf rfl rfl rfl rfl (fun w => y_subw rfl rfl rfl) fun a hf => te_one ?_
   obtain ⟨r1_1, hx1_3, hb0_1⟩ := bnd hb0_1
   refine td_ef hf rfl rfl rfl rfl (e_call hf rfl Tryz.call29 rfl (spec_l1In_ok _ x1_1 0 (w64 (c_.regs - 1)) _ hx1_3)) ?_
   clear hf a; rintro v1_1 w1_1 a ho1_1 hf
   obtain ⟨rfl, hB⟩ := ho1_1
   replace hm := hm.below' hB; clear hB
   refine ⟨fun h => absurd h (by decide), ?_⟩
   refine td_p hf rfl rfl rfl rfl (fun w => y_not rfl rfl) fun a hf => ?_
   clear hS; refine td_end ?_
   refine x_then_n ?_
   rcases bcases (!(r1_1)) with h1_2 | h1_2
   ·
    replace hb0_1 := (ite_t h1_2).symm.trans hb0_1
    have h1_3 := bnot_t' h1_2
    refine cond_t hf rfl h1_2 (wp_seq (wp_region_lit (st_y hf rfl rfl rfl (y_assign rfl rfl) fun a hf => st_end (x_then_n (wp_ret (x_blk_ret (x_then_ret ?_)))))))
    refine x_then_ret (x_blk_ret (x_then_ret ?_))
    obtain rfl := Option.some.inj hb0_1
    obtain rfl := ho0_1 _ rfl
    replace hq := sum_r hq
    obtain rfl := Option.some.inj hq
    refine ret_tmp hf Tryz.results77 rfl ?_
    exact ⟨rfl, hm.below⟩
   ·
    replace hb0_1 := (ite_f h1_2).symm.trans hb0_1
    have h1_4 := bnot_f' h1_2
    refine cond_f hf rfl h1_2 (wp_skip (x_blk_n (x_then_n (wp_region_lit (st_y hf rfl rfl rfl (y_move rfl rfl) fun a hf => st_y hf rfl rfl rfl (y_add64 rfl rfl rfl (by omega) (by omega)) fun a hf => st_y hf rfl rfl rfl (y_assign rfl rfl) fun a hf => st_end ?_)))))
    refine x_then_n ?_
    obtain rfl := Option.some.inj hb0_1
    exact ⟨_, rfl, hf.sub ⟨rfl, rfl, rfl, trivial⟩, hm.pick [0] (by decide) rfl⟩
  ·
   clear hf hm
   rintro i0_1 xs0_1 a w ⟨hf, hm⟩ hi0_1 hi0_2 rfl
   replace hq := sum_l hq
   refine wp_seq (wp_seq (wp_region_lit (st_y hf rfl rfl rfl (y_move rfl rfl) fun a hf => st_y hf rfl rfl rfl (y_move rfl rfl) fun a hf => ?_)))
   obtain ⟨p0_1, c0_1, he, hl0_2⟩ := ro_slice h2
   subst he
   refine st_y hf rfl rfl rfl (y_len_slice st_25.und rfl rfl) fun a hf => st_y hf rfl rfl rfl (y_lss rfl rfl rfl) fun a hf => st_end (x_then_n (cond_f hf rfl (decide_eq_false (by omega)) (wp_exit (x_then_exit (x_then_exit (x_blk_hit ?_))))))
   refine x_then_n (wp_seq (wp_region_lit (st_y hf rfl rfl rfl (y_assign rfl rfl) fun a hf => st_end (x_then_n (wp_ret ?_)))))
   obtain rfl := Option.some.inj hq
   refine ret_tmp hf Tryz.results77 rfl ?_
   exact ⟨rfl, hm.below⟩

theorem spec_l7Makes_ok (w0 : World) (op : Int) (r : Bool) (hq : spec_l7Makes op = some r) :
    Con Tryz.prog 102 [(.int .i64 (op))] w0 (fun v w' => v = (.bool (r)) ∧ Below w0.heap.size w0 w') := by
  unfold spec_l7Makes at hq
  refine con_body (l := [(0, (.int .i64 (op)))]) Tryz.func102 rfl Tryz.ntmps102 (Args.get ⟨rfl, trivial⟩) rfl ?_
  intro a hf
  have hm := Mem.start w0
  refine wp_seq (wp_region_lit (st_y hf rfl rfl rfl (y_assign rfl rfl) fun a hf => st_end (x_then_n (wp_seq ?_))))
  obtain ⟨s0_1, hq0_1, hq⟩ := bnd hq
  refine code_cut (K := fun a w => Fr 13 [(2, (.bool (s0_1)))] a ∧ Mem w0 (hp w0) w []) ?_ ?_
  ·
   refine wp_region_lit (st_y hf rfl rfl rfl (y_move rfl rfl) fun a hf => ?_)
   obtain ⟨r1_1, hx1_1, hq0_1⟩ := bnd hq0_1
   refine st_ef hf rfl rfl rfl (e_call hf rfl Tryz.call29 rfl (spec_l1In_ok _ op 1 14 _ hx1_1)) ?_
   clear hf a; rintro v1_1 w1_1 a ho1_1 hf
   obtain ⟨rfl, hB⟩ := ho1_1
   replace hm := hm.below' hB; clear hB
   refine st_y hf rfl rfl rfl (y_move rfl rfl) fun a hf => ?_
   rcases bcases (r1_1) with h1_1 | h1_1
   ·
    replace hq0_1 := (ite_t h1_1).symm.trans hq0_1
    refine st_yg hf rfl rfl (lk_b rfl h1_1) rfl rfl (y_move rfl rfl) fun a hf => st_yg hf rfl rfl (lk_b rfl h1_1) rfl rfl (y_neq rfl rfl rfl) fun a hf => st_y hf rfl rfl rfl (y_pick_t rfl (ev_b rfl h1_1) rfl) fun a hf => st_y hf rfl rfl rfl (y_move rfl rfl) fun a hf => ?_
    rcases bcases (decide (op ≠ 12)) with h1_2 | h1_2
    ·
     replace hq0_1 := (ite_t h1_2).symm.trans hq0_1
     have h1_3 := of_decide_eq_true h1_2
     refine st_yg hf rfl rfl (lk_b rfl h1_2) rfl rfl (y_move rfl rfl) fun a hf => st_yg hf rfl rfl (lk_b rfl h1_2) rfl rfl (y_neq rfl rfl rfl) fun a hf => st_y hf rfl rfl rfl (y_pick_t rfl (ev_b rfl h1_2) rfl) fun a hf => st_y hf rfl rfl rfl (y_assign rfl rfl) fun a hf => st_end (x_then_n ?_)
     obtain rfl := Option.some.inj hq0_1
     exact ⟨hf.sub ⟨rfl, trivial⟩, hm.pick [] (by decide) rfl⟩
    ·
     replace hq0_1 := (ite_f h1_2).symm.trans hq0_1
     have h1_4 := of_decide_eq_false h1_2
     refine st_no hf rfl rfl (lk_b rfl h1_2) rfl rfl rfl fun a hf => st_no hf rfl rfl (lk_b rfl h1_2) rfl rfl rfl fun a hf => st_y hf rfl rfl rfl (y_pick_f rfl (ev_b rfl h1_2) rfl) fun a hf => st_y hf rfl rfl rfl (y_assign rfl rfl) fun a hf => st_end (x_then_n ?_)
     obtain rfl := Option.some.inj hq0_1
     exact ⟨hf.sub ⟨rfl, trivial⟩, hm.pick [] (by decide) rfl⟩
   ·
    replace hq0_1 := (ite_f h1_1).symm.trans hq0_1
    refine st_no hf rfl rfl (lk_b rfl h1_1) rfl rfl rfl fun a hf => st_no hf rfl rfl (lk_b rfl h1_1) rfl rfl rfl fun a hf => st_y hf rfl rfl rfl (y_pick_f rfl (ev_b rfl h1_1) rfl) fun a hf => st_y hf rfl rfl rfl (y_move rfl rfl) fun a hf => st_no hf rfl rfl (lk_b rfl rfl) rfl rfl rfl fun a hf => st_no hf rfl rfl (lk_b rfl rfl) rfl rfl rfl fun a hf => st_y hf rfl rfl rfl (y_pick_f rfl (ev_b rfl rfl) rfl) fun a hf => st_y hf rfl rfl rfl (y_assign rfl rfl) fun a hf => st_end ?_
    refine x_then_n ?_
    obtain rfl := Option.some.inj hq0_1
    exact ⟨hf.sub ⟨rfl, trivial⟩, hm.pick [] (by decide) rfl⟩
  ·
   clear hf hm
   rintro a w ⟨hf, hm⟩
   refine x_then_n (wp_ret ?_)
   obtain rfl := Option.some.inj hq
   refine ret_tmp hf Tryz.results102 rfl ?_
   exact ⟨rfl, hm.below⟩

theorem spec_l7Args_ok (w0 : World) (op : Int) (r : Int) (hq : spec_l7Args op = some r) :
    Con Tryz.prog 103 [(.int .i64 (op))] w0 (fun v w' => v = (.int .i64 (r)) ∧ Below w0.heap.size w0 w') := by
  unfold spec_l7Args at hq
  refine con_body (l := [(0, (.int .i64 (op)))]) Tryz.func103 rfl Tryz.ntmps103 (Args.get ⟨rfl, trivial⟩) rfl ?_
  intro a hf
  have hm := Mem.start w0
  refine wp_seq (wp_region_lit (st_y hf rfl rfl rfl (y_assign rfl rfl) fun a hf => st_end (x_then_n (wp_seq (wp_block (wp_seq (wp_region_lit ?_)))))))
  refine st_y hf rfl rfl rfl (y_move rfl rfl) fun a hf => st_y hf rfl rfl rfl (y_eql rfl rfl rfl) fun a hf => st_y hf rfl rfl rfl (y_assign rfl rfl) fun a hf => st_end (x_then_n ?_)
  rcases bcases (decide (op = 1)) with h0_1 | h0_1
  ·
   replace hq := (ite_t h0_1).symm.trans hq
   have h0_2 := of_decide_eq_true h0_1
   refine cond_t hf rfl h0_1 (wp_seq (wp_region_lit (st_y hf rfl rfl rfl (y_assign rfl rfl) fun a hf => st_end (x_then_n (wp_ret (x_blk_ret (x_then_ret ?_)))))))
   obtain rfl := Option.some.inj hq
   refine ret_tmp hf Tryz.results103 rfl ?_
   exact ⟨rfl, hm.below⟩
  ·
   replace hq := (ite_f h0_1).symm.trans hq
   have h0_3 := of_decide_eq_false h0_1
   refine cond_f hf rfl h0_1 (wp_seq ?_)
   obtain ⟨s0_1, hq0_1, hq⟩ := bnd hq
   refine code_cut (K := fun a w => Fr 28 [(0, (.int .i64 (op))), (6, (.bool (s0_1)))] a ∧ Mem w0 (hp w0) w []) ?_ ?_
   ·
    refine wp_region_lit (st_y hf rfl rfl rfl (y_move rfl rfl) fun a hf => st_y hf rfl rfl rfl (y_eql rfl rfl rfl) fun a hf => st_y hf rfl rfl rfl (y_move rfl rfl) fun a hf => ?_)
    rcases bcases (decide (op = 2)) with h1_1 | h1_1
    ·
     replace hq0_1 := (ite_t h1_1).symm.trans hq0_1
     have h1_2 := of_decide_eq_true h1_1
     refine st_no hf rfl rfl (lk_b rfl h1_1) rfl rfl rfl fun a hf => st_no hf rfl rfl (lk_b rfl h1_1) rfl rfl rfl fun a hf => st_y hf rfl rfl rfl (y_pick_t rfl (ev_b rfl h1_1) rfl) fun a hf => st_y hf rfl rfl rfl (y_move rfl rfl) fun a hf => st_no hf rfl rfl (lk_b rfl rfl) rfl rfl rfl fun a hf => st_no hf rfl rfl (lk_b rfl rfl) rfl rfl rfl fun a hf => st_y hf rfl rfl rfl (y_pick_t rfl (ev_b rfl rfl) rfl) fun a hf => st_y hf rfl rfl rfl (y_move rfl rfl) fun a hf => st_no hf rfl rfl (lk_b rfl rfl) rfl rfl rfl fun a hf => ?_
     refine st_no hf rfl rfl (lk_b rfl rfl) rfl rfl rfl fun a hf => st_y hf rfl rfl rfl (y_pick_t rfl (ev_b rfl rfl) rfl) fun a hf => st_y hf rfl rfl rfl (y_assign rfl rfl) fun a hf => st_end (x_then_n ?_)
     obtain rfl := Option.some.inj hq0_1
     exact ⟨hf.sub ⟨rfl, rfl, trivial⟩, hm.pick [] (by decide) rfl⟩
    ·
     replace hq0_1 := (ite_f h1_1).symm.trans hq0_1
     have h1_3 := of_decide_eq_false h1_1
     refine st_yg hf rfl rfl (lk_b rfl h1_1) rfl rfl (y_move rfl rfl) fun a hf => st_yg hf rfl rfl (lk_b rfl h1_1) rfl rfl (y_eql rfl rfl rfl) fun a hf => st_y hf rfl rfl rfl (y_pick_f rfl (ev_b rfl h1_1) rfl) fun a hf => st_y hf rfl rfl rfl (y_move rfl rfl) fun a hf => ?_
     rcases bcases (decide (op = 10)) with h1_4 | h1_4
     ·
      replace hq0_1 := (ite_t h1_4).symm.trans hq0_1
      have h1_5 := of_decide_eq_true h1_4
      refine st_no hf rfl rfl (lk_b rfl h1_4) rfl rfl rfl fun a hf => st_no hf rfl rfl (lk_b rfl h1_4) rfl rfl rfl fun a hf => st_y hf rfl rfl rfl (y_pick_t rfl (ev_b rfl h1_4) rfl) fun a hf => st_y hf rfl rfl rfl (y_move rfl rfl) fun a hf => st_no hf rfl rfl (lk_b rfl rfl) rfl rfl rfl fun a hf => st_no hf rfl rfl (lk_b rfl rfl) rfl rfl rfl fun a hf => st_y hf rfl rfl rfl (y_pick_t rfl (ev_b rfl rfl) rfl) fun a hf => st_y hf rfl rfl rfl (y_assign rfl rfl) fun a hf => st_end ?_
      refine x_then_n ?_
      obtain rfl := Option.some.inj hq0_1
      exact ⟨hf.sub ⟨rfl, rfl, trivial⟩, hm.pick [] (by decide) rfl⟩
     ·
      replace hq0_1 := (ite_f h1_4).symm.trans hq0_1
      have h1_6 := of_decide_eq_false h1_4
      refine st_yg hf rfl rfl (lk_b rfl h1_4) rfl rfl (y_move rfl rfl) fun a hf => st_yg hf rfl rfl (lk_b rfl h1_4) rfl rfl (y_eql rfl rfl rfl) fun a hf => st_y hf rfl rfl rfl (y_pick_f rfl (ev_b rfl h1_4) rfl) fun a hf => st_y hf rfl rfl rfl (y_move rfl rfl) fun a hf => ?_
      rcases bcases (decide (op = 11)) with h1_7 | h1_7
      ·
       replace hq0_1 := (ite_t h1_7).symm.trans hq0_1
       have h1_8 := of_decide_eq_true h1_7
       refine st_no hf rfl rfl (lk_b rfl h1_7) rfl rfl rfl fun a hf => st_no hf rfl rfl (lk_b rfl h1_7) rfl rfl rfl fun a hf => st_y hf rfl rfl rfl (y_pick_t rfl (ev_b rfl h1_7) rfl) fun a hf => st_y hf rfl rfl rfl (y_assign rfl rfl) fun a hf => st_end (x_then_n ?_)
       obtain rfl := Option.some.inj hq0_1
       exact ⟨hf.sub ⟨rfl, rfl, trivial⟩, hm.pick [] (by decide) rfl⟩
      ·
       replace hq0_1 := (ite_f h1_7).symm.trans hq0_1
       have h1_9 := of_decide_eq_false h1_7
       refine st_yg hf rfl rfl (lk_b rfl h1_7) rfl rfl (y_move rfl rfl) fun a hf => st_yg hf rfl rfl (lk_b rfl h1_7) rfl rfl (y_eql rfl rfl rfl) fun a hf => st_y hf rfl rfl rfl (y_pick_f rfl (ev_b rfl h1_7) rfl) fun a hf => st_y hf rfl rfl rfl (y_assign rfl rfl) fun a hf => st_end (x_then_n ?_)
       obtain rfl := Option.some.inj hq0_1
       exact ⟨hf.sub ⟨rfl, rfl, trivial⟩, hm.pick [] (by decide) rfl⟩
   ·
    clear hf hm
    rintro a w ⟨hf, hm⟩
    refine x_then_n ?_
    rcases bcases (s0_1) with h0_4 | h0_4
    ·
     replace hq := (ite_t h0_4).symm.trans hq
     refine cond_t hf rfl h0_4 (wp_seq (wp_region_lit (st_y hf rfl rfl rfl (y_assign rfl rfl) fun a hf => st_end (x_then_n (wp_ret (x_blk_ret (x_then_ret ?_)))))))
     obtain rfl := Option.some.inj hq
     refine ret_tmp hf Tryz.results103 rfl ?_
     exact ⟨rfl, hm.below⟩
    ·
     replace hq := (ite_f h0_4).symm.trans hq
     refine cond_f hf rfl h0_4 (wp_seq ?_)
     obtain ⟨s0_2, hq0_2, hq⟩ := bnd hq
     refine code_cut (K := fun a w => Fr 28 [(21, (.bool (s0_2)))] a ∧ Mem w0 (hp w0) w []) ?_ ?_
     ·
      refine wp_region_lit (st_y hf rfl rfl rfl (y_move rfl rfl) fun a hf => ?_)
      obtain ⟨r1_1, hx1_1, hq0_2⟩ := bnd hq0_2
      refine st_ef hf rfl rfl rfl (e_call hf rfl Tryz.call29 rfl (spec_l1In_ok _ op 3 9 _ hx1_1)) ?_
      clear hf a; rintro v1_1 w1_1 a ho1_1 hf
      obtain ⟨rfl, hB⟩ := ho1_1
      replace hm := hm.below' hB; clear hB
      refine st_y hf rfl rfl rfl (y_move rfl rfl) fun a hf => ?_
      rcases bcases (r1_1) with h1_10 | h1_10
      ·
       replace hq0_2 := (ite_t h1_10).symm.trans hq0_2
       refine st_no hf rfl rfl (lk_b rfl h1_10) rfl rfl rfl fun a hf => st_no hf rfl rfl (lk_b rfl h1_10) rfl rfl rfl fun a hf => st_y hf rfl rfl rfl (y_pick_t rfl (ev_b rfl h1_10) rfl) fun a hf => st_y hf rfl rfl rfl (y_assign rfl rfl) fun a hf => st_end (x_then_n ?_)
       obtain rfl := Option.some.inj hq0_2
       exact ⟨hf.sub ⟨rfl, trivial⟩, hm.pick [] (by decide) rfl⟩
      ·
       replace hq0_2 := (ite_f h1_10).symm.trans hq0_2
       refine st_yg hf rfl rfl (lk_b rfl h1_10) rfl rfl (y_move rfl rfl) fun a hf => st_yg hf rfl rfl (lk_b rfl h1_10) rfl rfl (y_eql rfl rfl rfl) fun a hf => st_y hf rfl rfl rfl (y_pick_f rfl (ev_b rfl h1_10) rfl) fun a hf => st_y hf rfl rfl rfl (y_assign rfl rfl) fun a hf => st_end (x_then_n ?_)
       obtain rfl := Option.some.inj hq0_2
       exact ⟨hf.sub ⟨rfl, trivial⟩, hm.pick [] (by decide) rfl⟩
     ·
      clear hf hm
      rintro a w ⟨hf, hm⟩
      refine x_then_n ?_
      rcases bcases (s0_2) with h0_5 | h0_5
      ·
       replace hq := (ite_t h0_5).symm.trans hq
       refine cond_t hf rfl h0_5 (wp_seq (wp_region_lit (st_y hf rfl rfl rfl (y_assign rfl rfl) fun a hf => st_end (x_then_n (wp_ret (x_blk_ret (x_then_ret ?_)))))))
       obtain rfl := Option.some.inj hq
       refine ret_tmp hf Tryz.results103 rfl ?_
       exact ⟨rfl, hm.below⟩
      ·
       replace hq := (ite_f h0_5).symm.trans hq
       refine cond_f hf rfl h0_5 (wp_skip (x_blk_n (x_then_n (wp_seq (wp_region_lit (st_y hf rfl rfl rfl (y_assign rfl rfl) fun a hf => st_end (x_then_n ?_)))))))
       refine wp_ret ?_
       obtain rfl := Option.some.inj hq
       refine ret_tmp hf Tryz.results103 rfl ?_
       exact ⟨rfl, hm.below⟩

theorem spec_l7Ins_ok (w0 : World) (u : Unit_) (v1 : Value) (h1 : GT.rep (hp w0) [v1] u.codes) (k_ : Int) (x_ : Ins_) (v2 : Value) (h2 : GT.rep (hp w0) [v2] x_.args) (r : Bool) (hq : spec_l7Ins u k_ x_ = some r) :
    Con Tryz.prog 75 [(.agg #[v1]), (.int .i64 (k_)), (.agg #[(.int .i64 (x_.op)), (.int .i64 (x_.to)), v2, (.int .i64 (x_.n_))])] w0 (fun v w' => v = (.bool (r)) ∧ Below w0.heap.size w0 w') := by
  unfold spec_l7Ins at hq
  refine con_body (l := [(0, (.agg #[v1])), (1, (.int .i64 (k_))), (2, (.agg #[(.int .i64 (x_.op)), (.int .i64 (x_.to)), v2, (.int .i64 (x_.n_))]))]) Tryz.func75 rfl Tryz.ntmps75 (Args.get ⟨rfl, rfl, rfl, trivial⟩) rfl ?_
  intro a hf
  have hm := Mem.start w0
  refine wp_seq (wp_region_lit (st_ef hf rfl rfl rfl (e_box hf hm rfl rfl rfl) ?_))
  clear hf a; rintro _ w0_1 a ⟨b0_1, rfl, hm⟩ hf
  refine st_ef hf rfl rfl rfl (e_box hf hm rfl rfl rfl) ?_
  clear hf a; rintro _ w0_2 a ⟨b0_2, rfl, hm⟩ hf
  refine st_y hf rfl rfl rfl (y_assign rfl rfl) fun a hf => st_end (x_then_n (wp_seq (wp_region_lit (st_y hf rfl rfl rfl (y_fieldAddr fo_30_0 rfl rfl) fun a hf => st_y hf rfl rfl rfl (y_load1 Tryz.isAgg28 rfl rfl (hm.blk_cell 1 rfl rfl)) fun a hf => st_y hf rfl rfl rfl (y_move rfl rfl) fun a hf => ?_))))
  obtain ⟨x0_1, hx0_1, hq⟩ := bnd hq
  obtain ⟨h0_1, hx0_2⟩ := getI_some.1 hx0_1
  obtain ⟨b0_3, o0_1, c0_1, he⟩ := idx_form' h1 hx0_2
  subst he
  obtain ⟨_, _, hc0_1, hr0_1⟩ := ro_get' h1 hx0_2
  obtain ⟨_, _, rfl, rfl, _, _, rfl, rfl, h0_2⟩ := hr0_1
  obtain ⟨v0_1, rfl, -⟩ := id h0_2
  replace h0_2 : GT.rep (hp w0) [v0_1] x0_1.blocks := h0_2
  replace hc0_1 : CellsAt (hp w0) b0_3 (o0_1 + (k_).toNat * 3) [(.int .i64 (x0_1.params)), (.int .i64 (x0_1.regs)), v0_1] := hc0_1
  refine st_y hf rfl rfl rfl (y_indexAddr st_28 rfl rfl rfl h0_1 (idx_lt hx0_2)) fun a hf => st_y hf rfl rfl rfl (y_loadN (cs := [(.int .i64 (x0_1.params)), (.int .i64 (x0_1.regs)), v0_1]) Tryz.isAgg69 Tryz.sizeOf69 rfl rfl (hc0_1.mono hm.lez)) fun a hf => st_ef hf rfl rfl rfl (e_alloc hm Tryz.zeroValue69 rfl rfl) ?_
  clear hf a; rintro _ w0_3 a ⟨b0_4, rfl, hm⟩ hf
  refine st_ef0 hf rfl rfl (e_storeN 0 hf hm rfl Tryz.sizeOf69 rfl rfl rfl (one_cons rfl (one_cons rfl (one_cons (rep_one h0_2) one_nil))) rfl rfl) ?_
  clear hf a; rintro _ w0_4 a hm hf
  refine st_end (x_then_n (wp_seq (wp_seq ?_)))
  obtain ⟨s0_1, hq0_1, hq⟩ := bnd hq
  refine code_cut (K := fun a w => Fr 88 [(1, (.int .i64 (k_))), (3, (.pointer (some ⟨b0_1, 0, none⟩))), (5, (.pointer (some ⟨b0_2, 0, none⟩))), (7, (.pointer (some ⟨b0_4, 0, none⟩))), (23, (.bool (s0_1)))] a ∧ Mem w0 (hp w0) w [blk b0_1 [(.slice (some ⟨b0_3, o0_1, none⟩) u.codes.length c0_1)] 30, blk b0_2 [(.int .i64 (x_.op)), (.int .i64 (x_.to)), v2, (.int .i64 (x_.n_))] 91, blk b0_4 [(.int .i64 (x0_1.params)), (.int .i64 (x0_1.regs)), v0_1] 69]) ?_ ?_
  ·
   refine wp_region_lit (st_y hf rfl rfl rfl (y_fieldAddr fo_91_0 rfl rfl) fun a hf => st_y hf rfl rfl rfl (y_load1 Tryz.isAgg3 rfl rfl (hm.blk_cell 1 rfl rfl)) fun a hf => ?_)
   obtain ⟨r1_1, hx1_1, hq0_1⟩ := bnd hq0_1
   refine st_ef hf rfl rfl rfl (e_call hf rfl Tryz.call29 rfl (spec_l1In_ok _ x_.op 1 14 _ hx1_1)) ?_
   clear hf a; rintro v1_1 w1_1 a ho1_1 hf
   obtain ⟨rfl, hB⟩ := ho1_1
   replace hm := hm.below' hB; clear hB
   refine st_y hf rfl rfl rfl (y_not rfl rfl) fun a hf => st_y hf rfl rfl rfl (y_move rfl rfl) fun a hf => ?_
   rcases bcases (!(r1_1)) with h1_1 | h1_1
   ·
    replace hq0_1 := (ite_t h1_1).symm.trans hq0_1
    have h1_2 := bnot_t' h1_1
    refine st_no hf rfl rfl (lk_b rfl h1_1) rfl rfl rfl fun a hf => st_no hf rfl rfl (lk_b rfl h1_1) rfl rfl rfl fun a hf => st_no hf rfl rfl (lk_b rfl h1_1) rfl rfl rfl fun a hf => st_no hf rfl rfl (lk_b rfl h1_1) rfl rfl rfl fun a hf => st_no hf rfl rfl (lk_b rfl h1_1) rfl rfl rfl fun a hf => st_y hf rfl rfl rfl (y_pick_t rfl (ev_b rfl h1_1) rfl) fun a hf => st_end (x_then_n ?_)
    obtain rfl := Option.some.inj hq0_1
    exact ⟨hf.sub ⟨rfl, rfl, rfl, rfl, rfl, trivial⟩, hm.pick [2, 1, 0] (by decide) rfl⟩
   ·
    replace hq0_1 := (ite_f h1_1).symm.trans hq0_1
    have h1_3 := bnot_f' h1_1
    refine st_yg hf rfl rfl (lk_b rfl h1_1) rfl rfl (y_loadN (cs := [(.int .i64 (x0_1.params)), (.int .i64 (x0_1.regs)), v0_1]) Tryz.isAgg69 Tryz.sizeOf69 rfl rfl (hm.blk_at 0 rfl)) fun a hf => st_yg hf rfl rfl (lk_b rfl h1_1) rfl rfl (y_fieldAddr fo_91_2 rfl rfl) fun a hf => st_yg hf rfl rfl (lk_b rfl h1_1) rfl rfl (y_load1 Tryz.isAgg25 rfl rfl (hm.blk_cell 1 rfl rfl)) fun a hf => ?_
    obtain ⟨r1_2, hx1_2, hq0_1⟩ := bnd hq0_1
    refine st_efg hf rfl rfl (lk_b rfl h1_1) rfl rfl (e_call hf rfl Tryz.call77 rfl (spec_l7Regs_ok _ x0_1 v0_1 (hm.now h0_2) x_.args v2 (hm.now h2) _ hx1_2)) ?_
    clear hf a; rintro v1_2 w1_2 a ho1_2 hf
    obtain ⟨rfl, hB⟩ := ho1_2
    replace hm := hm.below' hB; clear hB
    refine st_yg hf rfl rfl (lk_b rfl h1_1) rfl rfl (y_not rfl rfl) fun a hf => st_y hf rfl rfl rfl (y_pick_f rfl (ev_b rfl h1_1) rfl) fun a hf => st_end (x_then_n ?_)
    obtain rfl := Option.some.inj hq0_1
    exact ⟨hf.sub ⟨rfl, rfl, rfl, rfl, rfl, trivial⟩, hm.pick [2, 1, 0] (by decide) rfl⟩
  ·
   clear hf hm
   rintro a w ⟨hf, hm⟩
   refine x_then_n ?_
   rcases bcases (s0_1) with h0_3 | h0_3
   ·
    replace hq := (ite_t h0_3).symm.trans hq
    refine cond_t hf rfl h0_3 (wp_seq (wp_region_lit (st_y hf rfl rfl rfl (y_assign rfl rfl) fun a hf => st_end (x_then_n (wp_ret (x_then_ret ?_))))))
    obtain rfl := Option.some.inj hq
    refine ret_tmp hf Tryz.results75 rfl ?_
    exact ⟨rfl, hm.below⟩
   ·
    replace hq := (ite_f h0_3).symm.trans hq
    refine cond_f hf rfl h0_3 (wp_skip (x_then_n (wp_seq (wp_seq ?_))))
    obtain ⟨s0_2, hq0_2, hq⟩ := bnd hq
    refine code_cut (K := fun a w => Fr 88 [(1, (.int .i64 (k_))), (3, (.pointer (some ⟨b0_1, 0, none⟩))), (5, (.pointer (some ⟨b0_2, 0, none⟩))), (44, (.bool (s0_2)))] a ∧ Mem w0 (hp w0) w [blk b0_1 [(.slice (some ⟨b0_3, o0_1, none⟩) u.codes.length c0_1)] 30, blk b0_2 [(.int .i64 (x_.op)), (.int .i64 (x_.to)), v2, (.int .i64 (x_.n_))] 91]) ?_ ?_
    ·
     refine wp_tree (.p 0 (.p 3 (.p 5 (.q 1 (.q 4 (.q 6 (.p 7 (.e 2 (.e 8 (.p 9 (.p 10 (.p 11 (.e 12 (.e 13 (.p 14 (.p 15 (.p 16 (.e 17 (.p 18 (.p 19 (.p 20 .fin))) .nil)))) .nil) .nil)))) .nil) .nil)))))))) [1, 2, 4, 6] [0, 3, 5, 7, 9, 10, 11, 14, 15, 16, 18, 19, 20] (fun w => Mem w0 (hp w0) w [blk b0_1 [(.slice (some ⟨b0_3, o0_1, none⟩) u.codes.length c0_1)] 30, blk b0_2 [(.int .i64 (x_.op)), (.int .i64 (x_.to)), v2, (.int .i64 (x_.n_))] 91, blk b0_4 [(.int .i64 (x0_1.params)), (.int .i64 (x0_1.regs)), v0_1] 69]) (by kernel_rfl) (by kernel_rfl) (fun _ _ _ h => h.2) ?_
     replace hm := hm.drew
     have hS : Mem w0 (hp w0) _ [blk b0_1 [(.slice (some ⟨b0_3, o0_1, none⟩) u.codes.length c0_1)] 30, blk b0_2 [(.int .i64 (x_.op)), (.int .i64 (x_.to)), v2, (.int .i64 (x_.n_))] 91, blk b0_4 [(.int .i64 (x0_1.params)), (.int .i64 (x0_1.regs)), v0_1] 69] := hm.pick [0, 1, 2] (by decide) rfl
     refine td_p hf rfl rfl rfl rfl (fun w => y_fieldAddr fo_91_0 rfl rfl) fun a hf => td_p hf rfl rfl rfl rfl (fun w => y_fieldAddr fo_91_1 rfl rfl) fun a hf => td_p hf rfl rfl rfl rfl (fun w => y_fieldAddr fo_69_1 rfl rfl) fun a hf => td_y hf rfl rfl rfl rfl hS (fun w hm => y_load1 Tryz.isAgg3 rfl rfl (hm.blk_cell 1 rfl rfl)) fun a hf => td_y hf rfl rfl rfl rfl hS (fun w hm => y_load1 Tryz.isAgg3 rfl rfl (hm.blk_cell 1 rfl rfl)) fun a hf => td_y hf rfl rfl rfl rfl hS (fun w hm => y_load1 Tryz.isAgg3 rfl rfl (hm.blk_cell 2 rfl rfl)) fun a hf => td_p hf rfl rfl rfl rfl (fun w => y_subw rfl rfl rfl) fun a hf => te_one ?_
     obtain ⟨r1_3, hx1_3, hq0_2⟩ := bnd hq0_2
     refine td_ef hf rfl rfl rfl rfl (e_call hf rfl Tryz.call102 rfl (spec_l7Makes_ok _ x_.op _ hx1_3)) ?_
     clear hf a; rintro v1_3 w1_3 a ho1_3 hf
     obtain ⟨rfl, hB⟩ := ho1_3
     replace hm := hm.below' hB; clear hB
     clear hS
     have hS : Mem w0 (hp w0) _ [blk b0_1 [(.slice (some ⟨b0_3, o0_1, none⟩) u.codes.length c0_1)] 30, blk b0_2 [(.int .i64 (x_.op)), (.int .i64 (x_.to)), v2, (.int .i64 (x_.n_))] 91, blk b0_4 [(.int .i64 (x0_1.params)), (.int .i64 (x0_1.regs)), v0_1] 69] := hm.pick [0, 1, 2] (by decide) rfl
     refine ⟨fun _ => hS, ?_⟩
     refine te_one ?_
     obtain ⟨r1_4, hx1_4, hq0_2⟩ := bnd hq0_2
     refine td_ef hf rfl rfl rfl rfl (e_call hf rfl Tryz.call29 rfl (spec_l1In_ok _ x_.to 0 (w64 (x0_1.regs - 1)) _ hx1_4)) ?_
     clear hf a; rintro v1_4 w1_4 a ho1_4 hf
     obtain ⟨rfl, hB⟩ := ho1_4
     replace hm := hm.below' hB; clear hB
     refine ⟨fun h => absurd h (by decide), ?_⟩
     refine td_p hf rfl rfl rfl rfl (fun w => y_neqb Tryz.underlying4 rfl rfl rfl) fun a hf => td_p hf rfl rfl rfl rfl (fun w => y_move rfl rfl) fun a hf => ?_
     rcases bcases (decide (r1_3 ≠ r1_4)) with h1_4 | h1_4
     ·
      replace hq0_2 := (ite_t h1_4).symm.trans hq0_2
      have h1_5 := of_decide_eq_true h1_4
      refine td_pno hf rfl rfl rfl (lk_b rfl h1_4) rfl rfl rfl fun a hf => te_one (td_no' hf rfl rfl rfl (lk_b rfl h1_4) rfl rfl rfl fun a hf => ⟨fun h => absurd h (by decide), ?_⟩)
      refine te_one (td_no' hf rfl rfl rfl (lk_b rfl h1_4) rfl rfl rfl fun a hf => ⟨fun h => absurd h (by decide), ?_⟩)
      refine td_pno hf rfl rfl rfl (lk_b rfl h1_4) rfl rfl rfl fun a hf => td_pno hf rfl rfl rfl (lk_b rfl h1_4) rfl rfl rfl fun a hf => td_pnou hf rfl rfl rfl rfl rfl rfl fun a hf => te_one (td_nou' hf rfl rfl rfl rfl rfl rfl fun a hf => ⟨fun h => absurd h (by decide), ?_⟩)
      refine td_pnou hf rfl rfl rfl rfl rfl rfl fun a hf => td_pno hf rfl rfl rfl (lk_b rfl h1_4) rfl rfl rfl fun a hf => td_p hf rfl rfl rfl rfl (fun w => y_pick_t rfl (ev_b rfl h1_4) rfl) fun a hf => ?_
      clear hS; refine td_end ?_
      refine x_then_n ?_
      obtain rfl := Option.some.inj hq0_2
      exact ⟨hf.sub ⟨rfl, rfl, rfl, rfl, trivial⟩, hm.pick [0, 1] (by decide) rfl⟩
     ·
      replace hq0_2 := (ite_f h1_4).symm.trans hq0_2
      have h1_6 := of_decide_eq_false h1_4
      refine td_pg hf rfl rfl rfl (lk_b rfl h1_4) rfl rfl (fun w => y_fieldAddr fo_91_0 rfl rfl) fun a hf => te_one (td_efg hf rfl rfl rfl (lk_b rfl h1_4) rfl rfl (ef_y hf (y_load1 Tryz.isAgg3 rfl rfl (hm.blk_cell 1 rfl rfl))) ?_)
      clear hf a; rintro _ _ a ⟨rfl, rfl⟩ hf
      refine ⟨fun h => absurd h (by decide), ?_⟩
      refine te_one ?_
      obtain ⟨r1_5, hx1_5, hq0_2⟩ := bnd hq0_2
      refine td_efg hf rfl rfl rfl (lk_b rfl h1_4) rfl rfl (e_call hf rfl Tryz.call102 rfl (spec_l7Makes_ok _ x_.op _ hx1_5)) ?_
      clear hf a; rintro v1_5 w1_5 a ho1_5 hf
      obtain ⟨rfl, hB⟩ := ho1_5
      replace hm := hm.below' hB; clear hB
      refine ⟨fun h => absurd h (by decide), ?_⟩
      refine td_pg hf rfl rfl rfl (lk_b rfl h1_4) rfl rfl (fun w => y_not rfl rfl) fun a hf => td_pg hf rfl rfl rfl (lk_b rfl h1_4) rfl rfl (fun w => y_move rfl rfl) fun a hf => ?_
      rcases bcases (!(r1_5)) with h1_7 | h1_7
      ·
       replace hq0_2 := (ite_t h1_7).symm.trans hq0_2
       have h1_8 := bnot_t' h1_7
       refine td_pg hf rfl rfl rfl (lk_b rfl h1_7) rfl rfl (fun w => y_fieldAddr fo_91_1 rfl rfl) fun a hf => te_one (td_efg hf rfl rfl rfl (lk_b rfl h1_7) rfl rfl (ef_y hf (y_load1 Tryz.isAgg3 rfl rfl (hm.blk_cell 1 rfl rfl))) ?_)
       clear hf a; rintro _ _ a ⟨rfl, rfl⟩ hf
       refine ⟨fun h => absurd h (by decide), ?_⟩
       refine td_pg hf rfl rfl rfl (lk_b rfl h1_7) rfl rfl (fun w => y_neq rfl rfl rfl) fun a hf => td_pg hf rfl rfl rfl (lk_b rfl h1_4) rfl rfl (fun w => y_pick_t rfl (ev_b rfl h1_7) rfl) fun a hf => td_p hf rfl rfl rfl rfl (fun w => y_pick_f rfl (ev_b rfl h1_4) rfl) fun a hf => ?_
       clear hS; refine td_end ?_
       refine x_then_n ?_
       obtain rfl := Option.some.inj hq0_2
       exact ⟨hf.sub ⟨rfl, rfl, rfl, rfl, trivial⟩, hm.pick [0, 1] (by decide) rfl⟩
      ·
       replace hq0_2 := (ite_f h1_7).symm.trans hq0_2
       have h1_9 := bnot_f' h1_7
       refine td_pno hf rfl rfl rfl (lk_b rfl h1_7) rfl rfl rfl fun a hf => te_one (td_no' hf rfl rfl rfl (lk_b rfl h1_7) rfl rfl rfl fun a hf => ⟨fun h => absurd h (by decide), ?_⟩)
       refine td_pno hf rfl rfl rfl (lk_b rfl h1_7) rfl rfl rfl fun a hf => td_pg hf rfl rfl rfl (lk_b rfl h1_4) rfl rfl (fun w => y_pick_f rfl (ev_b rfl h1_7) rfl) fun a hf => td_p hf rfl rfl rfl rfl (fun w => y_pick_f rfl (ev_b rfl h1_4) rfl) fun a hf => ?_
       clear hS; refine td_end ?_
       refine x_then_n ?_
       obtain rfl := Option.some.inj hq0_2
       exact ⟨hf.sub ⟨rfl, rfl, rfl, rfl, trivial⟩, hm.pick [0, 1] (by decide) rfl⟩
    ·
     clear hf hm
     rintro a w ⟨hf, hm⟩
     refine x_then_n ?_
     rcases bcases (s0_2) with h0_4 | h0_4
     ·
      replace hq := (ite_t h0_4).symm.trans hq
      refine cond_t hf rfl h0_4 (wp_seq (wp_region_lit (st_y hf rfl rfl rfl (y_assign rfl rfl) fun a hf => st_end (x_then_n (wp_ret (x_then_ret ?_))))))
      obtain rfl := Option.some.inj hq
      refine ret_tmp hf Tryz.results75 rfl ?_
      exact ⟨rfl, hm.below⟩
     ·
      replace hq := (ite_f h0_4).symm.trans hq
      refine cond_f hf rfl h0_4 (wp_skip (x_then_n (wp_seq (wp_seq (wp_region_lit (st_y hf rfl rfl rfl (y_fieldAddr fo_91_0 rfl rfl) fun a hf => st_y hf rfl rfl rfl (y_load1 Tryz.isAgg3 rfl rfl (hm.blk_cell 1 rfl rfl)) fun a hf => st_y hf rfl rfl rfl (y_eql rfl rfl rfl) fun a hf => ?_))))))
      refine st_end (x_then_n ?_)
      rcases bcases (decide (x_.op = 14)) with h0_5 | h0_5
      ·
       replace hq := (ite_t h0_5).symm.trans hq
       have h0_6 := of_decide_eq_true h0_5
       refine cond_t hf rfl h0_5 (wp_seq ?_)
       obtain ⟨s0_3, hq0_3, hq⟩ := bnd hq
       refine code_cut (K := fun a w => Fr 88 [(6, (.bool (s0_3)))] a ∧ Mem w0 (hp w0) w []) ?_ ?_
       ·
        refine wp_tree (.p 0 (.p 2 (.p 3 (.e 1 (.e 4 (.p 5 (.p 6 (.p 9 (.p 11 (.q 7 (.p 8 (.q 10 (.e 12 (.p 13 (.p 14 (.e 15 (.p 16 (.p 17 (.p 18 .fin))) .nil))) .nil)))))))) .nil) .nil)))) [7, 10, 12, 15] [0, 2, 3, 5, 6, 8, 9, 11, 13, 14, 16, 17, 18] (fun w => Mem w0 (hp w0) w [blk b0_1 [(.slice (some ⟨b0_3, o0_1, none⟩) u.codes.length c0_1)] 30, blk b0_2 [(.int .i64 (x_.op)), (.int .i64 (x_.to)), v2, (.int .i64 (x_.n_))] 91]) (by kernel_rfl) (by kernel_rfl) (fun _ _ _ h => h.2) ?_
        replace hm := hm.drew
        have hS : Mem w0 (hp w0) _ [blk b0_1 [(.slice (some ⟨b0_3, o0_1, none⟩) u.codes.length c0_1)] 30, blk b0_2 [(.int .i64 (x_.op)), (.int .i64 (x_.to)), v2, (.int .i64 (x_.n_))] 91] := hm.pick [0, 1] (by decide) rfl
        refine td_p hf rfl rfl rfl rfl (fun w => y_fieldAddr fo_91_3 rfl rfl) fun a hf => td_p hf rfl rfl rfl rfl (fun w => y_move rfl rfl) fun a hf => td_p hf rfl rfl rfl rfl (fun w => y_subw rfl rfl rfl) fun a hf => te_one (td_ef hf rfl rfl rfl rfl (ef_y hf (y_load1 Tryz.isAgg3 rfl rfl (hm.blk_cell 1 rfl rfl))) ?_)
        clear hf a; rintro _ _ a ⟨rfl, rfl⟩ hf
        refine ⟨fun h => absurd h (by decide), ?_⟩
        refine te_one ?_
        obtain ⟨r1_6, hx1_6, hq0_3⟩ := bnd hq0_3
        refine td_ef hf rfl rfl rfl rfl (e_call hf rfl Tryz.call29 rfl (spec_l1In_ok _ x_.n_ 0 (w64 (k_ - 1)) _ hx1_6)) ?_
        clear hf a; rintro v1_6 w1_6 a ho1_6 hf
        obtain ⟨rfl, hB⟩ := ho1_6
        replace hm := hm.below' hB; clear hB
        clear hS
        have hS : Mem w0 (hp w0) _ [blk b0_1 [(.slice (some ⟨b0_3, o0_1, none⟩) u.codes.length c0_1)] 30, blk b0_2 [(.int .i64 (x_.op)), (.int .i64 (x_.to)), v2, (.int .i64 (x_.n_))] 91] := hm.pick [0, 1] (by decide) rfl
        refine ⟨fun h => absurd h (by decide), ?_⟩
        refine td_p hf rfl rfl rfl rfl (fun w => y_move rfl rfl) fun a hf => ?_
        rcases bcases (r1_6) with h1_10 | h1_10
        ·
         replace hq0_3 := (ite_t h1_10).symm.trans hq0_3
         refine td_pg hf rfl rfl rfl (lk_b rfl h1_10) rfl rfl (fun w => y_fieldAddr fo_91_2 rfl rfl) fun a hf => td_pg hf rfl rfl rfl (lk_b rfl h1_10) rfl rfl (fun w => y_fieldAddr fo_30_0 rfl rfl) fun a hf => td_pg hf rfl rfl rfl (lk_b rfl h1_10) rfl rfl (fun w => y_fieldAddr fo_91_3 rfl rfl) fun a hf => td_yg hf rfl rfl rfl (lk_b rfl h1_10) rfl rfl hS (fun w hm => y_load1 Tryz.isAgg25 rfl rfl (hm.blk_cell 1 rfl rfl)) fun a hf => ?_
         obtain ⟨p1_1, c1_1, he, hl1_1⟩ := ro_slice h2
         subst he
         refine td_pg hf rfl rfl rfl (lk_b rfl h1_10) rfl rfl (fun w => y_len_slice st_25.und rfl rfl) fun a hf => td_yg hf rfl rfl rfl (lk_b rfl h1_10) rfl rfl hS (fun w hm => y_load1 Tryz.isAgg28 rfl rfl (hm.blk_cell 0 rfl rfl)) fun a hf => te_one (td_efg hf rfl rfl rfl (lk_b rfl h1_10) rfl rfl (ef_y hf (y_load1 Tryz.isAgg3 rfl rfl (hm.blk_cell 1 rfl rfl))) ?_)
         clear hf a; rintro _ _ a ⟨rfl, rfl⟩ hf
         refine ⟨fun _ => hS, ?_⟩
         obtain ⟨x1_1, hx1_7, hq0_3⟩ := bnd hq0_3
         obtain ⟨h1_11, hx1_8⟩ := getI_some.1 hx1_7
         obtain ⟨_, _, hc1_1, hr1_1⟩ := ro_get' h1 hx1_8
         obtain ⟨_, _, rfl, rfl, _, _, rfl, rfl, h1_12⟩ := hr1_1
         obtain ⟨v1_7, rfl, -⟩ := id h1_12
         replace h1_12 : GT.rep (hp w0) [v1_7] x1_1.blocks := h1_12
         replace hc1_1 : CellsAt (hp w0) b0_3 (o0_1 + (x_.n_).toNat * 3) [(.int .i64 (x1_1.params)), (.int .i64 (x1_1.regs)), v1_7] := hc1_1
         refine td_pg hf rfl rfl rfl (lk_b rfl h1_10) rfl rfl (fun w => y_indexAddr st_28 rfl rfl rfl h1_11 (idx_lt hx1_8)) fun a hf => td_pg hf rfl rfl rfl (lk_b rfl h1_10) rfl rfl (fun w => y_fieldAddr fo_69_0 rfl rfl) fun a hf => te_one (td_efg hf rfl rfl rfl (lk_b rfl h1_10) rfl rfl (ef_y hf (y_load1 Tryz.isAgg3 rfl rfl ((hc1_1.mono hm.lez).cell (j := 0) rfl))) ?_)
         clear hf a; rintro _ _ a ⟨rfl, rfl⟩ hf
         refine ⟨fun _ => hS, ?_⟩
         refine td_pg hf rfl rfl rfl (lk_b rfl h1_10) rfl rfl (fun w => y_eql rfl rfl rfl) fun a hf => td_p hf rfl rfl rfl rfl (fun w => y_pick_t rfl (ev_b rfl h1_10) rfl) fun a hf => td_p hf rfl rfl rfl rfl (fun w => y_assign rfl rfl) fun a hf => ?_
         clear hS; refine td_end ?_
         refine x_then_n ?_
         obtain rfl := Option.some.inj hq0_3
         exact ⟨hf.sub ⟨rfl, trivial⟩, hm.pick [] (by decide) rfl⟩
        ·
         replace hq0_3 := (ite_f h1_10).symm.trans hq0_3
         refine td_pno hf rfl rfl rfl (lk_b rfl h1_10) rfl rfl rfl fun a hf => td_pno hf rfl rfl rfl (lk_b rfl h1_10) rfl rfl rfl fun a hf => td_pno hf rfl rfl rfl (lk_b rfl h1_10) rfl rfl rfl fun a hf => td_no hf rfl rfl rfl (lk_b rfl h1_10) rfl rfl rfl hS fun a hf => td_pno hf rfl rfl rfl (lk_b rfl h1_10) rfl rfl rfl fun a hf => td_no hf rfl rfl rfl (lk_b rfl h1_10) rfl rfl rfl hS fun a hf => te_one (td_no' hf rfl rfl rfl (lk_b rfl h1_10) rfl rfl rfl fun a hf => ⟨fun _ => hS, ?_⟩)
         refine td_pno hf rfl rfl rfl (lk_b rfl h1_10) rfl rfl rfl fun a hf => td_pno hf rfl rfl rfl (lk_b rfl h1_10) rfl rfl rfl fun a hf => te_one (td_no' hf rfl rfl rfl (lk_b rfl h1_10) rfl rfl rfl fun a hf => ⟨fun _ => hS, ?_⟩)
         refine td_pno hf rfl rfl rfl (lk_b rfl h1_10) rfl rfl rfl fun a hf => td_p hf rfl rfl rfl rfl (fun w => y_pick_f rfl (ev_b rfl h1_10) rfl) fun a hf => td_p hf rfl rfl rfl rfl (fun w => y_assign rfl rfl) fun a hf => ?_
         clear hS; refine td_end ?_
         refine x_then_n ?_
         obtain rfl := Option.some.inj hq0_3
         exact ⟨hf.sub ⟨rfl, trivial⟩, hm.pick [] (by decide) rfl⟩
       ·
        clear hf hm
        rintro a w ⟨hf, hm⟩
        refine x_then_n (wp_ret (x_then_ret ?_))
        obtain rfl := Option.some.inj hq
        refine ret_tmp hf Tryz.results75 rfl ?_
        exact ⟨rfl, hm.below⟩
      ·
       replace hq := (ite_f h0_5).symm.trans hq
       have h0_7 := of_decide_eq_false h0_5
       refine cond_f hf rfl h0_5 (wp_skip (x_then_n (wp_seq ?_)))
       obtain ⟨s0_4, hq0_4, hq⟩ := bnd hq
       refine code_cut (K := fun a w => Fr 88 [(6, (.bool (s0_4)))] a ∧ Mem w0 (hp w0) w []) ?_ ?_
       ·
        refine wp_tree (.p 0 (.p 3 (.q 1 (.p 2 (.e 4 (.e 5 (.p 6 (.p 7 (.p 8 (.e 9 (.e 10 (.p 11 (.p 12 (.p 13 (.e 14 (.p 15 (.p 16 (.p 17 (.e 18 (.p 19 (.p 20 (.p 21 (.p 22 .fin)))) .nil)))) .nil)))) .nil) .nil)))) .nil) .nil))))) [4, 5] [0, 2, 3, 6, 7, 8, 11, 12, 13, 15, 16, 17, 19, 20, 21, 22] (fun w => Mem w0 (hp w0) w [blk b0_1 [(.slice (some ⟨b0_3, o0_1, none⟩) u.codes.length c0_1)] 30, blk b0_2 [(.int .i64 (x_.op)), (.int .i64 (x_.to)), v2, (.int .i64 (x_.n_))] 91]) (by kernel_rfl) (by kernel_rfl) (fun _ _ _ h => h.2) ?_
        replace hm := hm.drew
        have hS : Mem w0 (hp w0) _ [blk b0_1 [(.slice (some ⟨b0_3, o0_1, none⟩) u.codes.length c0_1)] 30, blk b0_2 [(.int .i64 (x_.op)), (.int .i64 (x_.to)), v2, (.int .i64 (x_.n_))] 91] := hm.pick [0, 1] (by decide) rfl
        refine td_p hf rfl rfl rfl rfl (fun w => y_fieldAddr fo_91_2 rfl rfl) fun a hf => td_p hf rfl rfl rfl rfl (fun w => y_fieldAddr fo_91_0 rfl rfl) fun a hf => td_y hf rfl rfl rfl rfl hS (fun w hm => y_load1 Tryz.isAgg25 rfl rfl (hm.blk_cell 1 rfl rfl)) fun a hf => ?_
        obtain ⟨p1_2, c1_2, he, hl1_2⟩ := ro_slice h2
        subst he
        refine td_p hf rfl rfl rfl rfl (fun w => y_len_slice st_25.und rfl rfl) fun a hf => te_one (td_ef hf rfl rfl rfl rfl (ef_y hf (y_load1 Tryz.isAgg3 rfl rfl (hm.blk_cell 1 rfl rfl))) ?_)
        clear hf a; rintro _ _ a ⟨rfl, rfl⟩ hf
        refine ⟨fun _ => hS, ?_⟩
        refine te_one ?_
        obtain ⟨r1_7, hx1_9, hq0_4⟩ := bnd hq0_4
        refine td_ef hf rfl rfl rfl rfl (e_call hf rfl Tryz.call103 rfl (spec_l7Args_ok _ x_.op _ hx1_9)) ?_
        clear hf a; rintro v1_8 w1_7 a ho1_7 hf
        obtain ⟨rfl, hB⟩ := ho1_7
        replace hm := hm.below' hB; clear hB
        clear hS
        have hS : Mem w0 (hp w0) _ [blk b0_1 [(.slice (some ⟨b0_3, o0_1, none⟩) u.codes.length c0_1)] 30, blk b0_2 [(.int .i64 (x_.op)), (.int .i64 (x_.to)), (.slice p1_2 x_.args.length c1_2), (.int .i64 (x_.n_))] 91] := hm.pick [0, 1] (by decide) rfl
        refine ⟨fun _ => hS, ?_⟩
        refine td_p hf rfl rfl rfl rfl (fun w => y_eql rfl rfl rfl) fun a hf => td_p hf rfl rfl rfl rfl (fun w => y_move rfl rfl) fun a hf => ?_
        rcases bcases (decide (((x_.args.length : Int)) = r1_7)) with h1_13 | h1_13
        ·
         replace hq0_4 := (ite_t h1_13).symm.trans hq0_4
         have h1_14 := of_decide_eq_true h1_13
         refine td_pg hf rfl rfl rfl (lk_b rfl h1_13) rfl rfl (fun w => y_fieldAddr fo_91_3 rfl rfl) fun a hf => te_one (td_efg hf rfl rfl rfl (lk_b rfl h1_13) rfl rfl (ef_y hf (y_load1 Tryz.isAgg3 rfl rfl (hm.blk_cell 1 rfl rfl))) ?_)
         clear hf a; rintro _ _ a ⟨rfl, rfl⟩ hf
         refine ⟨fun h => absurd h (by decide), ?_⟩
         refine te_one ?_
         obtain ⟨r1_8, hx1_10, hq0_4⟩ := bnd hq0_4
         refine td_efg hf rfl rfl rfl (lk_b rfl h1_13) rfl rfl (e_call hf rfl Tryz.call29 rfl (spec_l1In_ok _ x_.n_ 0 255 _ hx1_10)) ?_
         clear hf a; rintro v1_9 w1_8 a ho1_8 hf
         obtain ⟨rfl, hB⟩ := ho1_8
         replace hm := hm.below' hB; clear hB
         refine ⟨fun h => absurd h (by decide), ?_⟩
         refine td_p hf rfl rfl rfl rfl (fun w => y_pick_t rfl (ev_b rfl h1_13) rfl) fun a hf => td_p hf rfl rfl rfl rfl (fun w => y_move rfl rfl) fun a hf => ?_
         rcases bcases (r1_8) with h1_15 | h1_15
         ·
          replace hq0_4 := (ite_t h1_15).symm.trans hq0_4
          refine td_pg hf rfl rfl rfl (lk_b rfl h1_15) rfl rfl (fun w => y_fieldAddr fo_91_3 rfl rfl) fun a hf => te_one (td_efg hf rfl rfl rfl (lk_b rfl h1_15) rfl rfl (ef_y hf (y_load1 Tryz.isAgg3 rfl rfl (hm.blk_cell 1 rfl rfl))) ?_)
          clear hf a; rintro _ _ a ⟨rfl, rfl⟩ hf
          refine ⟨fun h => absurd h (by decide), ?_⟩
          refine td_pg hf rfl rfl rfl (lk_b rfl h1_15) rfl rfl (fun w => y_eql rfl rfl rfl) fun a hf => td_pg hf rfl rfl rfl (lk_b rfl h1_15) rfl rfl (fun w => y_move rfl rfl) fun a hf => ?_
          rcases bcases (decide (x_.n_ = 0)) with h1_16 | h1_16
          ·
           replace hq0_4 := (ite_t h1_16).symm.trans hq0_4
           have h1_17 := of_decide_eq_true h1_16
           refine td_pno hf rfl rfl rfl (lk_b rfl h1_16) rfl rfl rfl fun a hf => te_one (td_no' hf rfl rfl rfl (lk_b rfl h1_16) rfl rfl rfl fun a hf => ⟨fun h => absurd h (by decide), ?_⟩)
           refine td_pno hf rfl rfl rfl (lk_b rfl h1_16) rfl rfl rfl fun a hf => td_pg hf rfl rfl rfl (lk_b rfl h1_15) rfl rfl (fun w => y_pick_t rfl (ev_b rfl h1_16) rfl) fun a hf => td_p hf rfl rfl rfl rfl (fun w => y_pick_t rfl (ev_b rfl h1_15) rfl) fun a hf => td_p hf rfl rfl rfl rfl (fun w => y_assign rfl rfl) fun a hf => ?_
           clear hS; refine td_end ?_
           refine x_then_n ?_
           obtain rfl := Option.some.inj hq0_4
           exact ⟨hf.sub ⟨rfl, trivial⟩, hm.pick [] (by decide) rfl⟩
          ·
           replace hq0_4 := (ite_f h1_16).symm.trans hq0_4
           have h1_18 := of_decide_eq_false h1_16
           refine td_pg hf rfl rfl rfl (lk_b rfl h1_16) rfl rfl (fun w => y_fieldAddr fo_91_0 rfl rfl) fun a hf => te_one (td_efg hf rfl rfl rfl (lk_b rfl h1_16) rfl rfl (ef_y hf (y_load1 Tryz.isAgg3 rfl rfl (hm.blk_cell 1 rfl rfl))) ?_)
           clear hf a; rintro _ _ a ⟨rfl, rfl⟩ hf
           refine ⟨fun h => absurd h (by decide), ?_⟩
           refine td_pg hf rfl rfl rfl (lk_b rfl h1_16) rfl rfl (fun w => y_eql rfl rfl rfl) fun a hf => td_pg hf rfl rfl rfl (lk_b rfl h1_15) rfl rfl (fun w => y_pick_f rfl (ev_b rfl h1_16) rfl) fun a hf => td_p hf rfl rfl rfl rfl (fun w => y_pick_t rfl (ev_b rfl h1_15) rfl) fun a hf => td_p hf rfl rfl rfl rfl (fun w => y_assign rfl rfl) fun a hf => ?_
           clear hS; refine td_end ?_
           refine x_then_n ?_
           obtain rfl := Option.some.inj hq0_4
           exact ⟨hf.sub ⟨rfl, trivial⟩, hm.pick [] (by decide) rfl⟩
         ·
          replace hq0_4 := (ite_f h1_15).symm.trans hq0_4
          refine td_pno hf rfl rfl rfl (lk_b rfl h1_15) rfl rfl rfl fun a hf => te_one (td_no' hf rfl rfl rfl (lk_b rfl h1_15) rfl rfl rfl fun a hf => ⟨fun h => absurd h (by decide), ?_⟩)
          refine td_pno hf rfl rfl rfl (lk_b rfl h1_15) rfl rfl rfl fun a hf => td_pno hf rfl rfl rfl (lk_b rfl h1_15) rfl rfl rfl fun a hf => td_pnou hf rfl rfl rfl rfl rfl rfl fun a hf => te_one (td_nou' hf rfl rfl rfl rfl rfl rfl fun a hf => ⟨fun h => absurd h (by decide), ?_⟩)
          refine td_pnou hf rfl rfl rfl rfl rfl rfl fun a hf => td_pno hf rfl rfl rfl (lk_b rfl h1_15) rfl rfl rfl fun a hf => td_p hf rfl rfl rfl rfl (fun w => y_pick_f rfl (ev_b rfl h1_15) rfl) fun a hf => td_p hf rfl rfl rfl rfl (fun w => y_assign rfl rfl) fun a hf => ?_
          clear hS; refine td_end ?_
          refine x_then_n ?_
          obtain rfl := Option.some.inj hq0_4
          exact ⟨hf.sub ⟨rfl, trivial⟩, hm.pick [] (by decide) rfl⟩
        ·
         replace hq0_4 := (ite_f h1_13).symm.trans hq0_4
         have h1_19 := of_decide_eq_false h1_13
         refine td_pno hf rfl rfl rfl (lk_b rfl h1_13) rfl rfl rfl fun a hf => te_one (td_no' hf rfl rfl rfl (lk_b rfl h1_13) rfl rfl rfl fun a hf => ⟨fun h => absurd h (by decide), ?_⟩)
         refine te_one (td_no' hf rfl rfl rfl (lk_b rfl h1_13) rfl rfl rfl fun a hf => ⟨fun h => absurd h (by decide), ?_⟩)
         refine td_p hf rfl rfl rfl rfl (fun w => y_pick_f rfl (ev_b rfl h1_13) rfl) fun a hf => td_p hf rfl rfl rfl rfl (fun w => y_move rfl rfl) fun a hf => td_pno hf rfl rfl rfl (lk_b rfl rfl) rfl rfl rfl fun a hf => te_one (td_no' hf rfl rfl rfl (lk_b rfl rfl) rfl rfl rfl fun a hf => ⟨fun h => absurd h (by decide), ?_⟩)
         refine td_pno hf rfl rfl rfl (lk_b rfl rfl) rfl rfl rfl fun a hf => td_pno hf rfl rfl rfl (lk_b rfl rfl) rfl rfl rfl fun a hf => td_pnou hf rfl rfl rfl rfl rfl rfl fun a hf => te_one (td_nou' hf rfl rfl rfl rfl rfl rfl fun a hf => ⟨fun h => absurd h (by decide), ?_⟩)
         refine td_pnou hf rfl rfl rfl rfl rfl rfl fun a hf => td_pno hf rfl rfl rfl (lk_b rfl rfl) rfl rfl rfl fun a hf => td_p hf rfl rfl rfl rfl (fun w => y_pick_f rfl (ev_b rfl rfl) rfl) fun a hf => td_p hf rfl rfl rfl rfl (fun w => y_assign rfl rfl) fun a hf => ?_
         clear hS; refine td_end ?_
         refine x_then_n ?_
         obtain rfl := Option.some.inj hq0_4
         exact ⟨hf.sub ⟨rfl, trivial⟩, hm.pick [] (by decide) rfl⟩
       ·
        clear hf hm
        rintro a w ⟨hf, hm⟩
        refine x_then_n (wp_ret ?_)
        obtain rfl := Option.some.inj hq
        refine ret_tmp hf Tryz.results75 rfl ?_
        exact ⟨rfl, hm.below⟩

theorem spec_l7Preds_ok (w0 : World) (c_ : Code_) (v1 : Value) (h1 : GT.rep (hp w0) [v1] c_.blocks) (b_ : Int) (r : (List Int)) (hq : spec_l7Preds c_ b_ = some r) :
    Con Tryz.prog 76 [(.agg #[(.int .i64 (c_.params)), (.int .i64 (c_.regs)), v1]), (.int .i64 (b_))] w0 (fun v w' => ∃ (x1 : Value), v = x1 ∧ Mem w0 (hp w0) w' [ow [x1] r]) := by
  unfold spec_l7Preds at hq
  refine con_body (l := [(0, (.agg #[(.int .i64 (c_.params)), (.int .i64 (c_.regs)), v1])), (1, (.int .i64 (b_)))]) Tryz.func76 rfl Tryz.ntmps76 (Args.get ⟨rfl, rfl, trivial⟩) rfl ?_
  intro a hf
  have hm := Mem.start w0
  refine wp_seq (wp_region_lit (st_ef hf rfl rfl rfl (e_box hf hm rfl rfl rfl) ?_))
  clear hf a; rintro _ w0_1 a ⟨b0_1, rfl, hm⟩ hf
  refine st_y hf rfl rfl rfl (y_assign rfl rfl) fun a hf => st_end (x_then_n (wp_seq (wp_region_lit (st_ef hf rfl rfl rfl (e_build0 (α := Int) et_25 hm rfl) ?_))))
  clear hf a; rintro v0_1 w0_2 a hm hf
  refine st_y hf rfl rfl rfl (y_assign rfl rfl) fun a hf => st_end (x_then_n (wp_seq (wp_seq (wp_region_lit (st_y hf rfl rfl rfl (y_assign rfl rfl) fun a hf => st_end (x_then_n ?_))))))
  obtain ⟨p0_1, c0_1, he, hl0_1⟩ := ro_slice (hm.ow_rep 0 rfl)
  subst he
  refine wp_block ?_
  obtain ⟨r0_1, hl0_2, hq⟩ := bnd hq
  refine wp_forN _ (fun i1_1 xs1_1 a w => ∃ (v1_1 : Value), Fr 43 [(1, (.int .i64 (b_))), (2, (.pointer (some ⟨b0_1, 0, none⟩))), (5, v1_1), (6, (.int .i64 (i1_1)))] a ∧ Mem w0 (hp w0) w [blk b0_1 [(.int .i64 (c_.params)), (.int .i64 (c_.regs)), v1] 69, ow [v1_1] xs1_1]) (0) ((c_.blocks.length : Int)) hl0_2 ?_ ?_ ?_
  ·
   exact ⟨(.slice p0_1 ([] : List Int).length c0_1), hf.sub ⟨rfl, rfl, rfl, rfl, trivial⟩, hm.pick [1, 0] (by decide) rfl⟩
  ·
   clear hf hm
   rintro i1_1 xs1_1 a w ⟨v1_1, hf, hm⟩ hi1_1 hi1_2 q0_1 hb0_1 ho0_1
   refine wp_seq (wp_seq (wp_region_lit (st_y hf rfl rfl rfl (y_move rfl rfl) fun a hf => st_y hf rfl rfl rfl (y_fieldAddr fo_69_2 rfl rfl) fun a hf => st_y hf rfl rfl rfl (y_load1 Tryz.isAgg67 rfl rfl (hm.blk_cell 0 rfl rfl)) fun a hf => ?_)))
   obtain ⟨p1_1, c1_1, he, hl1_1⟩ := ro_slice h1
   subst he
   refine st_y hf rfl rfl rfl (y_len_slice st_67.und rfl rfl) fun a hf => st_y hf rfl rfl rfl (y_lss rfl rfl rfl) fun a hf => st_end (x_then_n (cond_t hf rfl (decide_eq_true (by omega)) (wp_skip (x_then_n (wp_seq (wp_block ?_))))))
   refine wp_seq (wp_region_lit (st_y hf rfl rfl rfl (y_assign rfl rfl) fun a hf => st_end (x_then_n ?_)))
   obtain ⟨p1_2, c1_2, he, hl1_2⟩ := ro_slice (hm.ow_rep 1 rfl)
   subst he
   obtain ⟨s1_1, hq1_1, hb0_1⟩ := bnd hb0_1
   refine code_cut (K := fun a w => ∃ (v1_2 : Value), Fr 43 [(1, (.int .i64 (b_))), (2, (.pointer (some ⟨b0_1, 0, none⟩))), (5, v1_2), (6, (.int .i64 (i1_1)))] a ∧ Mem w0 (hp w0) w [blk b0_1 [(.int .i64 (c_.params)), (.int .i64 (c_.regs)), (.slice p1_1 c_.blocks.length c1_1)] 69, ow [v1_2] s1_1]) ?_ ?_
   ·
    refine wp_block ?_
    obtain ⟨r2_1, hl2_1, hq1_1⟩ := bnd hq1_1
    refine wp_loopM _ (fun xs3_1 a w => Fr 43 [(1, (.int .i64 (b_))), (2, (.pointer (some ⟨b0_1, 0, none⟩))), (5, (.slice p1_2 xs1_1.length c1_2)), (6, (.int .i64 (i1_1))), (7, (.int .i64 (xs3_1)))] a ∧ Mem w0 (hp w0) w [blk b0_1 [(.int .i64 (c_.params)), (.int .i64 (c_.regs)), (.slice p1_1 c_.blocks.length c1_1)] 69, ow [(.slice p1_2 xs1_1.length c1_2)] xs1_1]) hl2_1 ?_ ?_
    ·
     exact ⟨hf.sub ⟨rfl, rfl, rfl, rfl, rfl, trivial⟩, hm.pick [0, 1] (by decide) rfl⟩
    ·
     clear hf hm
     rintro xs3_1 a w q2_1 ⟨hf, hm⟩ hb2_1 ho2_1
     refine wp_seq (wp_seq (wp_region_lit (st_y hf rfl rfl rfl (y_move rfl rfl) fun a hf => st_y hf rfl rfl rfl (y_fieldAddr fo_69_2 rfl rfl) fun a hf => st_y hf rfl rfl rfl (y_load1 Tryz.isAgg67 rfl rfl (hm.blk_cell 0 rfl rfl)) fun a hf => st_y hf rfl rfl rfl (y_move rfl rfl) fun a hf => ?_)))
     obtain ⟨x3_1, hx3_1, hb2_1⟩ := bnd hb2_1
     obtain ⟨h3_1, hx3_2⟩ := getI_some.1 hx3_1
     obtain ⟨b3_1, o3_1, c3_1, he⟩ := idx_form' h1 hx3_2
     simp only [Value.slice.injEq, Option.some.injEq] at he; obtain ⟨rfl, _, rfl⟩ := he
     obtain ⟨_, _, hc3_1, hr3_1⟩ := ro_get' h1 hx3_2
     obtain ⟨_, _, rfl, h3_2, _, _, rfl, h3_3, _, _, rfl, rfl, _, _, rfl, rfl, h3_4⟩ := hr3_1
     obtain ⟨v3_1, rfl, -⟩ := id h3_2
     replace h3_2 : GT.rep (hp w0) [v3_1] x3_1.phis := h3_2
     obtain ⟨v3_2, rfl, -⟩ := id h3_3
     replace h3_3 : GT.rep (hp w0) [v3_2] x3_1.ins := h3_3
     obtain ⟨v3_3, rfl, -⟩ := id h3_4
     replace h3_4 : GT.rep (hp w0) [v3_3] x3_1.next_ := h3_4
     replace hc3_1 : CellsAt (hp w0) b3_1 (o3_1 + (i1_1).toNat * 5) [v3_1, v3_2, (.int .i64 (x3_1.jump)), (.int .i64 (x3_1.on)), v3_3] := hc3_1
     refine st_y hf rfl rfl rfl (y_indexAddr st_67 rfl rfl rfl h3_1 (idx_lt hx3_2)) fun a hf => st_y hf rfl rfl rfl (y_fieldAddr fo_86_4 rfl rfl) fun a hf => st_y hf rfl rfl rfl (y_load1 Tryz.isAgg25 rfl rfl ((hc3_1.mono hm.lez).cell (j := 4) rfl)) fun a hf => ?_
     obtain ⟨p3_1, c3_2, he, hl3_1⟩ := ro_slice h3_4
     subst he
     refine st_y hf rfl rfl rfl (y_len_slice st_25.und rfl rfl) fun a hf => st_y hf rfl rfl rfl (y_lss rfl rfl rfl) fun a hf => st_end (x_then_n ?_)
     rcases bcases (decide (xs3_1 < ((x3_1.next_.length : Int)))) with h3_5 | h3_5
     ·
      replace hb2_1 := (ite_t h3_5).symm.trans hb2_1
      have h3_6 := of_decide_eq_true h3_5
      refine cond_t hf rfl h3_5 (wp_skip (x_then_n (wp_seq (wp_block (wp_seq (wp_region_lit (st_y hf rfl rfl rfl (y_fieldAddr fo_69_2 rfl rfl) fun a hf => st_y hf rfl rfl rfl (y_load1 Tryz.isAgg67 rfl rfl (hm.blk_cell 0 rfl rfl)) fun a hf => ?_)))))))
      refine st_y hf rfl rfl rfl (y_move rfl rfl) fun a hf => st_y hf rfl rfl rfl (y_indexAddr st_67 rfl rfl rfl h3_1 (idx_lt hx3_2)) fun a hf => st_y hf rfl rfl rfl (y_fieldAddr fo_86_4 rfl rfl) fun a hf => st_y hf rfl rfl rfl (y_load1 Tryz.isAgg25 rfl rfl ((hc3_1.mono hm.lez).cell (j := 4) rfl)) fun a hf => st_y hf rfl rfl rfl (y_move rfl rfl) fun a hf => ?_
      obtain ⟨x3_2, hx3_3, hb2_1⟩ := bnd hb2_1
      obtain ⟨h3_7, hx3_4⟩ := getI_some.1 hx3_3
      obtain ⟨b3_2, o3_2, c3_3, he⟩ := idx_form h3_4 hx3_4
      simp only [Value.slice.injEq, Option.some.injEq] at he; obtain ⟨rfl, _, rfl⟩ := he
      refine st_y hf rfl rfl rfl (y_indexAddr st_25 rfl rfl rfl h3_7 (idx_lt hx3_4)) fun a hf => st_y hf rfl rfl rfl (y_load1 Tryz.isAgg3 rfl rfl ((flat_cells (cs := [(.int .i64 (x3_2))]) (hm.now h3_4) hx3_4 rfl).cell (j := 0) rfl)) fun a hf => st_y hf rfl rfl rfl (y_move rfl rfl) fun a hf => st_y hf rfl rfl rfl (y_eql rfl rfl rfl) fun a hf => st_end (x_then_n ?_)
      rcases bcases (decide (x3_2 = b_)) with h3_8 | h3_8
      ·
       replace hb2_1 := (ite_t h3_8).symm.trans hb2_1
       have h3_9 := of_decide_eq_true h3_8
       refine cond_t hf rfl h3_8 (wp_seq (wp_region_lit (st_y hf rfl rfl rfl (y_move rfl rfl) fun a hf => st_y hf rfl rfl rfl (y_move rfl rfl) fun a hf => st_ef hf rfl rfl rfl (e_build (vs := #[(0, (.int .i64 (i1_1)))]) (cs := [(.int .i64 (i1_1))]) et_25 hf hm rfl rfl (by kernel_rfl) rfl rfl) ?_)))
       clear hf a; rintro _ w3_1 a ⟨b3_3, rfl, hm⟩ hf
       replace hm := hm.lit (xs := ([i1_1] : List Int)) 0 rfl rfl rfl rfl
       obtain ⟨ys3_1, hx3_5, hb2_1⟩ := bnd hb2_1
       obtain ⟨h3_10, h3_10e⟩ := appM_some.1 hx3_5
       refine st_ef hf rfl rfl rfl (e_append 2 et_25 hf hm rfl (hm.ow_rep 0 rfl) rfl rfl rfl h3_10) ?_
       clear hf a; rintro v3_4 w3_2 a hm hf
       rw [h3_10e] at hm
       refine st_y hf rfl rfl rfl (y_assign rfl rfl) fun a hf => st_end (x_then_n (wp_exit (x_blk_miss rfl (x_then_exit (x_then_exit (x_blk_hit (x_then_n ?_)))))))
       obtain rfl := Option.some.inj hb2_1
       obtain rfl := ho2_1 _ rfl
       obtain rfl := Option.some.inj hq1_1
       exact ⟨v3_4, hf.sub ⟨rfl, rfl, rfl, rfl, trivial⟩, hm.pick [1, 2] (by decide) rfl⟩
      ·
       replace hb2_1 := (ite_f h3_8).symm.trans hb2_1
       have h3_11 := of_decide_eq_false h3_8
       refine cond_f hf rfl h3_8 (wp_skip (x_blk_n (x_then_n (wp_region_lit (st_y hf rfl rfl rfl (y_move rfl rfl) fun a hf => st_y hf rfl rfl rfl (y_addw rfl rfl rfl) fun a hf => st_y hf rfl rfl rfl (y_assign rfl rfl) fun a hf => st_end ?_)))))
       refine x_then_n ?_
       obtain rfl := Option.some.inj hb2_1
       exact ⟨_, rfl, hf.sub ⟨rfl, rfl, rfl, rfl, rfl, trivial⟩, hm.pick [0, 1] (by decide) rfl⟩
     ·
      replace hb2_1 := (ite_f h3_5).symm.trans hb2_1
      have h3_12 := of_decide_eq_false h3_5
      refine cond_f hf rfl h3_5 (wp_exit (x_then_exit (x_then_exit (x_blk_hit (x_then_n ?_)))))
      obtain rfl := Option.some.inj hb2_1
      obtain rfl := ho2_1 _ rfl
      obtain rfl := Option.some.inj hq1_1
      exact ⟨(.slice p1_2 xs1_1.length c1_2), hf.sub ⟨rfl, rfl, rfl, rfl, trivial⟩, hm.pick [0, 1] (by decide) rfl⟩
   ·
    clear hf hm
    rintro a w ⟨v1_2, hf, hm⟩
    refine x_blk_n (x_then_n (wp_region_lit (st_y hf rfl rfl rfl (y_move rfl rfl) fun a hf => st_y hf rfl rfl rfl (y_add64 rfl rfl rfl (by omega) (by omega)) fun a hf => st_y hf rfl rfl rfl (y_assign rfl rfl) fun a hf => st_end (x_then_n ?_))))
    obtain rfl := Option.some.inj hb0_1
    exact ⟨_, rfl, v1_2, hf.sub ⟨rfl, rfl, rfl, rfl, trivial⟩, hm.pick [0, 1] (by decide) rfl⟩
  ·
   clear hf hm
   rintro i0_1 xs0_1 a w ⟨v0_2, hf, hm⟩ hi0_1 hi0_2 rfl
   replace hq := sum_l hq
   refine wp_seq (wp_seq (wp_region_lit (st_y hf rfl rfl rfl (y_move rfl rfl) fun a hf => st_y hf rfl rfl rfl (y_fieldAddr fo_69_2 rfl rfl) fun a hf => st_y hf rfl rfl rfl (y_load1 Tryz.isAgg67 rfl rfl (hm.blk_cell 0 rfl rfl)) fun a hf => ?_)))
   obtain ⟨p0_2, c0_2, he, hl0_3⟩ := ro_slice h1
   subst he
   refine st_y hf rfl rfl rfl (y_len_slice st_67.und rfl rfl) fun a hf => st_y hf rfl rfl rfl (y_lss rfl rfl rfl) fun a hf => st_end (x_then_n (cond_f hf rfl (decide_eq_false (by omega)) (wp_exit (x_then_exit (x_then_exit (x_blk_hit ?_))))))
   refine x_then_n (wp_seq (wp_region_lit (st_y hf rfl rfl rfl (y_move rfl rfl) fun a hf => st_y hf rfl rfl rfl (y_assign rfl rfl) fun a hf => st_end (x_then_n (wp_ret ?_)))))
   obtain rfl := Option.some.inj hq
   refine ret_tmp hf Tryz.results76 rfl ?_
   exact ⟨v0_2, rfl, hm.pick [1] (by decide) rfl⟩

theorem spec_l7Block_ok (w0 : World) (u : Unit_) (v1 : Value) (h1 : GT.rep (hp w0) [v1] u.codes) (k_ : Int) (b_ : Int) (r : Bool) (hq : spec_l7Block u k_ b_ = some r) :
    Con Tryz.prog 54 [(.agg #[v1]), (.int .i64 (k_)), (.int .i64 (b_))] w0 (fun v w' => v = (.bool (r)) ∧ Below w0.heap.size w0 w') := by
  unfold spec_l7Block at hq
  refine con_body (l := [(0, (.agg #[v1])), (1, (.int .i64 (k_))), (2, (.int .i64 (b_)))]) Tryz.func54 rfl Tryz.ntmps54 (Args.get ⟨rfl, rfl, rfl, trivial⟩) rfl ?_
  intro a hf
  have hm := Mem.start w0
  refine wp_seq (wp_region_lit (st_ef hf rfl rfl rfl (e_box hf hm rfl rfl rfl) ?_))
  clear hf a; rintro _ w0_1 a ⟨b0_1, rfl, hm⟩ hf
  refine st_y hf rfl rfl rfl (y_assign rfl rfl) fun a hf => st_end (x_then_n (wp_seq (wp_region_lit (st_y hf rfl rfl rfl (y_fieldAddr fo_30_0 rfl rfl) fun a hf => st_y hf rfl rfl rfl (y_load1 Tryz.isAgg28 rfl rfl (hm.blk_cell 0 rfl rfl)) fun a hf => st_y hf rfl rfl rfl (y_move rfl rfl) fun a hf => ?_))))
  obtain ⟨x0_1, hx0_1, hq⟩ := bnd hq
  obtain ⟨h0_1, hx0_2⟩ := getI_some.1 hx0_1
  obtain ⟨b0_2, o0_1, c0_1, he⟩ := idx_form' h1 hx0_2
  subst he
  obtain ⟨_, _, hc0_1, hr0_1⟩ := ro_get' h1 hx0_2
  obtain ⟨_, _, rfl, rfl, _, _, rfl, rfl, h0_2⟩ := hr0_1
  obtain ⟨v0_1, rfl, -⟩ := id h0_2
  replace h0_2 : GT.rep (hp w0) [v0_1] x0_1.blocks := h0_2
  replace hc0_1 : CellsAt (hp w0) b0_2 (o0_1 + (k_).toNat * 3) [(.int .i64 (x0_1.params)), (.int .i64 (x0_1.regs)), v0_1] := hc0_1
  refine st_y hf rfl rfl rfl (y_indexAddr st_28 rfl rfl rfl h0_1 (idx_lt hx0_2)) fun a hf => st_y hf rfl rfl rfl (y_loadN (cs := [(.int .i64 (x0_1.params)), (.int .i64 (x0_1.regs)), v0_1]) Tryz.isAgg69 Tryz.sizeOf69 rfl rfl (hc0_1.mono hm.lez)) fun a hf => st_ef hf rfl rfl rfl (e_alloc hm Tryz.zeroValue69 rfl rfl) ?_
  clear hf a; rintro _ w0_2 a ⟨b0_3, rfl, hm⟩ hf
  refine st_ef0 hf rfl rfl (e_storeN 0 hf hm rfl Tryz.sizeOf69 rfl rfl rfl (one_cons rfl (one_cons rfl (one_cons (rep_one h0_2) one_nil))) rfl rfl) ?_
  clear hf a; rintro _ w0_3 a hm hf
  refine st_end (x_then_n (wp_seq (wp_region_lit (st_y hf rfl rfl rfl (y_fieldAddr fo_69_2 rfl rfl) fun a hf => st_y hf rfl rfl rfl (y_load1 Tryz.isAgg67 rfl rfl (hm.blk_cell 0 rfl rfl)) fun a hf => st_y hf rfl rfl rfl (y_move rfl rfl) fun a hf => ?_))))
  obtain ⟨x0_2, hx0_3, hq⟩ := bnd hq
  obtain ⟨h0_3, hx0_4⟩ := getI_some.1 hx0_3
  obtain ⟨b0_4, o0_2, c0_2, he⟩ := idx_form' h0_2 hx0_4
  subst he
  obtain ⟨_, _, hc0_2, hr0_2⟩ := ro_get' h0_2 hx0_4
  obtain ⟨_, _, rfl, h0_4, _, _, rfl, h0_5, _, _, rfl, rfl, _, _, rfl, rfl, h0_6⟩ := hr0_2
  obtain ⟨v0_2, rfl, -⟩ := id h0_4
  replace h0_4 : GT.rep (hp w0) [v0_2] x0_2.phis := h0_4
  obtain ⟨v0_3, rfl, -⟩ := id h0_5
  replace h0_5 : GT.rep (hp w0) [v0_3] x0_2.ins := h0_5
  obtain ⟨v0_4, rfl, -⟩ := id h0_6
  replace h0_6 : GT.rep (hp w0) [v0_4] x0_2.next_ := h0_6
  replace hc0_2 : CellsAt (hp w0) b0_4 (o0_2 + (b_).toNat * 5) [v0_2, v0_3, (.int .i64 (x0_2.jump)), (.int .i64 (x0_2.on)), v0_4] := hc0_2
  refine st_y hf rfl rfl rfl (y_indexAddr st_67 rfl rfl rfl h0_3 (idx_lt hx0_4)) fun a hf => st_y hf rfl rfl rfl (y_loadN (cs := [v0_2, v0_3, (.int .i64 (x0_2.jump)), (.int .i64 (x0_2.on)), v0_4]) Tryz.isAgg86 Tryz.sizeOf86 rfl rfl (hc0_2.mono hm.lez)) fun a hf => st_ef hf rfl rfl rfl (e_alloc hm Tryz.zeroValue86 rfl rfl) ?_
  clear hf a; rintro _ w0_4 a ⟨b0_5, rfl, hm⟩ hf
  refine st_ef0 hf rfl rfl (e_storeN 0 hf hm rfl Tryz.sizeOf86 rfl rfl rfl (one_cons (rep_one h0_4) (one_cons (rep_one h0_5) (one_cons rfl (one_cons rfl (one_cons (rep_one h0_6) one_nil))))) rfl rfl) ?_
  clear hf a; rintro _ w0_5 a hm hf
  refine st_end (x_then_n (wp_seq (wp_region_lit (st_y hf rfl rfl rfl (y_assign rfl rfl) fun a hf => st_end (x_then_n (wp_seq (wp_seq ?_)))))))
  refine wp_region_lit (st_y hf rfl rfl rfl (y_fieldAddr fo_86_2 rfl rfl) fun a hf => st_y hf rfl rfl rfl (y_load1 Tryz.isAgg3 rfl rfl (hm.blk_cell 0 rfl rfl)) fun a hf => st_end (x_then_n ?_))
  obtain ⟨c0_3, hq0_1, hq⟩ := bnd hq
  refine code_cut (K := fun a w => ∃ s0_1, c0_3 = .inl s0_1 ∧ 0 ≤ x0_2.jump ∧ x0_2.jump ≤ 3 ∧ 0 ≤ s0_1 ∧ s0_1 ≤ 2 ∧ Fr 136 [(1, (.int .i64 (k_))), (2, (.int .i64 (b_))), (3, (.pointer (some ⟨b0_1, 0, none⟩))), (7, (.pointer (some ⟨b0_3, 0, none⟩))), (8, (.pointer (some ⟨b0_5, 0, none⟩))), (9, (.int .i64 (s0_1)))] a ∧ Mem w0 (hp w0) w [blk b0_1 [(.slice (some ⟨b0_2, o0_1, none⟩) u.codes.length c0_1)] 30, blk b0_3 [(.int .i64 (x0_1.params)), (.int .i64 (x0_1.regs)), (.slice (some ⟨b0_4, o0_2, none⟩) x0_1.blocks.length c0_2)] 69, blk b0_5 [v0_2, v0_3, (.int .i64 (x0_2.jump)), (.int .i64 (x0_2.on)), v0_4] 86]) ?_ ?_
  ·
   refine wp_block (wp_seq (wp_region_lit (st_y hf rfl rfl rfl (y_eql rfl rfl rfl) fun a hf => st_y hf rfl rfl rfl (y_assign rfl rfl) fun a hf => st_end (x_then_n ?_))))
   obtain ⟨c1_1, hq1_1, hq0_1⟩ := bnd hq0_1
   refine code_cut (K := fun a w => ∃ s1_1, c1_1 = .inl s1_1 ∧ 0 ≤ x0_2.jump ∧ x0_2.jump ≤ 3 ∧ 0 ≤ s1_1 ∧ s1_1 ≤ 2 ∧ Fr 136 [(1, (.int .i64 (k_))), (2, (.int .i64 (b_))), (3, (.pointer (some ⟨b0_1, 0, none⟩))), (7, (.pointer (some ⟨b0_3, 0, none⟩))), (8, (.pointer (some ⟨b0_5, 0, none⟩))), (9, (.int .i64 (s1_1)))] a ∧ Mem w0 (hp w0) w [blk b0_1 [(.slice (some ⟨b0_2, o0_1, none⟩) u.codes.length c0_1)] 30, blk b0_3 [(.int .i64 (x0_1.params)), (.int .i64 (x0_1.regs)), (.slice (some ⟨b0_4, o0_2, none⟩) x0_1.blocks.length c0_2)] 69, blk b0_5 [v0_2, v0_3, (.int .i64 (x0_2.jump)), (.int .i64 (x0_2.on)), v0_4] 86]) ?_ ?_
   ·
    rcases bcases (decide (x0_2.jump = 1)) with h2_1 | h2_1
    ·
     replace hq1_1 := (ite_t h2_1).symm.trans hq1_1
     have h2_2 := of_decide_eq_true h2_1
     refine cond_t hf rfl h2_1 (wp_seq (wp_region_lit (st_y hf rfl rfl rfl (y_fieldAddr fo_86_3 rfl rfl) fun a hf => st_y hf rfl rfl rfl (y_load1 Tryz.isAgg3 rfl rfl (hm.blk_cell 0 rfl rfl)) fun a hf => st_y hf rfl rfl rfl (y_neq rfl rfl rfl) fun a hf => st_end (x_then_n ?_))))
     rcases bcases (decide (x0_2.on ≠ 0)) with h2_3 | h2_3
     ·
      replace hq1_1 := (ite_t h2_3).symm.trans hq1_1
      have h2_4 := of_decide_eq_true h2_3
      refine cond_t hf rfl h2_3 (wp_seq (wp_region_lit (st_y hf rfl rfl rfl (y_assign rfl rfl) fun a hf => st_end (x_then_n (wp_ret (x_then_ret (x_blk_ret ?_)))))))
      refine x_then_ret (x_then_ret ?_)
      obtain rfl := Option.some.inj hq1_1
      replace hq0_1 := sum_r hq0_1
      obtain rfl := Option.some.inj hq0_1
      replace hq := sum_r hq
      obtain rfl := Option.some.inj hq
      refine ret_tmp hf Tryz.results54 rfl ?_
      exact ⟨rfl, hm.below⟩
     ·
      replace hq1_1 := (ite_f h2_3).symm.trans hq1_1
      have h2_5 := of_decide_eq_false h2_3
      refine cond_f hf rfl h2_3 (wp_skip (x_then_n ?_))
      obtain rfl := Option.some.inj hq1_1
      exact ⟨_, rfl, (by first | omega | (dsimp only; omega)), (by first | omega | (dsimp only; omega)), (by first | omega | (dsimp only; omega)), (by first | omega | (dsimp only; omega)), hf.sub ⟨rfl, rfl, rfl, rfl, rfl, rfl, trivial⟩, hm.pick [2, 1, 0] (by decide) rfl⟩
    ·
     replace hq1_1 := (ite_f h2_1).symm.trans hq1_1
     have h2_6 := of_decide_eq_false h2_1
     refine cond_f hf rfl h2_1 (wp_seq (wp_region_lit (st_y hf rfl rfl rfl (y_eql rfl rfl rfl) fun a hf => st_y hf rfl rfl rfl (y_assign rfl rfl) fun a hf => st_end (x_then_n ?_))))
     obtain ⟨c2_1, hq2_1, hq1_1⟩ := bnd hq1_1
     refine code_cut (K := fun a w => ∃ s2_1, c2_1 = .inl s2_1 ∧ 0 ≤ x0_2.jump ∧ x0_2.jump ≤ 3 ∧ 0 ≤ s2_1 ∧ s2_1 ≤ 2 ∧ Fr 136 [(1, (.int .i64 (k_))), (2, (.int .i64 (b_))), (3, (.pointer (some ⟨b0_1, 0, none⟩))), (7, (.pointer (some ⟨b0_3, 0, none⟩))), (8, (.pointer (some ⟨b0_5, 0, none⟩))), (9, (.int .i64 (s2_1)))] a ∧ Mem w0 (hp w0) w [blk b0_1 [(.slice (some ⟨b0_2, o0_1, none⟩) u.codes.length c0_1)] 30, blk b0_3 [(.int .i64 (x0_1.params)), (.int .i64 (x0_1.regs)), (.slice (some ⟨b0_4, o0_2, none⟩) x0_1.blocks.length c0_2)] 69, blk b0_5 [v0_2, v0_3, (.int .i64 (x0_2.jump)), (.int .i64 (x0_2.on)), v0_4] 86]) ?_ ?_
     ·
      rcases bcases (decide (x0_2.jump = 2)) with h3_1 | h3_1
      ·
       replace hq2_1 := (ite_t h3_1).symm.trans hq2_1
       have h3_2 := of_decide_eq_true h3_1
       refine cond_t hf rfl h3_1 (wp_region_lit (st_y hf rfl rfl rfl (y_assign rfl rfl) fun a hf => st_end (x_then_n ?_)))
       obtain rfl := Option.some.inj hq2_1
       exact ⟨_, rfl, (by first | omega | (dsimp only; omega)), (by first | omega | (dsimp only; omega)), (by first | omega | (dsimp only; omega)), (by first | omega | (dsimp only; omega)), hf.sub ⟨rfl, rfl, rfl, rfl, rfl, rfl, trivial⟩, hm.pick [2, 1, 0] (by decide) rfl⟩
      ·
       replace hq2_1 := (ite_f h3_1).symm.trans hq2_1
       have h3_3 := of_decide_eq_false h3_1
       refine cond_f hf rfl h3_1 (wp_seq (wp_region_lit (st_y hf rfl rfl rfl (y_eql rfl rfl rfl) fun a hf => st_y hf rfl rfl rfl (y_assign rfl rfl) fun a hf => st_end (x_then_n ?_))))
       rcases bcases (decide (x0_2.jump = 3)) with h3_4 | h3_4
       ·
        replace hq2_1 := (ite_t h3_4).symm.trans hq2_1
        have h3_5 := of_decide_eq_true h3_4
        refine cond_t hf rfl h3_4 (wp_region_lit (st_y hf rfl rfl rfl (y_assign rfl rfl) fun a hf => st_end (x_then_n ?_)))
        obtain rfl := Option.some.inj hq2_1
        exact ⟨_, rfl, (by first | omega | (dsimp only; omega)), (by first | omega | (dsimp only; omega)), (by first | omega | (dsimp only; omega)), (by first | omega | (dsimp only; omega)), hf.sub ⟨rfl, rfl, rfl, rfl, rfl, rfl, trivial⟩, hm.pick [2, 1, 0] (by decide) rfl⟩
       ·
        replace hq2_1 := (ite_f h3_4).symm.trans hq2_1
        have h3_6 := of_decide_eq_false h3_4
        refine cond_f hf rfl h3_4 (wp_seq (wp_region_lit (st_y hf rfl rfl rfl (y_assign rfl rfl) fun a hf => st_end (x_then_n (wp_ret (x_then_ret (x_then_ret ?_)))))))
        refine x_blk_ret (x_then_ret (x_then_ret ?_))
        obtain rfl := Option.some.inj hq2_1
        replace hq1_1 := sum_r hq1_1
        obtain rfl := Option.some.inj hq1_1
        replace hq0_1 := sum_r hq0_1
        obtain rfl := Option.some.inj hq0_1
        replace hq := sum_r hq
        obtain rfl := Option.some.inj hq
        refine ret_tmp hf Tryz.results54 rfl ?_
        exact ⟨rfl, hm.below⟩
     ·
      clear hf hm
      rintro a w ⟨s2_1, rfl, hn2_1, hn2_2, hn2_3, hn2_4, hf, hm⟩
      replace hq1_1 := sum_l hq1_1
      refine x_then_n ?_
      obtain rfl := Option.some.inj hq1_1
      exact ⟨_, rfl, (by first | omega | (dsimp only; omega)), (by first | omega | (dsimp only; omega)), (by first | omega | (dsimp only; omega)), (by first | omega | (dsimp only; omega)), hf.sub ⟨rfl, rfl, rfl, rfl, rfl, rfl, trivial⟩, hm.pick [0, 1, 2] (by decide) rfl⟩
   ·
    clear hf hm
    rintro a w ⟨s1_1, rfl, hn1_1, hn1_2, hn1_3, hn1_4, hf, hm⟩
    replace hq0_1 := sum_l hq0_1
    refine x_blk_n (x_then_n ?_)
    obtain rfl := Option.some.inj hq0_1
    exact ⟨_, rfl, (by first | omega | (dsimp only; omega)), (by first | omega | (dsimp only; omega)), (by first | omega | (dsimp only; omega)), (by first | omega | (dsimp only; omega)), hf.sub ⟨rfl, rfl, rfl, rfl, rfl, rfl, trivial⟩, hm.pick [0, 1, 2] (by decide) rfl⟩
  ·
   clear hf hm
   rintro a w ⟨s0_1, rfl, hn0_1, hn0_2, hn0_3, hn0_4, hf, hm⟩
   replace hq := sum_l hq
   refine x_then_n (wp_seq (wp_seq ?_))
   obtain ⟨s0_2, hq0_2, hq⟩ := bnd hq
   refine code_cut (K := fun a w => 0 ≤ x0_2.jump ∧ x0_2.jump ≤ 3 ∧ Fr 136 [(1, (.int .i64 (k_))), (2, (.int .i64 (b_))), (3, (.pointer (some ⟨b0_1, 0, none⟩))), (7, (.pointer (some ⟨b0_3, 0, none⟩))), (8, (.pointer (some ⟨b0_5, 0, none⟩))), (53, (.bool (s0_2)))] a ∧ Mem w0 (hp w0) w [blk b0_1 [(.slice (some ⟨b0_2, o0_1, none⟩) u.codes.length c0_1)] 30, blk b0_3 [(.int .i64 (x0_1.params)), (.int .i64 (x0_1.regs)), (.slice (some ⟨b0_4, o0_2, none⟩) x0_1.blocks.length c0_2)] 69, blk b0_5 [v0_2, v0_3, (.int .i64 (x0_2.jump)), (.int .i64 (x0_2.on)), v0_4] 86]) ?_ ?_
   ·
    refine wp_region_lit (st_y hf rfl rfl rfl (y_fieldAddr fo_86_4 rfl rfl) fun a hf => st_y hf rfl rfl rfl (y_load1 Tryz.isAgg25 rfl rfl (hm.blk_cell 2 rfl rfl)) fun a hf => ?_)
    obtain ⟨p1_1, c1_2, he, hl1_1⟩ := ro_slice h0_6
    subst he
    refine st_y hf rfl rfl rfl (y_len_slice st_25.und rfl rfl) fun a hf => st_y hf rfl rfl rfl (y_move rfl rfl) fun a hf => st_y hf rfl rfl rfl (y_neq rfl rfl rfl) fun a hf => st_y hf rfl rfl rfl (y_move rfl rfl) fun a hf => ?_
    rcases bcases (decide (((x0_2.next_.length : Int)) ≠ s0_1)) with h1_1 | h1_1
    ·
     replace hq0_2 := (ite_t h1_1).symm.trans hq0_2
     have h1_2 := of_decide_eq_true h1_1
     refine st_no hf rfl rfl (lk_b rfl h1_1) rfl rfl rfl fun a hf => st_no hf rfl rfl (lk_b rfl h1_1) rfl rfl rfl fun a hf => st_no hf rfl rfl (lk_b rfl h1_1) rfl rfl rfl fun a hf => st_no hf rfl rfl (lk_b rfl h1_1) rfl rfl rfl fun a hf => st_nou hf rfl rfl rfl rfl rfl fun a hf => st_nou hf rfl rfl rfl rfl rfl fun a hf => st_nou hf rfl rfl rfl rfl rfl fun a hf => st_nou hf rfl rfl rfl rfl rfl fun a hf => st_nou hf rfl rfl rfl rfl rfl fun a hf => ?_
     refine st_nou hf rfl rfl rfl rfl rfl fun a hf => st_nou hf rfl rfl rfl rfl rfl fun a hf => st_no hf rfl rfl (lk_b rfl h1_1) rfl rfl rfl fun a hf => st_y hf rfl rfl rfl (y_pick_t rfl (ev_b rfl h1_1) rfl) fun a hf => st_end (x_then_n ?_)
     obtain rfl := Option.some.inj hq0_2
     exact ⟨(by first | omega | (dsimp only; omega)), (by first | omega | (dsimp only; omega)), hf.sub ⟨rfl, rfl, rfl, rfl, rfl, rfl, trivial⟩, hm.pick [0, 1, 2] (by decide) rfl⟩
    ·
     replace hq0_2 := (ite_f h1_1).symm.trans hq0_2
     have h1_3 := of_decide_eq_false h1_1
     refine st_yg hf rfl rfl (lk_b rfl h1_1) rfl rfl (y_fieldAddr fo_86_2 rfl rfl) fun a hf => st_yg hf rfl rfl (lk_b rfl h1_1) rfl rfl (y_load1 Tryz.isAgg3 rfl rfl (hm.blk_cell 2 rfl rfl)) fun a hf => st_yg hf rfl rfl (lk_b rfl h1_1) rfl rfl (y_neq rfl rfl rfl) fun a hf => st_yg hf rfl rfl (lk_b rfl h1_1) rfl rfl (y_move rfl rfl) fun a hf => ?_
     rcases bcases (decide (x0_2.jump ≠ 1)) with h1_4 | h1_4
     ·
      replace hq0_2 := (ite_t h1_4).symm.trans hq0_2
      have h1_5 := of_decide_eq_true h1_4
      refine st_yg hf rfl rfl (lk_b rfl h1_4) rfl rfl (y_fieldAddr fo_86_3 rfl rfl) fun a hf => st_yg hf rfl rfl (lk_b rfl h1_4) rfl rfl (y_load1 Tryz.isAgg3 rfl rfl (hm.blk_cell 2 rfl rfl)) fun a hf => st_yg hf rfl rfl (lk_b rfl h1_4) rfl rfl (y_fieldAddr fo_69_1 rfl rfl) fun a hf => st_yg hf rfl rfl (lk_b rfl h1_4) rfl rfl (y_load1 Tryz.isAgg3 rfl rfl (hm.blk_cell 1 rfl rfl)) fun a hf => st_yg hf rfl rfl (lk_b rfl h1_4) rfl rfl (y_subw rfl rfl rfl) fun a hf => ?_
      obtain ⟨r1_1, hx1_1, hq0_2⟩ := bnd hq0_2
      refine st_efg hf rfl rfl (lk_b rfl h1_4) rfl rfl (e_call hf rfl Tryz.call29 rfl (spec_l1In_ok _ x0_2.on 0 (w64 (x0_1.regs - 1)) _ hx1_1)) ?_
      clear hf a; rintro v1_1 w1_1 a ho1_1 hf
      obtain ⟨rfl, hB⟩ := ho1_1
      replace hm := hm.below' hB; clear hB
      refine st_yg hf rfl rfl (lk_b rfl h1_4) rfl rfl (y_not rfl rfl) fun a hf => st_yg hf rfl rfl (lk_b rfl h1_1) rfl rfl (y_pick_t rfl (ev_b rfl h1_4) rfl) fun a hf => st_y hf rfl rfl rfl (y_pick_f rfl (ev_b rfl h1_1) rfl) fun a hf => st_end (x_then_n ?_)
      obtain rfl := Option.some.inj hq0_2
      exact ⟨(by first | omega | (dsimp only; omega)), (by first | omega | (dsimp only; omega)), hf.sub ⟨rfl, rfl, rfl, rfl, rfl, rfl, trivial⟩, hm.pick [0, 1, 2] (by decide) rfl⟩
     ·
      replace hq0_2 := (ite_f h1_4).symm.trans hq0_2
      have h1_6 := of_decide_eq_false h1_4
      refine st_no hf rfl rfl (lk_b rfl h1_4) rfl rfl rfl fun a hf => st_no hf rfl rfl (lk_b rfl h1_4) rfl rfl rfl fun a hf => st_no hf rfl rfl (lk_b rfl h1_4) rfl rfl rfl fun a hf => st_no hf rfl rfl (lk_b rfl h1_4) rfl rfl rfl fun a hf => st_no hf rfl rfl (lk_b rfl h1_4) rfl rfl rfl fun a hf => st_no hf rfl rfl (lk_b rfl h1_4) rfl rfl rfl fun a hf => st_no hf rfl rfl (lk_b rfl h1_4) rfl rfl rfl fun a hf => st_yg hf rfl rfl (lk_b rfl h1_1) rfl rfl (y_pick_f rfl (ev_b rfl h1_4) rfl) fun a hf => st_y hf rfl rfl rfl (y_pick_f rfl (ev_b rfl h1_1) rfl) fun a hf => ?_
      refine st_end (x_then_n ?_)
      obtain rfl := Option.some.inj hq0_2
      exact ⟨(by first | omega | (dsimp only; omega)), (by first | omega | (dsimp only; omega)), hf.sub ⟨rfl, rfl, rfl, rfl, rfl, rfl, trivial⟩, hm.pick [0, 1, 2] (by decide) rfl⟩
   ·
    clear hf hm
    rintro a w ⟨hn0_5, hn0_6, hf, hm⟩
    refine x_then_n ?_
    rcases bcases (s0_2) with h0_7 | h0_7
    ·
     replace hq := (ite_t h0_7).symm.trans hq
     refine cond_t hf rfl h0_7 (wp_seq (wp_region_lit (st_y hf rfl rfl rfl (y_assign rfl rfl) fun a hf => st_end (x_then_n (wp_ret (x_then_ret ?_))))))
     obtain rfl := Option.some.inj hq
     refine ret_tmp hf Tryz.results54 rfl ?_
     exact ⟨rfl, hm.below⟩
    ·
     replace hq := (ite_f h0_7).symm.trans hq
     refine cond_f hf rfl h0_7 (wp_skip (x_then_n (wp_seq (wp_seq (wp_region_lit (st_y hf rfl rfl rfl (y_assign rfl rfl) fun a hf => st_end (x_then_n ?_)))))))
     refine wp_block ?_
     obtain ⟨r0_1, hl0_1, hq⟩ := bnd hq
     refine wp_forN _ (fun i1_1 xs1_1 a w => Fr 136 [(1, (.int .i64 (k_))), (2, (.int .i64 (b_))), (3, (.pointer (some ⟨b0_1, 0, none⟩))), (7, (.pointer (some ⟨b0_3, 0, none⟩))), (8, (.pointer (some ⟨b0_5, 0, none⟩))), (10, (.int .i64 (i1_1)))] a ∧ Mem w0 (hp w0) w [blk b0_1 [(.slice (some ⟨b0_2, o0_1, none⟩) u.codes.length c0_1)] 30, blk b0_3 [(.int .i64 (x0_1.params)), (.int .i64 (x0_1.regs)), (.slice (some ⟨b0_4, o0_2, none⟩) x0_1.blocks.length c0_2)] 69, blk b0_5 [v0_2, v0_3, (.int .i64 (x0_2.jump)), (.int .i64 (x0_2.on)), v0_4] 86]) (0) ((x0_2.next_.length : Int)) hl0_1 ?_ ?_ ?_
     ·
      exact ⟨hf.sub ⟨rfl, rfl, rfl, rfl, rfl, rfl, trivial⟩, hm.pick [0, 1, 2] (by decide) rfl⟩
     ·
      clear hf hm
      rintro i1_1 xs1_1 a w ⟨hf, hm⟩ hi1_1 hi1_2 q0_1 hb0_1 ho0_1
      refine wp_seq (wp_seq (wp_region_lit (st_y hf rfl rfl rfl (y_move rfl rfl) fun a hf => st_y hf rfl rfl rfl (y_fieldAddr fo_86_4 rfl rfl) fun a hf => st_y hf rfl rfl rfl (y_load1 Tryz.isAgg25 rfl rfl (hm.blk_cell 2 rfl rfl)) fun a hf => ?_)))
      obtain ⟨p1_2, c1_3, he, hl1_2⟩ := ro_slice h0_6
      subst he
      refine st_y hf rfl rfl rfl (y_len_slice st_25.und rfl rfl) fun a hf => st_y hf rfl rfl rfl (y_lss rfl rfl rfl) fun a hf => st_end (x_then_n (cond_t hf rfl (decide_eq_true (by omega)) (wp_skip (x_then_n (wp_seq (wp_block ?_))))))
      refine wp_seq (wp_tree (.p 0 (.p 2 (.p 5 (.q 1 (.p 3 (.q 4 (.e 6 (.p 7 (.p 8 (.e 9 (.p 10 .fin) .nil))) .nil))))))) [6] [0, 2, 3, 5, 7, 8, 10] (fun w => Mem w0 (hp w0) w [blk b0_1 [(.slice (some ⟨b0_2, o0_1, none⟩) u.codes.length c0_1)] 30, blk b0_3 [(.int .i64 (x0_1.params)), (.int .i64 (x0_1.regs)), (.slice (some ⟨b0_4, o0_2, none⟩) x0_1.blocks.length c0_2)] 69, blk b0_5 [v0_2, v0_3, (.int .i64 (x0_2.jump)), (.int .i64 (x0_2.on)), (.slice p1_2 x0_2.next_.length c1_3)] 86]) (by kernel_rfl) (by kernel_rfl) (fun _ _ _ h => h.2) ?_)
      replace hm := hm.drew
      have hS : Mem w0 (hp w0) _ [blk b0_1 [(.slice (some ⟨b0_2, o0_1, none⟩) u.codes.length c0_1)] 30, blk b0_3 [(.int .i64 (x0_1.params)), (.int .i64 (x0_1.regs)), (.slice (some ⟨b0_4, o0_2, none⟩) x0_1.blocks.length c0_2)] 69, blk b0_5 [v0_2, v0_3, (.int .i64 (x0_2.jump)), (.int .i64 (x0_2.on)), (.slice p1_2 x0_2.next_.length c1_3)] 86] := hm.pick [0, 1, 2] (by decide) rfl
      refine td_p hf rfl rfl rfl rfl (fun w => y_fieldAddr fo_86_4 rfl rfl) fun a hf => td_p hf rfl rfl rfl rfl (fun w => y_move rfl rfl) fun a hf => td_p hf rfl rfl rfl rfl (fun w => y_fieldAddr fo_69_2 rfl rfl) fun a hf => td_y hf rfl rfl rfl rfl hS (fun w hm => y_load1 Tryz.isAgg25 rfl rfl (hm.blk_cell 2 rfl rfl)) fun a hf => ?_
      obtain ⟨x1_1, hx1_2, hb0_1⟩ := bnd hb0_1
      obtain ⟨h1_7, hx1_3⟩ := getI_some.1 hx1_2
      obtain ⟨b1_1, o1_1, c1_4, he⟩ := idx_form h0_6 hx1_3
      simp only [Value.slice.injEq, Option.some.injEq] at he; obtain ⟨rfl, _, rfl⟩ := he
      refine td_p hf rfl rfl rfl rfl (fun w => y_indexAddr st_25 rfl rfl rfl h1_7 (idx_lt hx1_3)) fun a hf => td_y hf rfl rfl rfl rfl hS (fun w hm => y_load1 Tryz.isAgg3 rfl rfl ((flat_cells (cs := [(.int .i64 (x1_1))]) (hm.now h0_6) hx1_3 rfl).cell (j := 0) rfl)) fun a hf => te_one (td_ef hf rfl rfl rfl rfl (ef_y hf (y_load1 Tryz.isAgg67 rfl rfl (hm.blk_cell 1 rfl rfl))) ?_)
      clear hf a; rintro _ _ a ⟨rfl, rfl⟩ hf
      refine ⟨fun _ => hS, ?_⟩
      have hl1_3 := rep_len h0_2
      refine td_p hf rfl rfl rfl rfl (fun w => y_len_slice st_67.und rfl rfl) fun a hf => td_p hf rfl rfl rfl rfl (fun w => y_sub64 rfl rfl rfl (by omega) (by omega)) fun a hf => te_one ?_
      obtain ⟨r1_2, hx1_4, hb0_1⟩ := bnd hb0_1
      refine td_ef hf rfl rfl rfl rfl (e_call hf rfl Tryz.call29 rfl (spec_l1In_ok _ x1_1 1 (((x0_1.blocks.length : Int)) - 1) _ hx1_4)) ?_
      clear hf a; rintro v1_2 w1_2 a ho1_2 hf
      obtain ⟨rfl, hB⟩ := ho1_2
      replace hm := hm.below' hB; clear hB
      refine ⟨fun h => absurd h (by decide), ?_⟩
      refine td_p hf rfl rfl rfl rfl (fun w => y_not rfl rfl) fun a hf => ?_
      clear hS; refine td_end ?_
      refine x_then_n ?_
      rcases bcases (!(r1_2)) with h1_8 | h1_8
      ·
       replace hb0_1 := (ite_t h1_8).symm.trans hb0_1
       have h1_9 := bnot_t' h1_8
       refine cond_t hf rfl h1_8 (wp_seq (wp_region_lit (st_y hf rfl rfl rfl (y_assign rfl rfl) fun a hf => st_end (x_then_n (wp_ret (x_blk_ret (x_then_ret ?_)))))))
       refine x_then_ret (x_blk_ret (x_then_ret ?_))
       obtain rfl := Option.some.inj hb0_1
       obtain rfl := ho0_1 _ rfl
       replace hq := sum_r hq
       obtain rfl := Option.some.inj hq
       refine ret_tmp hf Tryz.results54 rfl ?_
       exact ⟨rfl, hm.below⟩
      ·
       replace hb0_1 := (ite_f h1_8).symm.trans hb0_1
       have h1_10 := bnot_f' h1_8
       refine cond_f hf rfl h1_8 (wp_skip (x_blk_n (x_then_n (wp_region_lit (st_y hf rfl rfl rfl (y_move rfl rfl) fun a hf => st_y hf rfl rfl rfl (y_add64 rfl rfl rfl (by omega) (by omega)) fun a hf => st_y hf rfl rfl rfl (y_assign rfl rfl) fun a hf => st_end ?_)))))
       refine x_then_n ?_
       obtain rfl := Option.some.inj hb0_1
       exact ⟨_, rfl, hf.sub ⟨rfl, rfl, rfl, rfl, rfl, rfl, trivial⟩, hm.pick [0, 1, 2] (by decide) rfl⟩
     ·
      clear hf hm
      rintro i0_1 xs0_1 a w ⟨hf, hm⟩ hi0_1 hi0_2 rfl
      replace hq := sum_l hq
      refine wp_seq (wp_seq (wp_region_lit (st_y hf rfl rfl rfl (y_move rfl rfl) fun a hf => st_y hf rfl rfl rfl (y_fieldAddr fo_86_4 rfl rfl) fun a hf => st_y hf rfl rfl rfl (y_load1 Tryz.isAgg25 rfl rfl (hm.blk_cell 2 rfl rfl)) fun a hf => ?_)))
      obtain ⟨p0_1, c0_4, he, hl0_2⟩ := ro_slice h0_6
      subst he
      refine st_y hf rfl rfl rfl (y_len_slice st_25.und rfl rfl) fun a hf => st_y hf rfl rfl rfl (y_lss rfl rfl rfl) fun a hf => st_end (x_then_n (cond_f hf rfl (decide_eq_false (by omega)) (wp_exit (x_then_exit (x_then_exit (x_blk_hit ?_))))))
      refine x_then_n (wp_seq (wp_seq (wp_region_lit (st_y hf rfl rfl rfl (y_assign rfl rfl) fun a hf => st_end (x_then_n (wp_block ?_))))))
      obtain ⟨r0_2, hl0_3, hq⟩ := bnd hq
      refine wp_forN _ (fun i1_2 xs1_2 a w => Fr 136 [(1, (.int .i64 (k_))), (2, (.int .i64 (b_))), (3, (.pointer (some ⟨b0_1, 0, none⟩))), (7, (.pointer (some ⟨b0_3, 0, none⟩))), (8, (.pointer (some ⟨b0_5, 0, none⟩))), (11, (.int .i64 (i1_2)))] a ∧ Mem w0 (hp w0) w [blk b0_1 [(.slice (some ⟨b0_2, o0_1, none⟩) u.codes.length c0_1)] 30, blk b0_3 [(.int .i64 (x0_1.params)), (.int .i64 (x0_1.regs)), (.slice (some ⟨b0_4, o0_2, none⟩) x0_1.blocks.length c0_2)] 69, blk b0_5 [v0_2, v0_3, (.int .i64 (x0_2.jump)), (.int .i64 (x0_2.on)), (.slice p0_1 x0_2.next_.length c0_4)] 86]) (0) ((x0_2.ins.length : Int)) hl0_3 ?_ ?_ ?_
      ·
       exact ⟨hf.sub ⟨rfl, rfl, rfl, rfl, rfl, rfl, trivial⟩, hm.pick [0, 1, 2] (by decide) rfl⟩
      ·
       clear hf hm
       rintro i1_2 xs1_2 a w ⟨hf, hm⟩ hi1_3 hi1_4 q0_2 hb0_2 ho0_2
       refine wp_seq (wp_seq (wp_region_lit (st_y hf rfl rfl rfl (y_move rfl rfl) fun a hf => st_y hf rfl rfl rfl (y_fieldAddr fo_86_1 rfl rfl) fun a hf => st_y hf rfl rfl rfl (y_load1 Tryz.isAgg84 rfl rfl (hm.blk_cell 2 rfl rfl)) fun a hf => ?_)))
       obtain ⟨p1_3, c1_5, he, hl1_4⟩ := ro_slice h0_5
       subst he
       refine st_y hf rfl rfl rfl (y_len_slice st_84.und rfl rfl) fun a hf => st_y hf rfl rfl rfl (y_lss rfl rfl rfl) fun a hf => st_end (x_then_n (cond_t hf rfl (decide_eq_true (by omega)) (wp_skip (x_then_n (wp_seq (wp_block ?_))))))
       refine wp_seq (wp_tree (.p 1 (.p 2 (.p 4 (.q 0 (.e 3 (.p 5 (.e 6 (.e 7 (.p 8 .fin) .nil) .nil)) .nil))))) [3, 6] [1, 2, 4, 5, 8] (fun w => Mem w0 (hp w0) w [blk b0_1 [(.slice (some ⟨b0_2, o0_1, none⟩) u.codes.length c0_1)] 30, blk b0_3 [(.int .i64 (x0_1.params)), (.int .i64 (x0_1.regs)), (.slice (some ⟨b0_4, o0_2, none⟩) x0_1.blocks.length c0_2)] 69, blk b0_5 [v0_2, (.slice p1_3 x0_2.ins.length c1_5), (.int .i64 (x0_2.jump)), (.int .i64 (x0_2.on)), (.slice p0_1 x0_2.next_.length c0_4)] 86]) (by kernel_rfl) (by kernel_rfl) (fun _ _ _ h => h.2) ?_)
       replace hm := hm.drew
       have hS : Mem w0 (hp w0) _ [blk b0_1 [(.slice (some ⟨b0_2, o0_1, none⟩) u.codes.length c0_1)] 30, blk b0_3 [(.int .i64 (x0_1.params)), (.int .i64 (x0_1.regs)), (.slice (some ⟨b0_4, o0_2, none⟩) x0_1.blocks.length c0_2)] 69, blk b0_5 [v0_2, (.slice p1_3 x0_2.ins.length c1_5), (.int .i64 (x0_2.jump)), (.int .i64 (x0_2.on)), (.slice p0_1 x0_2.next_.length c0_4)] 86] := hm.pick [0, 1, 2] (by decide) rfl
       refine td_p hf rfl rfl rfl rfl (fun w => y_move rfl rfl) fun a hf => td_p hf rfl rfl rfl rfl (fun w => y_fieldAddr fo_86_1 rfl rfl) fun a hf => td_p hf rfl rfl rfl rfl (fun w => y_move rfl rfl) fun a hf => td_y hf rfl rfl rfl rfl hS (fun w hm => y_loadN (cs := [(.slice (some ⟨b0_2, o0_1, none⟩) u.codes.length c0_1)]) Tryz.isAgg30 Tryz.sizeOf30 rfl rfl (hm.blk_at 0 rfl)) fun a hf => te_one (td_ef hf rfl rfl rfl rfl (ef_y hf (y_load1 Tryz.isAgg84 rfl rfl (hm.blk_cell 2 rfl rfl))) ?_)
       clear hf a; rintro _ _ a ⟨rfl, rfl⟩ hf
       refine ⟨fun _ => hS, ?_⟩
       obtain ⟨x1_2, hx1_5, hb0_2⟩ := bnd hb0_2
       obtain ⟨h1_11, hx1_6⟩ := getI_some.1 hx1_5
       obtain ⟨b1_2, o1_2, c1_6, he⟩ := idx_form' h0_5 hx1_6
       simp only [Value.slice.injEq, Option.some.injEq] at he; obtain ⟨rfl, _, rfl⟩ := he
       obtain ⟨_, _, hc1_1, hr1_1⟩ := ro_get' h0_5 hx1_6
       obtain ⟨_, _, rfl, rfl, _, _, rfl, rfl, _, _, rfl, h1_12, rfl⟩ := hr1_1
       obtain ⟨v1_3, rfl, -⟩ := id h1_12
       replace h1_12 : GT.rep (hp w0) [v1_3] x1_2.args := h1_12
       replace hc1_1 : CellsAt (hp w0) b1_2 (o1_2 + (i1_2).toNat * 4) [(.int .i64 (x1_2.op)), (.int .i64 (x1_2.to)), v1_3, (.int .i64 (x1_2.n_))] := hc1_1
       refine td_p hf rfl rfl rfl rfl (fun w => y_indexAddr st_84 rfl rfl rfl h1_11 (idx_lt hx1_6)) fun a hf => te_one (td_ef hf rfl rfl rfl rfl (ef_y hf (y_loadN (cs := [(.int .i64 (x1_2.op)), (.int .i64 (x1_2.to)), v1_3, (.int .i64 (x1_2.n_))]) Tryz.isAgg91 Tryz.sizeOf91 rfl rfl (hc1_1.mono hm.lez))) ?_)
       clear hf a; rintro _ _ a ⟨rfl, rfl⟩ hf
       refine ⟨fun _ => hS, ?_⟩
       refine te_one ?_
       obtain ⟨r1_3, hx1_7, hb0_2⟩ := bnd hb0_2
       refine td_ef hf rfl rfl rfl rfl (e_call hf rfl Tryz.call75 rfl (spec_l7Ins_ok _ u (.slice (some ⟨b0_2, o0_1, none⟩) u.codes.length c0_1) (hm.now h1) k_ x1_2 v1_3 (hm.now h1_12) _ hx1_7)) ?_
       clear hf a; rintro v1_4 w1_3 a ho1_3 hf
       obtain ⟨rfl, hB⟩ := ho1_3
       replace hm := hm.below' hB; clear hB
       refine ⟨fun h => absurd h (by decide), ?_⟩
       refine td_p hf rfl rfl rfl rfl (fun w => y_not rfl rfl) fun a hf => ?_
       clear hS; refine td_end ?_
       refine x_then_n ?_
       rcases bcases (!(r1_3)) with h1_13 | h1_13
       ·
        replace hb0_2 := (ite_t h1_13).symm.trans hb0_2
        have h1_14 := bnot_t' h1_13
        refine cond_t hf rfl h1_13 (wp_seq (wp_region_lit (st_y hf rfl rfl rfl (y_assign rfl rfl) fun a hf => st_end (x_then_n (wp_ret (x_blk_ret (x_then_ret ?_)))))))
        refine x_then_ret (x_blk_ret (x_then_ret ?_))
        obtain rfl := Option.some.inj hb0_2
        obtain rfl := ho0_2 _ rfl
        replace hq := sum_r hq
        obtain rfl := Option.some.inj hq
        refine ret_tmp hf Tryz.results54 rfl ?_
        exact ⟨rfl, hm.below⟩
       ·
        replace hb0_2 := (ite_f h1_13).symm.trans hb0_2
        have h1_15 := bnot_f' h1_13
        refine cond_f hf rfl h1_13 (wp_skip (x_blk_n (x_then_n (wp_region_lit (st_y hf rfl rfl rfl (y_move rfl rfl) fun a hf => st_y hf rfl rfl rfl (y_add64 rfl rfl rfl (by omega) (by omega)) fun a hf => st_y hf rfl rfl rfl (y_assign rfl rfl) fun a hf => st_end ?_)))))
        refine x_then_n ?_
        obtain rfl := Option.some.inj hb0_2
        exact ⟨_, rfl, hf.sub ⟨rfl, rfl, rfl, rfl, rfl, rfl, trivial⟩, hm.pick [0, 1, 2] (by decide) rfl⟩
      ·
       clear hf hm
       rintro i0_2 xs0_2 a w ⟨hf, hm⟩ hi0_3 hi0_4 rfl
       replace hq := sum_l hq
       refine wp_seq (wp_seq (wp_region_lit (st_y hf rfl rfl rfl (y_move rfl rfl) fun a hf => st_y hf rfl rfl rfl (y_fieldAddr fo_86_1 rfl rfl) fun a hf => st_y hf rfl rfl rfl (y_load1 Tryz.isAgg84 rfl rfl (hm.blk_cell 2 rfl rfl)) fun a hf => ?_)))
       obtain ⟨p0_2, c0_5, he, hl0_4⟩ := ro_slice h0_5
       subst he
       refine st_y hf rfl rfl rfl (y_len_slice st_84.und rfl rfl) fun a hf => st_y hf rfl rfl rfl (y_lss rfl rfl rfl) fun a hf => st_end (x_then_n (cond_f hf rfl (decide_eq_false (by omega)) (wp_exit (x_then_exit (x_then_exit (x_blk_hit ?_))))))
       refine x_then_n (wp_seq (wp_region_lit (st_y hf rfl rfl rfl (y_loadN (cs := [(.int .i64 (x0_1.params)), (.int .i64 (x0_1.regs)), (.slice (some ⟨b0_4, o0_2, none⟩) x0_1.blocks.length c0_2)]) Tryz.isAgg69 Tryz.sizeOf69 rfl rfl (hm.blk_at 1 rfl)) fun a hf => st_y hf rfl rfl rfl (y_move rfl rfl) fun a hf => ?_)))
       obtain ⟨r0_3, hx0_5, hq⟩ := bnd hq
       refine st_ef hf rfl rfl rfl (e_call hf rfl Tryz.call76 rfl (spec_l7Preds_ok _ x0_1 (.slice (some ⟨b0_4, o0_2, none⟩) x0_1.blocks.length c0_2) (hm.now h0_2) b_ _ hx0_5)) ?_
       clear hf a; rintro v0_5 w0_6 a ho0_3 hf
       obtain ⟨_, rfl, hB⟩ := ho0_3
       replace hm := hm.give hB; clear hB
       refine st_y hf rfl rfl rfl (y_assign rfl rfl) fun a hf => st_end (x_then_n (wp_seq (wp_seq (wp_region_lit (st_y hf rfl rfl rfl (y_assign rfl rfl) fun a hf => st_end (x_then_n ?_))))))
       obtain ⟨p0_3, c0_6, he, hl0_5⟩ := ro_slice (hm.ow_rep 0 rfl)
       subst he
       refine wp_block ?_
       obtain ⟨r0_4, hl0_6, hq⟩ := bnd hq
       refine wp_forN _ (fun i1_3 xs1_3 a w => Fr 136 [(2, (.int .i64 (b_))), (7, (.pointer (some ⟨b0_3, 0, none⟩))), (8, (.pointer (some ⟨b0_5, 0, none⟩))), (12, (.slice p0_3 r0_3.length c0_6)), (13, (.int .i64 (i1_3)))] a ∧ Mem w0 (hp w0) w [blk b0_3 [(.int .i64 (x0_1.params)), (.int .i64 (x0_1.regs)), (.slice (some ⟨b0_4, o0_2, none⟩) x0_1.blocks.length c0_2)] 69, blk b0_5 [v0_2, (.slice p0_2 x0_2.ins.length c0_5), (.int .i64 (x0_2.jump)), (.int .i64 (x0_2.on)), (.slice p0_1 x0_2.next_.length c0_4)] 86, ow [(.slice p0_3 r0_3.length c0_6)] r0_3]) (0) ((x0_2.phis.length : Int)) hl0_6 ?_ ?_ ?_
       ·
        exact ⟨hf.sub ⟨rfl, rfl, rfl, rfl, rfl, trivial⟩, hm.pick [2, 3, 0] (by decide) rfl⟩
       ·
        clear hf hm
        rintro i1_3 xs1_3 a w ⟨hf, hm⟩ hi1_5 hi1_6 q0_3 hb0_3 ho0_4
        refine wp_seq (wp_seq (wp_region_lit (st_y hf rfl rfl rfl (y_move rfl rfl) fun a hf => st_y hf rfl rfl rfl (y_fieldAddr fo_86_0 rfl rfl) fun a hf => st_y hf rfl rfl rfl (y_load1 Tryz.isAgg83 rfl rfl (hm.blk_cell 1 rfl rfl)) fun a hf => ?_)))
        obtain ⟨p1_4, c1_7, he, hl1_5⟩ := ro_slice h0_4
        subst he
        refine st_y hf rfl rfl rfl (y_len_slice st_83.und rfl rfl) fun a hf => st_y hf rfl rfl rfl (y_lss rfl rfl rfl) fun a hf => st_end (x_then_n (cond_t hf rfl (decide_eq_true (by omega)) (wp_skip (x_then_n (wp_seq (wp_block ?_))))))
        refine wp_seq ?_
        obtain ⟨s1_2, hq1_2, hb0_3⟩ := bnd hb0_3
        refine code_cut (K := fun a w => Fr 136 [(2, (.int .i64 (b_))), (7, (.pointer (some ⟨b0_3, 0, none⟩))), (8, (.pointer (some ⟨b0_5, 0, none⟩))), (12, (.slice p0_3 r0_3.length c0_6)), (13, (.int .i64 (i1_3))), (135, (.bool (s1_2)))] a ∧ Mem w0 (hp w0) w [blk b0_3 [(.int .i64 (x0_1.params)), (.int .i64 (x0_1.regs)), (.slice (some ⟨b0_4, o0_2, none⟩) x0_1.blocks.length c0_2)] 69, blk b0_5 [(.slice p1_4 x0_2.phis.length c1_7), (.slice p0_2 x0_2.ins.length c0_5), (.int .i64 (x0_2.jump)), (.int .i64 (x0_2.on)), (.slice p0_1 x0_2.next_.length c0_4)] 86, ow [(.slice p0_3 r0_3.length c0_6)] r0_3]) ?_ ?_
        ·
         refine wp_tree (.p 0 (.p 1 (.p 2 (.p 3 (.p 5 (.p 10 (.p 11 (.e 4 (.p 6 (.p 7 (.e 8 (.p 9 (.p 12 (.p 13 (.p 14 (.p 16 (.p 18 (.q 15 (.e 17 (.p 19 (.p 20 (.e 21 (.e 22 (.p 23 (.p 24 (.p 25 (.p 26 (.p 28 (.p 32 (.q 27 (.p 29 (.p 30 (.q 31 (.e 33 (.p 34 (.e 35 (.p 36 (.p 37 .fin)) .nil)) .nil))))))))))) .nil) .nil))) .nil)))))))) .nil))) .nil)))))))) [17, 21, 33] [0, 1, 2, 3, 5, 6, 7, 9, 10, 11, 12, 13, 14, 16, 18, 19, 20, 23, 24, 25, 26, 28, 29, 30, 32, 34, 36, 37] (fun w => Mem w0 (hp w0) w [blk b0_3 [(.int .i64 (x0_1.params)), (.int .i64 (x0_1.regs)), (.slice (some ⟨b0_4, o0_2, none⟩) x0_1.blocks.length c0_2)] 69, blk b0_5 [(.slice p1_4 x0_2.phis.length c1_7), (.slice p0_2 x0_2.ins.length c0_5), (.int .i64 (x0_2.jump)), (.int .i64 (x0_2.on)), (.slice p0_1 x0_2.next_.length c0_4)] 86, ow [(.slice p0_3 r0_3.length c0_6)] r0_3]) (by kernel_rfl) (by kernel_rfl) (fun _ _ _ h => h.2) ?_
         replace hm := hm.drew
         have hS : Mem w0 (hp w0) _ [blk b0_3 [(.int .i64 (x0_1.params)), (.int .i64 (x0_1.regs)), (.slice (some ⟨b0_4, o0_2, none⟩) x0_1.blocks.length c0_2)] 69, blk b0_5 [(.slice p1_4 x0_2.phis.length c1_7), (.slice p0_2 x0_2.ins.length c0_5), (.int .i64 (x0_2.jump)), (.int .i64 (x0_2.on)), (.slice p0_1 x0_2.next_.length c0_4)] 86, ow [(.slice p0_3 r0_3.length c0_6)] r0_3] := hm.pick [0, 1, 2] (by decide) rfl
         refine td_p hf rfl rfl rfl rfl (fun w => y_move rfl rfl) fun a hf => td_p hf rfl rfl rfl rfl (fun w => y_eql rfl rfl rfl) fun a hf => td_p hf rfl rfl rfl rfl (fun w => y_move rfl rfl) fun a hf => ?_
         rcases bcases (decide (b_ = 0)) with h2_7 | h2_7
         ·
          replace hq1_2 := (ite_t h2_7).symm.trans hq1_2
          have h2_8 := of_decide_eq_true h2_7
          refine td_pno hf rfl rfl rfl (lk_b rfl h2_7) rfl rfl rfl fun a hf => td_pno hf rfl rfl rfl (lk_b rfl h2_7) rfl rfl rfl fun a hf => td_pno hf rfl rfl rfl (lk_b rfl h2_7) rfl rfl rfl fun a hf => td_pno hf rfl rfl rfl (lk_b rfl h2_7) rfl rfl rfl fun a hf => te_one (td_no' hf rfl rfl rfl (lk_b rfl h2_7) rfl rfl rfl fun a hf => ⟨fun h => absurd h (by decide), ?_⟩)
          refine td_pno hf rfl rfl rfl (lk_b rfl h2_7) rfl rfl rfl fun a hf => td_pno hf rfl rfl rfl (lk_b rfl h2_7) rfl rfl rfl fun a hf => te_one (td_no' hf rfl rfl rfl (lk_b rfl h2_7) rfl rfl rfl fun a hf => ⟨fun h => absurd h (by decide), ?_⟩)
          refine td_pno hf rfl rfl rfl (lk_b rfl h2_7) rfl rfl rfl fun a hf => td_pno hf rfl rfl rfl (lk_b rfl h2_7) rfl rfl rfl fun a hf => td_p hf rfl rfl rfl rfl (fun w => y_pick_t rfl (ev_b rfl h2_7) rfl) fun a hf => td_p hf rfl rfl rfl rfl (fun w => y_move rfl rfl) fun a hf => td_pno hf rfl rfl rfl (lk_b rfl rfl) rfl rfl rfl fun a hf => td_pno hf rfl rfl rfl (lk_b rfl rfl) rfl rfl rfl fun a hf => td_no hf rfl rfl rfl (lk_b rfl rfl) rfl rfl rfl hS fun a hf => te_one (td_no' hf rfl rfl rfl (lk_b rfl rfl) rfl rfl rfl fun a hf => ?_)
          refine ⟨fun _ => hS, ?_⟩
          refine td_pno hf rfl rfl rfl (lk_b rfl rfl) rfl rfl rfl fun a hf => td_pno hf rfl rfl rfl (lk_b rfl rfl) rfl rfl rfl fun a hf => te_one (td_no' hf rfl rfl rfl (lk_b rfl rfl) rfl rfl rfl fun a hf => ⟨fun _ => hS, ?_⟩)
          refine te_one (td_no' hf rfl rfl rfl (lk_b rfl rfl) rfl rfl rfl fun a hf => ⟨fun h => absurd h (by decide), ?_⟩)
          refine td_pno hf rfl rfl rfl (lk_b rfl rfl) rfl rfl rfl fun a hf => td_p hf rfl rfl rfl rfl (fun w => y_pick_t rfl (ev_b rfl rfl) rfl) fun a hf => td_p hf rfl rfl rfl rfl (fun w => y_move rfl rfl) fun a hf => td_pno hf rfl rfl rfl (lk_b rfl rfl) rfl rfl rfl fun a hf => td_pno hf rfl rfl rfl (lk_b rfl rfl) rfl rfl rfl fun a hf => td_pno hf rfl rfl rfl (lk_b rfl rfl) rfl rfl rfl fun a hf => td_no hf rfl rfl rfl (lk_b rfl rfl) rfl rfl rfl hS fun a hf => td_pno hf rfl rfl rfl (lk_b rfl rfl) rfl rfl rfl fun a hf => td_pno hf rfl rfl rfl (lk_b rfl rfl) rfl rfl rfl fun a hf => ?_
          refine td_no hf rfl rfl rfl (lk_b rfl rfl) rfl rfl rfl hS fun a hf => te_one (td_no' hf rfl rfl rfl (lk_b rfl rfl) rfl rfl rfl fun a hf => ⟨fun _ => hS, ?_⟩)
          refine td_pno hf rfl rfl rfl (lk_b rfl rfl) rfl rfl rfl fun a hf => te_one (td_no' hf rfl rfl rfl (lk_b rfl rfl) rfl rfl rfl fun a hf => ⟨fun h => absurd h (by decide), ?_⟩)
          refine td_pno hf rfl rfl rfl (lk_b rfl rfl) rfl rfl rfl fun a hf => td_p hf rfl rfl rfl rfl (fun w => y_pick_t rfl (ev_b rfl rfl) rfl) fun a hf => ?_
          clear hS; refine td_end ?_
          refine x_then_n ?_
          obtain rfl := Option.some.inj hq1_2
          exact ⟨hf.sub ⟨rfl, rfl, rfl, rfl, rfl, rfl, trivial⟩, hm.pick [0, 1, 2] (by decide) rfl⟩
         ·
          replace hq1_2 := (ite_f h2_7).symm.trans hq1_2
          have h2_9 := of_decide_eq_false h2_7
          refine td_pg hf rfl rfl rfl (lk_b rfl h2_7) rfl rfl (fun w => y_fieldAddr fo_86_0 rfl rfl) fun a hf => td_pg hf rfl rfl rfl (lk_b rfl h2_7) rfl rfl (fun w => y_move rfl rfl) fun a hf => td_pg hf rfl rfl rfl (lk_b rfl h2_7) rfl rfl (fun w => y_move rfl rfl) fun a hf => td_pg hf rfl rfl rfl (lk_b rfl h2_7) rfl rfl (fun w => y_len_slice st_25.und rfl rfl) fun a hf => te_one (td_efg hf rfl rfl rfl (lk_b rfl h2_7) rfl rfl (ef_y hf (y_load1 Tryz.isAgg83 rfl rfl (hm.blk_cell 1 rfl rfl))) ?_)
          clear hf a; rintro _ _ a ⟨rfl, rfl⟩ hf
          refine ⟨fun h => absurd h (by decide), ?_⟩
          obtain ⟨x2_1, hx2_1, hq1_2⟩ := bnd hq1_2
          obtain ⟨h2_10, hx2_2⟩ := getI_some.1 hx2_1
          obtain ⟨b2_1, o2_1, c2_2, he⟩ := idx_form' h0_4 hx2_2
          simp only [Value.slice.injEq, Option.some.injEq] at he; obtain ⟨rfl, _, rfl⟩ := he
          obtain ⟨_, _, hc2_1, hr2_1⟩ := ro_get' h0_4 hx2_2
          obtain ⟨_, _, rfl, rfl, h2_11⟩ := hr2_1
          obtain ⟨v2_1, rfl, -⟩ := id h2_11
          replace h2_11 : GT.rep (hp w0) [v2_1] x2_1.args := h2_11
          replace hc2_1 : CellsAt (hp w0) b2_1 (o2_1 + (i1_3).toNat * 2) [(.int .i64 (x2_1.to)), v2_1] := hc2_1
          refine td_pg hf rfl rfl rfl (lk_b rfl h2_7) rfl rfl (fun w => y_indexAddr st_83 rfl rfl rfl h2_10 (idx_lt hx2_2)) fun a hf => td_pg hf rfl rfl rfl (lk_b rfl h2_7) rfl rfl (fun w => y_fieldAddr fo_102_1 rfl rfl) fun a hf => te_one (td_efg hf rfl rfl rfl (lk_b rfl h2_7) rfl rfl (ef_y hf (y_load1 Tryz.isAgg25 rfl rfl ((hc2_1.mono hm.lez).cell (j := 1) rfl))) ?_)
          clear hf a; rintro _ _ a ⟨rfl, rfl⟩ hf
          refine ⟨fun h => absurd h (by decide), ?_⟩
          obtain ⟨p2_1, c2_3, he, hl2_1⟩ := ro_slice h2_11
          subst he
          refine td_pg hf rfl rfl rfl (lk_b rfl h2_7) rfl rfl (fun w => y_len_slice st_25.und rfl rfl) fun a hf => td_pg hf rfl rfl rfl (lk_b rfl h2_7) rfl rfl (fun w => y_neq rfl rfl rfl) fun a hf => td_p hf rfl rfl rfl rfl (fun w => y_pick_f rfl (ev_b rfl h2_7) rfl) fun a hf => td_p hf rfl rfl rfl rfl (fun w => y_move rfl rfl) fun a hf => ?_
          rcases bcases (decide (((x2_1.args.length : Int)) ≠ ((r0_3.length : Int)))) with h2_12 | h2_12
          ·
           replace hq1_2 := (ite_t h2_12).symm.trans hq1_2
           have h2_13 := of_decide_eq_true h2_12
           refine td_pno hf rfl rfl rfl (lk_b rfl h2_12) rfl rfl rfl fun a hf => td_pno hf rfl rfl rfl (lk_b rfl h2_12) rfl rfl rfl fun a hf => td_no hf rfl rfl rfl (lk_b rfl h2_12) rfl rfl rfl hS fun a hf => te_one (td_no' hf rfl rfl rfl (lk_b rfl h2_12) rfl rfl rfl fun a hf => ⟨fun _ => hS, ?_⟩)
           refine td_pno hf rfl rfl rfl (lk_b rfl h2_12) rfl rfl rfl fun a hf => td_pno hf rfl rfl rfl (lk_b rfl h2_12) rfl rfl rfl fun a hf => te_one (td_no' hf rfl rfl rfl (lk_b rfl h2_12) rfl rfl rfl fun a hf => ⟨fun _ => hS, ?_⟩)
           refine te_one (td_no' hf rfl rfl rfl (lk_b rfl h2_12) rfl rfl rfl fun a hf => ⟨fun h => absurd h (by decide), ?_⟩)
           refine td_pno hf rfl rfl rfl (lk_b rfl h2_12) rfl rfl rfl fun a hf => td_p hf rfl rfl rfl rfl (fun w => y_pick_t rfl (ev_b rfl h2_12) rfl) fun a hf => td_p hf rfl rfl rfl rfl (fun w => y_move rfl rfl) fun a hf => td_pno hf rfl rfl rfl (lk_b rfl rfl) rfl rfl rfl fun a hf => td_pno hf rfl rfl rfl (lk_b rfl rfl) rfl rfl rfl fun a hf => td_pno hf rfl rfl rfl (lk_b rfl rfl) rfl rfl rfl fun a hf => td_no hf rfl rfl rfl (lk_b rfl rfl) rfl rfl rfl hS fun a hf => td_pno hf rfl rfl rfl (lk_b rfl rfl) rfl rfl rfl fun a hf => td_pno hf rfl rfl rfl (lk_b rfl rfl) rfl rfl rfl fun a hf => ?_
           refine td_no hf rfl rfl rfl (lk_b rfl rfl) rfl rfl rfl hS fun a hf => te_one (td_no' hf rfl rfl rfl (lk_b rfl rfl) rfl rfl rfl fun a hf => ⟨fun _ => hS, ?_⟩)
           refine td_pno hf rfl rfl rfl (lk_b rfl rfl) rfl rfl rfl fun a hf => te_one (td_no' hf rfl rfl rfl (lk_b rfl rfl) rfl rfl rfl fun a hf => ⟨fun h => absurd h (by decide), ?_⟩)
           refine td_pno hf rfl rfl rfl (lk_b rfl rfl) rfl rfl rfl fun a hf => td_p hf rfl rfl rfl rfl (fun w => y_pick_t rfl (ev_b rfl rfl) rfl) fun a hf => ?_
           clear hS; refine td_end ?_
           refine x_then_n ?_
           obtain rfl := Option.some.inj hq1_2
           exact ⟨hf.sub ⟨rfl, rfl, rfl, rfl, rfl, rfl, trivial⟩, hm.pick [0, 1, 2] (by decide) rfl⟩
          ·
           replace hq1_2 := (ite_f h2_12).symm.trans hq1_2
           have h2_14 := of_decide_eq_false h2_12
           refine td_pg hf rfl rfl rfl (lk_b rfl h2_12) rfl rfl (fun w => y_fieldAddr fo_86_0 rfl rfl) fun a hf => td_pg hf rfl rfl rfl (lk_b rfl h2_12) rfl rfl (fun w => y_move rfl rfl) fun a hf => td_yg hf rfl rfl rfl (lk_b rfl h2_12) rfl rfl hS (fun w hm => y_loadN (cs := [(.int .i64 (x0_1.params)), (.int .i64 (x0_1.regs)), (.slice (some ⟨b0_4, o0_2, none⟩) x0_1.blocks.length c0_2)]) Tryz.isAgg69 Tryz.sizeOf69 rfl rfl (hm.blk_at 0 rfl)) fun a hf => te_one (td_efg hf rfl rfl rfl (lk_b rfl h2_12) rfl rfl (ef_y hf (y_load1 Tryz.isAgg83 rfl rfl (hm.blk_cell 1 rfl rfl))) ?_)
           clear hf a; rintro _ _ a ⟨rfl, rfl⟩ hf
           refine ⟨fun _ => hS, ?_⟩
           refine td_pg hf rfl rfl rfl (lk_b rfl h2_12) rfl rfl (fun w => y_indexAddr st_83 rfl rfl rfl h2_10 (idx_lt hx2_2)) fun a hf => td_pg hf rfl rfl rfl (lk_b rfl h2_12) rfl rfl (fun w => y_fieldAddr fo_102_1 rfl rfl) fun a hf => te_one (td_efg hf rfl rfl rfl (lk_b rfl h2_12) rfl rfl (ef_y hf (y_load1 Tryz.isAgg25 rfl rfl ((hc2_1.mono hm.lez).cell (j := 1) rfl))) ?_)
           clear hf a; rintro _ _ a ⟨rfl, rfl⟩ hf
           refine ⟨fun _ => hS, ?_⟩
           refine te_one ?_
           obtain ⟨r2_1, hx2_3, hq1_2⟩ := bnd hq1_2
           refine td_efg hf rfl rfl rfl (lk_b rfl h2_12) rfl rfl (e_call hf rfl Tryz.call77 rfl (spec_l7Regs_ok _ x0_1 (.slice (some ⟨b0_4, o0_2, none⟩) x0_1.blocks.length c0_2) (hm.now h0_2) x2_1.args (.slice p2_1 x2_1.args.length c2_3) (hm.now h2_11) _ hx2_3)) ?_
           clear hf a; rintro v2_2 w2_1 a ho2_1 hf
           obtain ⟨rfl, hB⟩ := ho2_1
           replace hm := hm.below' hB; clear hB
           clear hS
           have hS : Mem w0 (hp w0) _ [blk b0_3 [(.int .i64 (x0_1.params)), (.int .i64 (x0_1.regs)), (.slice (some ⟨b0_4, o0_2, none⟩) x0_1.blocks.length c0_2)] 69, blk b0_5 [(.slice (some ⟨b2_1, o2_1, none⟩) x0_2.phis.length c1_7), (.slice p0_2 x0_2.ins.length c0_5), (.int .i64 (x0_2.jump)), (.int .i64 (x0_2.on)), (.slice p0_1 x0_2.next_.length c0_4)] 86, ow [(.slice p0_3 r0_3.length c0_6)] r0_3] := hm.pick [0, 1, 2] (by decide) rfl
           refine ⟨fun h => absurd h (by decide), ?_⟩
           refine td_pg hf rfl rfl rfl (lk_b rfl h2_12) rfl rfl (fun w => y_not rfl rfl) fun a hf => td_p hf rfl rfl rfl rfl (fun w => y_pick_f rfl (ev_b rfl h2_12) rfl) fun a hf => td_p hf rfl rfl rfl rfl (fun w => y_move rfl rfl) fun a hf => ?_
           rcases bcases (!(r2_1)) with h2_15 | h2_15
           ·
            replace hq1_2 := (ite_t h2_15).symm.trans hq1_2
            have h2_16 := bnot_t' h2_15
            refine td_pno hf rfl rfl rfl (lk_b rfl h2_15) rfl rfl rfl fun a hf => td_pno hf rfl rfl rfl (lk_b rfl h2_15) rfl rfl rfl fun a hf => td_pno hf rfl rfl rfl (lk_b rfl h2_15) rfl rfl rfl fun a hf => td_no hf rfl rfl rfl (lk_b rfl h2_15) rfl rfl rfl hS fun a hf => td_pno hf rfl rfl rfl (lk_b rfl h2_15) rfl rfl rfl fun a hf => td_pno hf rfl rfl rfl (lk_b rfl h2_15) rfl rfl rfl fun a hf => td_no hf rfl rfl rfl (lk_b rfl h2_15) rfl rfl rfl hS fun a hf => te_one (td_no' hf rfl rfl rfl (lk_b rfl h2_15) rfl rfl rfl fun a hf => ?_)
            refine ⟨fun _ => hS, ?_⟩
            refine td_pno hf rfl rfl rfl (lk_b rfl h2_15) rfl rfl rfl fun a hf => te_one (td_no' hf rfl rfl rfl (lk_b rfl h2_15) rfl rfl rfl fun a hf => ⟨fun h => absurd h (by decide), ?_⟩)
            refine td_pno hf rfl rfl rfl (lk_b rfl h2_15) rfl rfl rfl fun a hf => td_p hf rfl rfl rfl rfl (fun w => y_pick_t rfl (ev_b rfl h2_15) rfl) fun a hf => ?_
            clear hS; refine td_end ?_
            refine x_then_n ?_
            obtain rfl := Option.some.inj hq1_2
            exact ⟨hf.sub ⟨rfl, rfl, rfl, rfl, rfl, rfl, trivial⟩, hm.pick [0, 1, 2] (by decide) rfl⟩
           ·
            replace hq1_2 := (ite_f h2_15).symm.trans hq1_2
            have h2_17 := bnot_f' h2_15
            refine td_pg hf rfl rfl rfl (lk_b rfl h2_15) rfl rfl (fun w => y_fieldAddr fo_86_0 rfl rfl) fun a hf => td_pg hf rfl rfl rfl (lk_b rfl h2_15) rfl rfl (fun w => y_move rfl rfl) fun a hf => td_pg hf rfl rfl rfl (lk_b rfl h2_15) rfl rfl (fun w => y_fieldAddr fo_69_1 rfl rfl) fun a hf => td_yg hf rfl rfl rfl (lk_b rfl h2_15) rfl rfl hS (fun w hm => y_load1 Tryz.isAgg83 rfl rfl (hm.blk_cell 1 rfl rfl)) fun a hf => td_pg hf rfl rfl rfl (lk_b rfl h2_15) rfl rfl (fun w => y_indexAddr st_83 rfl rfl rfl h2_10 (idx_lt hx2_2)) fun a hf => td_pg hf rfl rfl rfl (lk_b rfl h2_15) rfl rfl (fun w => y_fieldAddr fo_102_0 rfl rfl) fun a hf => td_yg hf rfl rfl rfl (lk_b rfl h2_15) rfl rfl hS (fun w hm => y_load1 Tryz.isAgg3 rfl rfl ((hc2_1.mono hm.lez).cell (j := 0) rfl)) fun a hf => te_one (td_efg hf rfl rfl rfl (lk_b rfl h2_15) rfl rfl (ef_y hf (y_load1 Tryz.isAgg3 rfl rfl (hm.blk_cell 0 rfl rfl))) ?_)
            clear hf a; rintro _ _ a ⟨rfl, rfl⟩ hf
            refine ⟨fun _ => hS, ?_⟩
            refine td_pg hf rfl rfl rfl (lk_b rfl h2_15) rfl rfl (fun w => y_subw rfl rfl rfl) fun a hf => te_one ?_
            obtain ⟨r2_2, hx2_4, hq1_2⟩ := bnd hq1_2
            refine td_efg hf rfl rfl rfl (lk_b rfl h2_15) rfl rfl (e_call hf rfl Tryz.call29 rfl (spec_l1In_ok _ x2_1.to 0 (w64 (x0_1.regs - 1)) _ hx2_4)) ?_
            clear hf a; rintro v2_3 w2_2 a ho2_2 hf
            obtain ⟨rfl, hB⟩ := ho2_2
            replace hm := hm.below' hB; clear hB
            refine ⟨fun h => absurd h (by decide), ?_⟩
            refine td_pg hf rfl rfl rfl (lk_b rfl h2_15) rfl rfl (fun w => y_not rfl rfl) fun a hf => td_p hf rfl rfl rfl rfl (fun w => y_pick_f rfl (ev_b rfl h2_15) rfl) fun a hf => ?_
            clear hS; refine td_end ?_
            refine x_then_n ?_
            obtain rfl := Option.some.inj hq1_2
            exact ⟨hf.sub ⟨rfl, rfl, rfl, rfl, rfl, rfl, trivial⟩, hm.pick [0, 1, 2] (by decide) rfl⟩
        ·
         clear hf hm
         rintro a w ⟨hf, hm⟩
         refine x_then_n ?_
         rcases bcases (s1_2) with h1_16 | h1_16
         ·
          replace hb0_3 := (ite_t h1_16).symm.trans hb0_3
          refine cond_t hf rfl h1_16 (wp_seq (wp_region_lit (st_y hf rfl rfl rfl (y_assign rfl rfl) fun a hf => st_end (x_then_n (wp_ret (x_blk_ret (x_then_ret ?_)))))))
          refine x_then_ret (x_blk_ret (x_then_ret ?_))
          obtain rfl := Option.some.inj hb0_3
          obtain rfl := ho0_4 _ rfl
          replace hq := sum_r hq
          obtain rfl := Option.some.inj hq
          refine ret_tmp hf Tryz.results54 rfl ?_
          exact ⟨rfl, hm.below⟩
         ·
          replace hb0_3 := (ite_f h1_16).symm.trans hb0_3
          refine cond_f hf rfl h1_16 (wp_skip (x_blk_n (x_then_n (wp_region_lit (st_y hf rfl rfl rfl (y_move rfl rfl) fun a hf => st_y hf rfl rfl rfl (y_add64 rfl rfl rfl (by omega) (by omega)) fun a hf => st_y hf rfl rfl rfl (y_assign rfl rfl) fun a hf => st_end ?_)))))
          refine x_then_n ?_
          obtain rfl := Option.some.inj hb0_3
          exact ⟨_, rfl, hf.sub ⟨rfl, rfl, rfl, rfl, rfl, trivial⟩, hm.pick [0, 1, 2] (by decide) rfl⟩
       ·
        clear hf hm
        rintro i0_3 xs0_3 a w ⟨hf, hm⟩ hi0_5 hi0_6 rfl
        replace hq := sum_l hq
        refine wp_seq (wp_seq (wp_region_lit (st_y hf rfl rfl rfl (y_move rfl rfl) fun a hf => st_y hf rfl rfl rfl (y_fieldAddr fo_86_0 rfl rfl) fun a hf => st_y hf rfl rfl rfl (y_load1 Tryz.isAgg83 rfl rfl (hm.blk_cell 1 rfl rfl)) fun a hf => ?_)))
        obtain ⟨p0_4, c0_7, he, hl0_7⟩ := ro_slice h0_4
        subst he
        refine st_y hf rfl rfl rfl (y_len_slice st_83.und rfl rfl) fun a hf => st_y hf rfl rfl rfl (y_lss rfl rfl rfl) fun a hf => st_end (x_then_n (cond_f hf rfl (decide_eq_false (by omega)) (wp_exit (x_then_exit (x_then_exit (x_blk_hit ?_))))))
        refine x_then_n (wp_seq (wp_region_lit (st_y hf rfl rfl rfl (y_assign rfl rfl) fun a hf => st_end (x_then_n (wp_ret ?_)))))
        obtain rfl := Option.some.inj hq
        refine ret_tmp hf Tryz.results54 rfl ?_
        exact ⟨rfl, hm.below⟩

theorem spec_UnitValid_ok (w0 : World) (u : Unit_) (v1 : Value) (h1 : GT.rep (hp w0) [v1] u.codes) (r : Bool) (hq : spec_UnitValid u = some r) :
    Con Tryz.prog 39 [(.agg #[v1])] w0 (fun v w' => v = (.bool (r)) ∧ Below w0.heap.size w0 w') := by
  unfold spec_UnitValid at hq
  refine con_body (l := [(0, (.agg #[v1]))]) Tryz.func39 rfl Tryz.ntmps39 (Args.get ⟨rfl, trivial⟩) rfl ?_
  intro a hf
  have hm := Mem.start w0
  refine wp_seq (wp_region_lit (st_ef hf rfl rfl rfl (e_box hf hm rfl rfl rfl) ?_))
  clear hf a; rintro _ w0_1 a ⟨b0_1, rfl, hm⟩ hf
  refine st_y hf rfl rfl rfl (y_assign rfl rfl) fun a hf => st_end (x_then_n (wp_seq (wp_seq (wp_region_lit (st_y hf rfl rfl rfl (y_fieldAddr fo_30_0 rfl rfl) fun a hf => st_y hf rfl rfl rfl (y_load1 Tryz.isAgg28 rfl rfl (hm.blk_cell 0 rfl rfl)) fun a hf => ?_)))))
  obtain ⟨p0_1, c0_1, he, hl0_1⟩ := ro_slice h1
  subst he
  refine st_y hf rfl rfl rfl (y_len_slice st_28.und rfl rfl) fun a hf => ?_
  obtain ⟨r0_1, hx0_1, hq⟩ := bnd hq
  refine st_ef hf rfl rfl rfl (e_call hf rfl Tryz.call29 rfl (spec_l1In_ok _ (u.codes.length : Int) 1 4 _ hx0_1)) ?_
  clear hf a; rintro v0_1 w0_2 a ho0_1 hf
  obtain ⟨rfl, hB⟩ := ho0_1
  replace hm := hm.below' hB; clear hB
  refine st_y hf rfl rfl rfl (y_not rfl rfl) fun a hf => st_end (x_then_n ?_)
  rcases bcases (!(r0_1)) with h0_1 | h0_1
  ·
   replace hq := (ite_t h0_1).symm.trans hq
   have h0_2 := bnot_t' h0_1
   refine cond_t hf rfl h0_1 (wp_seq (wp_region_lit (st_y hf rfl rfl rfl (y_assign rfl rfl) fun a hf => st_end (x_then_n (wp_ret (x_then_ret ?_))))))
   obtain rfl := Option.some.inj hq
   refine ret_tmp hf Tryz.results39 rfl ?_
   exact ⟨rfl, hm.below⟩
  ·
   replace hq := (ite_f h0_1).symm.trans hq
   have h0_3 := bnot_f' h0_1
   refine cond_f hf rfl h0_1 (wp_skip (x_then_n (wp_seq (wp_region_lit (st_y hf rfl rfl rfl (y_assign rfl rfl) fun a hf => st_end (x_then_n (wp_seq ?_)))))))
   refine wp_seq (wp_region_lit (st_y hf rfl rfl rfl (y_assign rfl rfl) fun a hf => st_end (x_then_n (wp_block ?_))))
   obtain ⟨r0_2, hl0_2, hq⟩ := bnd hq
   refine wp_forN _ (fun i1_1 xs1_1 a w => Fr 76 [(1, (.pointer (some ⟨b0_1, 0, none⟩))), (3, (.int .i64 (xs1_1))), (4, (.int .i64 (i1_1)))] a ∧ Mem w0 (hp w0) w [blk b0_1 [(.slice p0_1 u.codes.length c0_1)] 30]) (0) ((u.codes.length : Int)) hl0_2 ?_ ?_ ?_
   ·
    exact ⟨hf.sub ⟨rfl, rfl, rfl, trivial⟩, hm.pick [0] (by decide) rfl⟩
   ·
    clear hf hm
    rintro i1_1 xs1_1 a w ⟨hf, hm⟩ hi1_1 hi1_2 q0_1 hb0_1 ho0_2
    refine wp_seq (wp_seq (wp_region_lit (st_y hf rfl rfl rfl (y_move rfl rfl) fun a hf => st_y hf rfl rfl rfl (y_fieldAddr fo_30_0 rfl rfl) fun a hf => st_y hf rfl rfl rfl (y_load1 Tryz.isAgg28 rfl rfl (hm.blk_cell 0 rfl rfl)) fun a hf => st_y hf rfl rfl rfl (y_len_slice st_28.und rfl rfl) fun a hf => st_y hf rfl rfl rfl (y_lss rfl rfl rfl) fun a hf => st_end ?_)))
    refine x_then_n (cond_t hf rfl (decide_eq_true (by omega)) (wp_skip (x_then_n (wp_seq (wp_block (wp_seq (wp_region_lit (st_y hf rfl rfl rfl (y_fieldAddr fo_30_0 rfl rfl) fun a hf => ?_))))))))
    refine st_y hf rfl rfl rfl (y_load1 Tryz.isAgg28 rfl rfl (hm.blk_cell 0 rfl rfl)) fun a hf => st_y hf rfl rfl rfl (y_move rfl rfl) fun a hf => ?_
    obtain ⟨x1_1, hx1_1, hb0_1⟩ := bnd hb0_1
    obtain ⟨h1_1, hx1_2⟩ := getI_some.1 hx1_1
    obtain ⟨b1_1, o1_1, c1_1, he⟩ := idx_form' h1 hx1_2
    simp only [Value.slice.injEq, Option.some.injEq] at he; obtain ⟨rfl, _, rfl⟩ := he
    obtain ⟨_, _, hc1_1, hr1_1⟩ := ro_get' h1 hx1_2
    obtain ⟨_, _, rfl, rfl, _, _, rfl, rfl, h1_2⟩ := hr1_1
    obtain ⟨v1_1, rfl, -⟩ := id h1_2
    replace h1_2 : GT.rep (hp w0) [v1_1] x1_1.blocks := h1_2
    replace hc1_1 : CellsAt (hp w0) b1_1 (o1_1 + (i1_1).toNat * 3) [(.int .i64 (x1_1.params)), (.int .i64 (x1_1.regs)), v1_1] := hc1_1
    refine st_y hf rfl rfl rfl (y_indexAddr st_28 rfl rfl rfl h1_1 (idx_lt hx1_2)) fun a hf => st_y hf rfl rfl rfl (y_loadN (cs := [(.int .i64 (x1_1.params)), (.int .i64 (x1_1.regs)), v1_1]) Tryz.isAgg69 Tryz.sizeOf69 rfl rfl (hc1_1.mono hm.lez)) fun a hf => st_ef hf rfl rfl rfl (e_alloc hm Tryz.zeroValue69 rfl rfl) ?_
    clear hf a; rintro _ w1_1 a ⟨b1_2, rfl, hm⟩ hf
    refine st_ef0 hf rfl rfl (e_storeN 0 hf hm rfl Tryz.sizeOf69 rfl rfl rfl (one_cons rfl (one_cons rfl (one_cons (rep_one h1_2) one_nil))) rfl rfl) ?_
    clear hf a; rintro _ w1_2 a hm hf
    refine st_end (x_then_n (wp_seq (wp_seq ?_)))
    obtain ⟨s1_1, hq1_1, hb0_1⟩ := bnd hb0_1
    refine code_cut (K := fun a w => Fr 76 [(1, (.pointer (some ⟨b0_1, 0, none⟩))), (3, (.int .i64 (xs1_1))), (4, (.int .i64 (i1_1))), (5, (.pointer (some ⟨b1_2, 0, none⟩))), (42, (.bool (s1_1)))] a ∧ Mem w0 (hp w0) w [blk b0_1 [(.slice (some ⟨b1_1, o1_1, none⟩) u.codes.length c0_1)] 30, blk b1_2 [(.int .i64 (x1_1.params)), (.int .i64 (x1_1.regs)), v1_1] 69]) ?_ ?_
    ·
     refine wp_region_lit (st_y hf rfl rfl rfl (y_fieldAddr fo_69_0 rfl rfl) fun a hf => st_y hf rfl rfl rfl (y_load1 Tryz.isAgg3 rfl rfl (hm.blk_cell 0 rfl rfl)) fun a hf => ?_)
     obtain ⟨r2_1, hx2_1, hq1_1⟩ := bnd hq1_1
     refine st_ef hf rfl rfl rfl (e_call hf rfl Tryz.call29 rfl (spec_l1In_ok _ x1_1.params 0 3 _ hx2_1)) ?_
     clear hf a; rintro v2_1 w2_1 a ho2_1 hf
     obtain ⟨rfl, hB⟩ := ho2_1
     replace hm := hm.below' hB; clear hB
     refine st_y hf rfl rfl rfl (y_not rfl rfl) fun a hf => st_y hf rfl rfl rfl (y_move rfl rfl) fun a hf => ?_
     rcases bcases (!(r2_1)) with h2_1 | h2_1
     ·
      replace hq1_1 := (ite_t h2_1).symm.trans hq1_1
      have h2_2 := bnot_t' h2_1
      refine st_no hf rfl rfl (lk_b rfl h2_1) rfl rfl rfl fun a hf => st_no hf rfl rfl (lk_b rfl h2_1) rfl rfl rfl fun a hf => st_no hf rfl rfl (lk_b rfl h2_1) rfl rfl rfl fun a hf => st_no hf rfl rfl (lk_b rfl h2_1) rfl rfl rfl fun a hf => st_no hf rfl rfl (lk_b rfl h2_1) rfl rfl rfl fun a hf => st_no hf rfl rfl (lk_b rfl h2_1) rfl rfl rfl fun a hf => st_y hf rfl rfl rfl (y_pick_t rfl (ev_b rfl h2_1) rfl) fun a hf => st_y hf rfl rfl rfl (y_move rfl rfl) fun a hf => st_no hf rfl rfl (lk_b rfl rfl) rfl rfl rfl fun a hf => ?_
      refine st_no hf rfl rfl (lk_b rfl rfl) rfl rfl rfl fun a hf => st_no hf rfl rfl (lk_b rfl rfl) rfl rfl rfl fun a hf => st_no hf rfl rfl (lk_b rfl rfl) rfl rfl rfl fun a hf => st_no hf rfl rfl (lk_b rfl rfl) rfl rfl rfl fun a hf => st_y hf rfl rfl rfl (y_pick_t rfl (ev_b rfl rfl) rfl) fun a hf => st_end (x_then_n ?_)
      obtain rfl := Option.some.inj hq1_1
      exact ⟨hf.sub ⟨rfl, rfl, rfl, rfl, rfl, trivial⟩, hm.pick [1, 0] (by decide) rfl⟩
     ·
      replace hq1_1 := (ite_f h2_1).symm.trans hq1_1
      have h2_3 := bnot_f' h2_1
      refine st_yg hf rfl rfl (lk_b rfl h2_1) rfl rfl (y_fieldAddr fo_69_1 rfl rfl) fun a hf => st_yg hf rfl rfl (lk_b rfl h2_1) rfl rfl (y_load1 Tryz.isAgg3 rfl rfl (hm.blk_cell 0 rfl rfl)) fun a hf => st_yg hf rfl rfl (lk_b rfl h2_1) rfl rfl (y_fieldAddr fo_69_0 rfl rfl) fun a hf => st_yg hf rfl rfl (lk_b rfl h2_1) rfl rfl (y_load1 Tryz.isAgg3 rfl rfl (hm.blk_cell 0 rfl rfl)) fun a hf => ?_
      obtain ⟨r2_2, hx2_2, hq1_1⟩ := bnd hq1_1
      refine st_efg hf rfl rfl (lk_b rfl h2_1) rfl rfl (e_call hf rfl Tryz.call29 rfl (spec_l1In_ok _ x1_1.regs x1_1.params 300 _ hx2_2)) ?_
      clear hf a; rintro v2_2 w2_2 a ho2_2 hf
      obtain ⟨rfl, hB⟩ := ho2_2
      replace hm := hm.below' hB; clear hB
      refine st_yg hf rfl rfl (lk_b rfl h2_1) rfl rfl (y_not rfl rfl) fun a hf => st_y hf rfl rfl rfl (y_pick_f rfl (ev_b rfl h2_1) rfl) fun a hf => st_y hf rfl rfl rfl (y_move rfl rfl) fun a hf => ?_
      rcases bcases (!(r2_2)) with h2_4 | h2_4
      ·
       replace hq1_1 := (ite_t h2_4).symm.trans hq1_1
       have h2_5 := bnot_t' h2_4
       refine st_no hf rfl rfl (lk_b rfl h2_4) rfl rfl rfl fun a hf => st_no hf rfl rfl (lk_b rfl h2_4) rfl rfl rfl fun a hf => st_no hf rfl rfl (lk_b rfl h2_4) rfl rfl rfl fun a hf => st_no hf rfl rfl (lk_b rfl h2_4) rfl rfl rfl fun a hf => st_no hf rfl rfl (lk_b rfl h2_4) rfl rfl rfl fun a hf => st_y hf rfl rfl rfl (y_pick_t rfl (ev_b rfl h2_4) rfl) fun a hf => st_end (x_then_n ?_)
       obtain rfl := Option.some.inj hq1_1
       exact ⟨hf.sub ⟨rfl, rfl, rfl, rfl, rfl, trivial⟩, hm.pick [1, 0] (by decide) rfl⟩
      ·
       replace hq1_1 := (ite_f h2_4).symm.trans hq1_1
       have h2_6 := bnot_f' h2_4
       refine st_yg hf rfl rfl (lk_b rfl h2_4) rfl rfl (y_fieldAddr fo_69_2 rfl rfl) fun a hf => st_yg hf rfl rfl (lk_b rfl h2_4) rfl rfl (y_load1 Tryz.isAgg67 rfl rfl (hm.blk_cell 0 rfl rfl)) fun a hf => ?_
       obtain ⟨p2_1, c2_1, he, hl2_1⟩ := ro_slice h1_2
       subst he
       refine st_yg hf rfl rfl (lk_b rfl h2_4) rfl rfl (y_len_slice st_67.und rfl rfl) fun a hf => ?_
       obtain ⟨r2_3, hx2_3, hq1_1⟩ := bnd hq1_1
       refine st_efg hf rfl rfl (lk_b rfl h2_4) rfl rfl (e_call hf rfl Tryz.call29 rfl (spec_l1In_ok _ (x1_1.blocks.length : Int) 1 160 _ hx2_3)) ?_
       clear hf a; rintro v2_3 w2_3 a ho2_3 hf
       obtain ⟨rfl, hB⟩ := ho2_3
       replace hm := hm.below' hB; clear hB
       refine st_yg hf rfl rfl (lk_b rfl h2_4) rfl rfl (y_not rfl rfl) fun a hf => st_y hf rfl rfl rfl (y_pick_f rfl (ev_b rfl h2_4) rfl) fun a hf => st_end (x_then_n ?_)
       obtain rfl := Option.some.inj hq1_1
       exact ⟨hf.sub ⟨rfl, rfl, rfl, rfl, rfl, trivial⟩, hm.pick [1, 0] (by decide) rfl⟩
    ·
     clear hf hm
     rintro a w ⟨hf, hm⟩
     refine x_then_n ?_
     rcases bcases (s1_1) with h1_3 | h1_3
     ·
      replace hb0_1 := (ite_t h1_3).symm.trans hb0_1
      refine cond_t hf rfl h1_3 (wp_seq (wp_region_lit (st_y hf rfl rfl rfl (y_assign rfl rfl) fun a hf => st_end (x_then_n (wp_ret (x_then_ret (x_blk_ret ?_)))))))
      refine x_then_ret (x_then_ret (x_blk_ret (x_then_ret ?_)))
      obtain rfl := Option.some.inj hb0_1
      obtain rfl := ho0_2 _ rfl
      replace hq := sum_r hq
      obtain rfl := Option.some.inj hq
      refine ret_tmp hf Tryz.results39 rfl ?_
      exact ⟨rfl, hm.below⟩
     ·
      replace hb0_1 := (ite_f h1_3).symm.trans hb0_1
      refine cond_f hf rfl h1_3 (wp_skip (x_then_n (wp_seq (wp_region_lit (st_y hf rfl rfl rfl (y_assign rfl rfl) fun a hf => st_end (x_then_n (wp_block ?_)))))))
      obtain ⟨r1_1, hl1_1, hb0_1⟩ := bnd hb0_1
      refine wp_forN _ (fun i2_1 xs2_1 a w => Fr 76 [(1, (.pointer (some ⟨b0_1, 0, none⟩))), (3, (.int .i64 (xs2_1))), (4, (.int .i64 (i1_1))), (5, (.pointer (some ⟨b1_2, 0, none⟩))), (6, (.int .i64 (i2_1)))] a ∧ Mem w0 (hp w0) w [blk b0_1 [(.slice (some ⟨b1_1, o1_1, none⟩) u.codes.length c0_1)] 30, blk b1_2 [(.int .i64 (x1_1.params)), (.int .i64 (x1_1.regs)), v1_1] 69]) (0) ((x1_1.blocks.length : Int)) hl1_1 ?_ ?_ ?_
      ·
       exact ⟨hf.sub ⟨rfl, rfl, rfl, rfl, rfl, trivial⟩, hm.pick [0, 1] (by decide) rfl⟩
      ·
       clear hf hm
       rintro i2_1 xs2_1 a w ⟨hf, hm⟩ hi2_1 hi2_2 q1_1 hb1_1 ho1_1
       refine wp_seq (wp_seq (wp_region_lit (st_y hf rfl rfl rfl (y_move rfl rfl) fun a hf => st_y hf rfl rfl rfl (y_fieldAddr fo_69_2 rfl rfl) fun a hf => st_y hf rfl rfl rfl (y_load1 Tryz.isAgg67 rfl rfl (hm.blk_cell 1 rfl rfl)) fun a hf => ?_)))
       obtain ⟨p2_2, c2_2, he, hl2_2⟩ := ro_slice h1_2
       subst he
       refine st_y hf rfl rfl rfl (y_len_slice st_67.und rfl rfl) fun a hf => st_y hf rfl rfl rfl (y_lss rfl rfl rfl) fun a hf => st_end (x_then_n (cond_t hf rfl (decide_eq_true (by omega)) (wp_skip (x_then_n (wp_seq (wp_block ?_))))))
       refine wp_seq (wp_tree (.p 0 (.p 1 (.p 3 (.p 9 (.p 11 (.q 2 (.p 4 (.p 5 (.q 6 (.p 7 (.p 8 (.e 10 (.p 12 (.p 13 (.e 14 (.p 15 (.p 16 (.p 17 .fin))) .nil))) .nil)))))))))))) [10, 14] [0, 1, 3, 4, 5, 7, 8, 9, 11, 12, 13, 15, 16, 17] (fun w => Mem w0 (hp w0) w [blk b0_1 [(.slice (some ⟨b1_1, o1_1, none⟩) u.codes.length c0_1)] 30, blk b1_2 [(.int .i64 (x1_1.params)), (.int .i64 (x1_1.regs)), (.slice p2_2 x1_1.blocks.length c2_2)] 69]) (by kernel_rfl) (by kernel_rfl) (fun _ _ _ h => h.2) ?_)
       replace hm := hm.drew
       have hS : Mem w0 (hp w0) _ [blk b0_1 [(.slice (some ⟨b1_1, o1_1, none⟩) u.codes.length c0_1)] 30, blk b1_2 [(.int .i64 (x1_1.params)), (.int .i64 (x1_1.regs)), (.slice p2_2 x1_1.blocks.length c2_2)] 69] := hm.pick [0, 1] (by decide) rfl
       refine td_p hf rfl rfl rfl rfl (fun w => y_move rfl rfl) fun a hf => td_p hf rfl rfl rfl rfl (fun w => y_fieldAddr fo_69_2 rfl rfl) fun a hf => td_p hf rfl rfl rfl rfl (fun w => y_move rfl rfl) fun a hf => td_p hf rfl rfl rfl rfl (fun w => y_fieldAddr fo_69_2 rfl rfl) fun a hf => td_p hf rfl rfl rfl rfl (fun w => y_move rfl rfl) fun a hf => td_y hf rfl rfl rfl rfl hS (fun w hm => y_load1 Tryz.isAgg67 rfl rfl (hm.blk_cell 1 rfl rfl)) fun a hf => ?_
       obtain ⟨x2_1, hx2_4, hb1_1⟩ := bnd hb1_1
       obtain ⟨h2_7, hx2_5⟩ := getI_some.1 hx2_4
       obtain ⟨b2_1, o2_1, c2_3, he⟩ := idx_form' h1_2 hx2_5
       simp only [Value.slice.injEq, Option.some.injEq] at he; obtain ⟨rfl, _, rfl⟩ := he
       obtain ⟨_, _, hc2_1, hr2_1⟩ := ro_get' h1_2 hx2_5
       obtain ⟨_, _, rfl, h2_8, _, _, rfl, h2_9, _, _, rfl, rfl, _, _, rfl, rfl, h2_10⟩ := hr2_1
       obtain ⟨v2_4, rfl, -⟩ := id h2_8
       replace h2_8 : GT.rep (hp w0) [v2_4] x2_1.phis := h2_8
       obtain ⟨v2_5, rfl, -⟩ := id h2_9
       replace h2_9 : GT.rep (hp w0) [v2_5] x2_1.ins := h2_9
       obtain ⟨v2_6, rfl, -⟩ := id h2_10
       replace h2_10 : GT.rep (hp w0) [v2_6] x2_1.next_ := h2_10
       replace hc2_1 : CellsAt (hp w0) b2_1 (o2_1 + (i2_1).toNat * 5) [v2_4, v2_5, (.int .i64 (x2_1.jump)), (.int .i64 (x2_1.on)), v2_6] := hc2_1
       refine td_p hf rfl rfl rfl rfl (fun w => y_indexAddr st_67 rfl rfl rfl h2_7 (idx_lt hx2_5)) fun a hf => td_p hf rfl rfl rfl rfl (fun w => y_fieldAddr fo_86_1 rfl rfl) fun a hf => td_y hf rfl rfl rfl rfl hS (fun w hm => y_load1 Tryz.isAgg84 rfl rfl ((hc2_1.mono hm.lez).cell (j := 1) rfl)) fun a hf => ?_
       obtain ⟨p2_3, c2_4, he, hl2_3⟩ := ro_slice h2_9
       subst he
       refine td_p hf rfl rfl rfl rfl (fun w => y_len_slice st_84.und rfl rfl) fun a hf => td_p hf rfl rfl rfl rfl (fun w => y_addw rfl rfl rfl) fun a hf => te_one (td_ef hf rfl rfl rfl rfl (ef_y hf (y_load1 Tryz.isAgg67 rfl rfl (hm.blk_cell 1 rfl rfl))) ?_)
       clear hf a; rintro _ _ a ⟨rfl, rfl⟩ hf
       refine ⟨fun _ => hS, ?_⟩
       refine td_p hf rfl rfl rfl rfl (fun w => y_indexAddr st_67 rfl rfl rfl h2_7 (idx_lt hx2_5)) fun a hf => td_p hf rfl rfl rfl rfl (fun w => y_fieldAddr fo_86_0 rfl rfl) fun a hf => te_one (td_ef hf rfl rfl rfl rfl (ef_y hf (y_load1 Tryz.isAgg83 rfl rfl ((hc2_1.mono hm.lez).cell (j := 0) rfl))) ?_)
       clear hf a; rintro _ _ a ⟨rfl, rfl⟩ hf
       refine ⟨fun _ => hS, ?_⟩
       obtain ⟨p2_4, c2_5, he, hl2_4⟩ := ro_slice h2_8
       subst he
       refine td_p hf rfl rfl rfl rfl (fun w => y_len_slice st_83.und rfl rfl) fun a hf => td_p hf rfl rfl rfl rfl (fun w => y_addw rfl rfl rfl) fun a hf => td_p hf rfl rfl rfl rfl (fun w => y_assign rfl rfl) fun a hf => ?_
       clear hS; refine td_end ?_
       refine x_then_n (wp_seq ?_)
       obtain ⟨s2_1, hq2_1, hb1_1⟩ := bnd hb1_1
       refine code_cut (K := fun a w => Fr 76 [(1, (.pointer (some ⟨b0_1, 0, none⟩))), (3, (.int .i64 (w64 ((w64 (xs2_1 + ((x2_1.ins.length : Int)))) + ((x2_1.phis.length : Int)))))), (4, (.int .i64 (i1_1))), (5, (.pointer (some ⟨b1_2, 0, none⟩))), (6, (.int .i64 (i2_1))), (75, (.bool (s2_1)))] a ∧ Mem w0 (hp w0) w [blk b0_1 [(.slice (some ⟨b1_1, o1_1, none⟩) u.codes.length c0_1)] 30, blk b1_2 [(.int .i64 (x1_1.params)), (.int .i64 (x1_1.regs)), (.slice (some ⟨b2_1, o2_1, none⟩) x1_1.blocks.length c2_2)] 69]) ?_ ?_
       ·
        refine wp_region_lit (st_y hf rfl rfl rfl (y_move rfl rfl) fun a hf => st_y hf rfl rfl rfl (y_gtr rfl rfl rfl) fun a hf => st_y hf rfl rfl rfl (y_move rfl rfl) fun a hf => ?_)
        rcases bcases (decide (800 < (w64 ((w64 (xs2_1 + ((x2_1.ins.length : Int)))) + ((x2_1.phis.length : Int)))))) with h3_1 | h3_1
        ·
         replace hq2_1 := (ite_t h3_1).symm.trans hq2_1
         have h3_2 := of_decide_eq_true h3_1
         refine st_no hf rfl rfl (lk_b rfl h3_1) rfl rfl rfl fun a hf => st_no hf rfl rfl (lk_b rfl h3_1) rfl rfl rfl fun a hf => st_no hf rfl rfl (lk_b rfl h3_1) rfl rfl rfl fun a hf => st_no hf rfl rfl (lk_b rfl h3_1) rfl rfl rfl fun a hf => st_no hf rfl rfl (lk_b rfl h3_1) rfl rfl rfl fun a hf => st_y hf rfl rfl rfl (y_pick_t rfl (ev_b rfl h3_1) rfl) fun a hf => st_end (x_then_n ?_)
         obtain rfl := Option.some.inj hq2_1
         exact ⟨hf.sub ⟨rfl, rfl, rfl, rfl, rfl, rfl, trivial⟩, hm.pick [0, 1] (by decide) rfl⟩
        ·
         replace hq2_1 := (ite_f h3_1).symm.trans hq2_1
         have h3_3 := of_decide_eq_false h3_1
         refine st_yg hf rfl rfl (lk_b rfl h3_1) rfl rfl (y_loadN (cs := [(.slice (some ⟨b1_1, o1_1, none⟩) u.codes.length c0_1)]) Tryz.isAgg30 Tryz.sizeOf30 rfl rfl (hm.blk_at 0 rfl)) fun a hf => st_yg hf rfl rfl (lk_b rfl h3_1) rfl rfl (y_move rfl rfl) fun a hf => st_yg hf rfl rfl (lk_b rfl h3_1) rfl rfl (y_move rfl rfl) fun a hf => ?_
         obtain ⟨r3_1, hx3_1, hq2_1⟩ := bnd hq2_1
         refine st_efg hf rfl rfl (lk_b rfl h3_1) rfl rfl (e_call hf rfl Tryz.call54 rfl (spec_l7Block_ok _ u (.slice (some ⟨b1_1, o1_1, none⟩) u.codes.length c0_1) (hm.now h1) i1_1 i2_1 _ hx3_1)) ?_
         clear hf a; rintro v3_1 w3_1 a ho3_1 hf
         obtain ⟨rfl, hB⟩ := ho3_1
         replace hm := hm.below' hB; clear hB
         refine st_yg hf rfl rfl (lk_b rfl h3_1) rfl rfl (y_not rfl rfl) fun a hf => st_y hf rfl rfl rfl (y_pick_f rfl (ev_b rfl h3_1) rfl) fun a hf => st_end (x_then_n ?_)
         obtain rfl := Option.some.inj hq2_1
         exact ⟨hf.sub ⟨rfl, rfl, rfl, rfl, rfl, rfl, trivial⟩, hm.pick [0, 1] (by decide) rfl⟩
       ·
        clear hf hm
        rintro a w ⟨hf, hm⟩
        refine x_then_n ?_
        rcases bcases (s2_1) with h2_11 | h2_11
        ·
         replace hb1_1 := (ite_t h2_11).symm.trans hb1_1
         refine cond_t hf rfl h2_11 (wp_seq (wp_region_lit (st_y hf rfl rfl rfl (y_assign rfl rfl) fun a hf => st_end (x_then_n (wp_ret (x_blk_ret (x_then_ret ?_)))))))
         refine x_then_ret (x_blk_ret (x_blk_ret (x_then_ret (x_then_ret (x_blk_ret (x_then_ret ?_))))))
         obtain rfl := Option.some.inj hb1_1
         obtain rfl := ho1_1 _ rfl
         replace hb0_1 := sum_r hb0_1
         obtain rfl := Option.some.inj hb0_1
         obtain rfl := ho0_2 _ rfl
         replace hq := sum_r hq
         obtain rfl := Option.some.inj hq
         refine ret_tmp hf Tryz.results39 rfl ?_
         exact ⟨rfl, hm.below⟩
        ·
         replace hb1_1 := (ite_f h2_11).symm.trans hb1_1
         refine cond_f hf rfl h2_11 (wp_skip (x_blk_n (x_then_n (wp_region_lit (st_y hf rfl rfl rfl (y_move rfl rfl) fun a hf => st_y hf rfl rfl rfl (y_add64 rfl rfl rfl (by omega) (by omega)) fun a hf => st_y hf rfl rfl rfl (y_assign rfl rfl) fun a hf => st_end ?_)))))
         refine x_then_n ?_
         obtain rfl := Option.some.inj hb1_1
         exact ⟨_, rfl, hf.sub ⟨rfl, rfl, rfl, rfl, rfl, trivial⟩, hm.pick [0, 1] (by decide) rfl⟩
      ·
       clear hf hm
       rintro i1_2 xs1_2 a w ⟨hf, hm⟩ hi1_3 hi1_4 rfl
       replace hb0_1 := sum_l hb0_1
       refine wp_seq (wp_seq (wp_region_lit (st_y hf rfl rfl rfl (y_move rfl rfl) fun a hf => st_y hf rfl rfl rfl (y_fieldAddr fo_69_2 rfl rfl) fun a hf => st_y hf rfl rfl rfl (y_load1 Tryz.isAgg67 rfl rfl (hm.blk_cell 1 rfl rfl)) fun a hf => ?_)))
       obtain ⟨p1_1, c1_2, he, hl1_2⟩ := ro_slice h1_2
       subst he
       refine st_y hf rfl rfl rfl (y_len_slice st_67.und rfl rfl) fun a hf => st_y hf rfl rfl rfl (y_lss rfl rfl rfl) fun a hf => st_end (x_then_n (cond_f hf rfl (decide_eq_false (by omega)) (wp_exit (x_then_exit (x_then_exit (x_blk_hit ?_))))))
       refine x_blk_n (x_then_n (wp_region_lit (st_y hf rfl rfl rfl (y_move rfl rfl) fun a hf => st_y hf rfl rfl rfl (y_add64 rfl rfl rfl (by omega) (by omega)) fun a hf => st_y hf rfl rfl rfl (y_assign rfl rfl) fun a hf => st_end (x_then_n ?_))))
       obtain rfl := Option.some.inj hb0_1
       exact ⟨_, rfl, hf.sub ⟨rfl, rfl, rfl, trivial⟩, hm.pick [0] (by decide) rfl⟩
   ·
    clear hf hm
    rintro i0_1 xs0_1 a w ⟨hf, hm⟩ hi0_1 hi0_2 rfl
    replace hq := sum_l hq
    refine wp_seq (wp_seq (wp_region_lit (st_y hf rfl rfl rfl (y_move rfl rfl) fun a hf => st_y hf rfl rfl rfl (y_fieldAddr fo_30_0 rfl rfl) fun a hf => st_y hf rfl rfl rfl (y_load1 Tryz.isAgg28 rfl rfl (hm.blk_cell 0 rfl rfl)) fun a hf => st_y hf rfl rfl rfl (y_len_slice st_28.und rfl rfl) fun a hf => st_y hf rfl rfl rfl (y_lss rfl rfl rfl) fun a hf => st_end ?_)))
    refine x_then_n (cond_f hf rfl (decide_eq_false (by omega)) (wp_exit (x_then_exit (x_then_exit (x_blk_hit (x_then_n (wp_seq (wp_region_lit ?_))))))))
    refine st_y hf rfl rfl rfl (y_assign rfl rfl) fun a hf => st_end (x_then_n (wp_ret ?_))
    obtain rfl := Option.some.inj hq
    refine ret_tmp hf Tryz.results39 rfl ?_
    exact ⟨rfl, hm.below⟩

theorem spec_l5Values_ok (w0 : World) (list : List Int) (v1 : Value) (h1 : GT.rep (hp w0) [v1] list) (r : Bool) (hq : spec_l5Values list = some r) :
    Con Tryz.prog 40 [v1] w0 (fun v w' => v = (.bool (r)) ∧ Below w0.heap.size w0 w') := by
  unfold spec_l5Values at hq
  refine con_body (l := [(0, v1)]) Tryz.func40 rfl Tryz.ntmps40 (Args.get ⟨rfl, trivial⟩) rfl ?_
  intro a hf
  have hm := Mem.start w0
  refine wp_seq (wp_region_lit (st_y hf rfl rfl rfl (y_assign rfl rfl) fun a hf => st_end (x_then_n (wp_seq (wp_seq (wp_region_lit (st_y hf rfl rfl rfl (y_assign rfl rfl) fun a hf => ?_)))))))
  refine st_end (x_then_n (wp_block ?_))
  obtain ⟨r0_1, hl0_1, hq⟩ := bnd hq
  refine wp_forN _ (fun i1_1 xs1_1 a w => Fr 16 [(0, v1), (3, (.int .i64 (i1_1)))] a ∧ Mem w0 (hp w0) w []) (0) ((list.length : Int)) hl0_1 ?_ ?_ ?_
  ·
   exact ⟨hf.sub ⟨rfl, rfl, trivial⟩, hm.pick [] (by decide) rfl⟩
  ·
   clear hf hm
   rintro i1_1 xs1_1 a w ⟨hf, hm⟩ hi1_1 hi1_2 q0_1 hb0_1 ho0_1
   refine wp_seq (wp_seq (wp_region_lit (st_y hf rfl rfl rfl (y_move rfl rfl) fun a hf => st_y hf rfl rfl rfl (y_move rfl rfl) fun a hf => ?_)))
   obtain ⟨p1_1, c1_1, he, hl1_1⟩ := ro_slice h1
   subst he
   refine st_y hf rfl rfl rfl (y_len_slice st_25.und rfl rfl) fun a hf => st_y hf rfl rfl rfl (y_lss rfl rfl rfl) fun a hf => st_end (x_then_n (cond_t hf rfl (decide_eq_true (by omega)) (wp_skip (x_then_n (wp_seq (wp_block ?_))))))
   refine wp_seq (wp_region_lit (st_y hf rfl rfl rfl (y_move rfl rfl) fun a hf => st_y hf rfl rfl rfl (y_move rfl rfl) fun a hf => ?_))
   obtain ⟨x1_1, hx1_1, hb0_1⟩ := bnd hb0_1
   obtain ⟨h1_1, hx1_2⟩ := getI_some.1 hx1_1
   obtain ⟨b1_1, o1_1, c1_2, he⟩ := idx_form h1 hx1_2
   simp only [Value.slice.injEq, Option.some.injEq] at he; obtain ⟨rfl, _, rfl⟩ := he
   refine st_y hf rfl rfl rfl (y_indexAddr st_25 rfl rfl rfl h1_1 (idx_lt hx1_2)) fun a hf => st_y hf rfl rfl rfl (y_load1 Tryz.isAgg3 rfl rfl ((flat_cells (cs := [(.int .i64 (x1_1))]) (hm.now h1) hx1_2 rfl).cell (j := 0) rfl)) fun a hf => ?_
   obtain ⟨r1_1, hx1_3, hb0_1⟩ := bnd hb0_1
   refine st_ef hf rfl rfl rfl (e_call hf rfl Tryz.call29 rfl (spec_l1In_ok _ x1_1 0 255 _ hx1_3)) ?_
   clear hf a; rintro v1_1 w1_1 a ho1_1 hf
   obtain ⟨rfl, hB⟩ := ho1_1
   replace hm := hm.below' hB; clear hB
   refine st_y hf rfl rfl rfl (y_not rfl rfl) fun a hf => st_end (x_then_n ?_)
   rcases bcases (!(r1_1)) with h1_2 | h1_2
   ·
    replace hb0_1 := (ite_t h1_2).symm.trans hb0_1
    have h1_3 := bnot_t' h1_2
    refine cond_t hf rfl h1_2 (wp_seq (wp_region_lit (st_y hf rfl rfl rfl (y_assign rfl rfl) fun a hf => st_end (x_then_n (wp_ret (x_blk_ret (x_then_ret ?_)))))))
    refine x_then_ret (x_blk_ret (x_then_ret ?_))
    obtain rfl := Option.some.inj hb0_1
    obtain rfl := ho0_1 _ rfl
    replace hq := sum_r hq
    obtain rfl := Option.some.inj hq
    refine ret_tmp hf Tryz.results40 rfl ?_
    exact ⟨rfl, hm.below⟩
   ·
    replace hb0_1 := (ite_f h1_2).symm.trans hb0_1
    have h1_4 := bnot_f' h1_2
    refine cond_f hf rfl h1_2 (wp_skip (x_blk_n (x_then_n (wp_region_lit (st_y hf rfl rfl rfl (y_move rfl rfl) fun a hf => st_y hf rfl rfl rfl (y_add64 rfl rfl rfl (by omega) (by omega)) fun a hf => st_y hf rfl rfl rfl (y_assign rfl rfl) fun a hf => st_end ?_)))))
    refine x_then_n ?_
    obtain rfl := Option.some.inj hb0_1
    exact ⟨_, rfl, hf.sub ⟨rfl, rfl, trivial⟩, hm.pick [] (by decide) rfl⟩
  ·
   clear hf hm
   rintro i0_1 xs0_1 a w ⟨hf, hm⟩ hi0_1 hi0_2 rfl
   replace hq := sum_l hq
   refine wp_seq (wp_seq (wp_region_lit (st_y hf rfl rfl rfl (y_move rfl rfl) fun a hf => st_y hf rfl rfl rfl (y_move rfl rfl) fun a hf => ?_)))
   obtain ⟨p0_1, c0_1, he, hl0_2⟩ := ro_slice h1
   subst he
   refine st_y hf rfl rfl rfl (y_len_slice st_25.und rfl rfl) fun a hf => st_y hf rfl rfl rfl (y_lss rfl rfl rfl) fun a hf => st_end (x_then_n (cond_f hf rfl (decide_eq_false (by omega)) (wp_exit (x_then_exit (x_then_exit (x_blk_hit ?_))))))
   refine x_then_n (wp_seq (wp_region_lit (st_y hf rfl rfl rfl (y_assign rfl rfl) fun a hf => st_end (x_then_n (wp_ret ?_)))))
   obtain rfl := Option.some.inj hq
   refine ret_tmp hf Tryz.results40 rfl ?_
   exact ⟨rfl, hm.below⟩

theorem spec_l8Fits_ok (w0 : World) (u : Unit_) (v1 : Value) (h1 : GT.rep (hp w0) [v1] u.codes) (in_ : List Int) (v2 : Value) (h2 : GT.rep (hp w0) [v2] in_) (r : Bool) (hq : spec_l8Fits u in_ = some r) :
    Con Tryz.prog 28 [(.agg #[v1]), v2] w0 (fun v w' => v = (.bool (r)) ∧ Below w0.heap.size w0 w') := by
  unfold spec_l8Fits at hq
  refine con_body (l := [(0, (.agg #[v1])), (1, v2)]) Tryz.func28 rfl Tryz.ntmps28 (Args.get ⟨rfl, rfl, trivial⟩) rfl ?_
  intro a hf
  have hm := Mem.start w0
  refine wp_seq (wp_region_lit (st_ef hf rfl rfl rfl (e_box hf hm rfl rfl rfl) ?_))
  clear hf a; rintro _ w0_1 a ⟨b0_1, rfl, hm⟩ hf
  refine st_y hf rfl rfl rfl (y_assign rfl rfl) fun a hf => st_end (x_then_n (wp_seq ?_))
  obtain ⟨s0_1, hq0_1, hq⟩ := bnd hq
  refine code_cut (K := fun a w => Fr 25 [(4, (.bool (s0_1)))] a ∧ Mem w0 (hp w0) w []) ?_ ?_
  ·
   refine wp_region_lit (st_y hf rfl rfl rfl (y_loadN (cs := [v1]) Tryz.isAgg30 Tryz.sizeOf30 rfl rfl (hm.blk_at 0 rfl)) fun a hf => ?_)
   obtain ⟨r1_1, hx1_1, hq0_1⟩ := bnd hq0_1
   refine st_ef hf rfl rfl rfl (e_call hf rfl Tryz.call39 rfl (spec_UnitValid_ok _ u v1 (hm.now h1) _ hx1_1)) ?_
   clear hf a; rintro v1_1 w1_1 a ho1_1 hf
   obtain ⟨rfl, hB⟩ := ho1_1
   replace hm := hm.below' hB; clear hB
   refine st_y hf rfl rfl rfl (y_move rfl rfl) fun a hf => ?_
   rcases bcases (r1_1) with h1_1 | h1_1
   ·
    replace hq0_1 := (ite_t h1_1).symm.trans hq0_1
    refine st_yg hf rfl rfl (lk_b rfl h1_1) rfl rfl (y_move rfl rfl) fun a hf => ?_
    obtain ⟨r1_2, hx1_2, hq0_1⟩ := bnd hq0_1
    refine st_efg hf rfl rfl (lk_b rfl h1_1) rfl rfl (e_call hf rfl Tryz.call40 rfl (spec_l5Values_ok _ in_ v2 (hm.now h2) _ hx1_2)) ?_
    clear hf a; rintro v1_2 w1_2 a ho1_2 hf
    obtain ⟨rfl, hB⟩ := ho1_2
    replace hm := hm.below' hB; clear hB
    refine st_y hf rfl rfl rfl (y_pick_t rfl (ev_b rfl h1_1) rfl) fun a hf => st_y hf rfl rfl rfl (y_move rfl rfl) fun a hf => ?_
    rcases bcases (r1_2) with h1_2 | h1_2
    ·
     replace hq0_1 := (ite_t h1_2).symm.trans hq0_1
     refine st_yg hf rfl rfl (lk_b rfl h1_2) rfl rfl (y_move rfl rfl) fun a hf => ?_
     obtain ⟨p1_1, c1_1, he, hl1_1⟩ := ro_slice h2
     subst he
     refine st_yg hf rfl rfl (lk_b rfl h1_2) rfl rfl (y_len_slice st_25.und rfl rfl) fun a hf => st_yg hf rfl rfl (lk_b rfl h1_2) rfl rfl (y_fieldAddr fo_30_0 rfl rfl) fun a hf => st_yg hf rfl rfl (lk_b rfl h1_2) rfl rfl (y_load1 Tryz.isAgg28 rfl rfl (hm.blk_cell 0 rfl rfl)) fun a hf => st_yg hf rfl rfl (lk_b rfl h1_2) rfl rfl (y_fieldAddr fo_30_0 rfl rfl) fun a hf => st_yg hf rfl rfl (lk_b rfl h1_2) rfl rfl (y_load1 Tryz.isAgg28 rfl rfl (hm.blk_cell 0 rfl rfl)) fun a hf => ?_
     obtain ⟨p1_2, c1_2, he, hl1_2⟩ := ro_slice h1
     subst he
     refine st_yg hf rfl rfl (lk_b rfl h1_2) rfl rfl (y_len_slice st_28.und rfl rfl) fun a hf => st_yg hf rfl rfl (lk_b rfl h1_2) rfl rfl (y_sub64 rfl rfl rfl (by omega) (by omega)) fun a hf => ?_
     obtain ⟨x1_1, hx1_3, hq0_1⟩ := bnd hq0_1
     obtain ⟨h1_3, hx1_4⟩ := getI_some.1 hx1_3
     obtain ⟨b1_1, o1_1, c1_3, he⟩ := idx_form' h1 hx1_4
     simp only [Value.slice.injEq, Option.some.injEq] at he; obtain ⟨rfl, _, rfl⟩ := he
     obtain ⟨_, _, hc1_1, hr1_1⟩ := ro_get' h1 hx1_4
     obtain ⟨_, _, rfl, rfl, _, _, rfl, rfl, h1_4⟩ := hr1_1
     obtain ⟨v1_3, rfl, -⟩ := id h1_4
     replace h1_4 : GT.rep (hp w0) [v1_3] x1_1.blocks := h1_4
     replace hc1_1 : CellsAt (hp w0) b1_1 (o1_1 + (((u.codes.length : Int)) - 1).toNat * 3) [(.int .i64 (x1_1.params)), (.int .i64 (x1_1.regs)), v1_3] := hc1_1
     refine st_yg hf rfl rfl (lk_b rfl h1_2) rfl rfl (y_indexAddr st_28 rfl rfl rfl h1_3 (idx_lt hx1_4)) fun a hf => st_yg hf rfl rfl (lk_b rfl h1_2) rfl rfl (y_fieldAddr fo_69_0 rfl rfl) fun a hf => st_yg hf rfl rfl (lk_b rfl h1_2) rfl rfl (y_load1 Tryz.isAgg3 rfl rfl ((hc1_1.mono hm.lez).cell (j := 0) rfl)) fun a hf => st_yg hf rfl rfl (lk_b rfl h1_2) rfl rfl (y_eql rfl rfl rfl) fun a hf => st_y hf rfl rfl rfl (y_pick_t rfl (ev_b rfl h1_2) rfl) fun a hf => st_y hf rfl rfl rfl (y_assign rfl rfl) fun a hf => st_end (x_then_n ?_)
     obtain rfl := Option.some.inj hq0_1
     exact ⟨hf.sub ⟨rfl, trivial⟩, hm.pick [] (by decide) rfl⟩
    ·
     replace hq0_1 := (ite_f h1_2).symm.trans hq0_1
     refine st_no hf rfl rfl (lk_b rfl h1_2) rfl rfl rfl fun a hf => st_no hf rfl rfl (lk_b rfl h1_2) rfl rfl rfl fun a hf => st_no hf rfl rfl (lk_b rfl h1_2) rfl rfl rfl fun a hf => st_no hf rfl rfl (lk_b rfl h1_2) rfl rfl rfl fun a hf => st_no hf rfl rfl (lk_b rfl h1_2) rfl rfl rfl fun a hf => st_no hf rfl rfl (lk_b rfl h1_2) rfl rfl rfl fun a hf => st_no hf rfl rfl (lk_b rfl h1_2) rfl rfl rfl fun a hf => st_no hf rfl rfl (lk_b rfl h1_2) rfl rfl rfl fun a hf => st_no hf rfl rfl (lk_b rfl h1_2) rfl rfl rfl fun a hf => ?_
     refine st_no hf rfl rfl (lk_b rfl h1_2) rfl rfl rfl fun a hf => st_no hf rfl rfl (lk_b rfl h1_2) rfl rfl rfl fun a hf => st_no hf rfl rfl (lk_b rfl h1_2) rfl rfl rfl fun a hf => st_y hf rfl rfl rfl (y_pick_f rfl (ev_b rfl h1_2) rfl) fun a hf => st_y hf rfl rfl rfl (y_assign rfl rfl) fun a hf => st_end (x_then_n ?_)
     obtain rfl := Option.some.inj hq0_1
     exact ⟨hf.sub ⟨rfl, trivial⟩, hm.pick [] (by decide) rfl⟩
   ·
    replace hq0_1 := (ite_f h1_1).symm.trans hq0_1
    refine st_no hf rfl rfl (lk_b rfl h1_1) rfl rfl rfl fun a hf => st_no hf rfl rfl (lk_b rfl h1_1) rfl rfl rfl fun a hf => st_y hf rfl rfl rfl (y_pick_f rfl (ev_b rfl h1_1) rfl) fun a hf => st_y hf rfl rfl rfl (y_move rfl rfl) fun a hf => st_no hf rfl rfl (lk_b rfl rfl) rfl rfl rfl fun a hf => st_no hf rfl rfl (lk_b rfl rfl) rfl rfl rfl fun a hf => st_no hf rfl rfl (lk_b rfl rfl) rfl rfl rfl fun a hf => st_no hf rfl rfl (lk_b rfl rfl) rfl rfl rfl fun a hf => st_no hf rfl rfl (lk_b rfl rfl) rfl rfl rfl fun a hf => ?_
    refine st_no hf rfl rfl (lk_b rfl rfl) rfl rfl rfl fun a hf => st_no hf rfl rfl (lk_b rfl rfl) rfl rfl rfl fun a hf => st_no hf rfl rfl (lk_b rfl rfl) rfl rfl rfl fun a hf => st_no hf rfl rfl (lk_b rfl rfl) rfl rfl rfl fun a hf => st_no hf rfl rfl (lk_b rfl rfl) rfl rfl rfl fun a hf => st_no hf rfl rfl (lk_b rfl rfl) rfl rfl rfl fun a hf => st_no hf rfl rfl (lk_b rfl rfl) rfl rfl rfl fun a hf => st_y hf rfl rfl rfl (y_pick_f rfl (ev_b rfl rfl) rfl) fun a hf => st_y hf rfl rfl rfl (y_assign rfl rfl) fun a hf => ?_
    refine st_end (x_then_n ?_)
    obtain rfl := Option.some.inj hq0_1
    exact ⟨hf.sub ⟨rfl, trivial⟩, hm.pick [] (by decide) rfl⟩
  ·
   clear hf hm
   rintro a w ⟨hf, hm⟩
   refine x_then_n (wp_ret ?_)
   obtain rfl := Option.some.inj hq
   refine ret_tmp hf Tryz.results28 rfl ?_
   exact ⟨rfl, hm.below⟩

theorem pspec_l8Run__stop_ok (w0 : World) (hz : Heap) (r_ : l8Run) (bp0 : Nat) (v1p : Value) (h1p : GT.rep hz [v1p] r_.u.codes) (v2p : Value) (v3p : Value) (v4p : Value) (end_ : Int) (hm0 : Mem w0 hz w0 [blk bp0 [v1p, v2p, (.int .i64 (r_.out.end_)), (.int .i64 (r_.out.value)), v3p, (.int .i64 (r_.steps)), (.bool (r_.over)), v4p] 52, ow [v2p] r_.out.said, ow [v3p] r_.out.cells, ow [v4p] r_.trace]) (r : l8Run) (hq : pspec_l8Run__stop r_ end_ = some r) :
    Con Tryz.prog 78 [(.pointer (some ⟨bp0, 0, none⟩)), (.int .i64 (end_))] w0 (fun v w' => ∃ (x2 : Value) (x3 : Value) (x4 : Value), v = (.tuple #[]) ∧ Mem w0 hz w' [blk bp0 [v1p, x2, (.int .i64 (r.out.end_)), (.int .i64 (r.out.value)), x3, (.int .i64 (r.steps)), (.bool (r.over)), x4] 52, ow [x2] r.out.said, ow [x3] r.out.cells, ow [x4] r.trace]) := by
  unfold pspec_l8Run__stop at hq
  refine con_body (l := [(0, (.pointer (some ⟨bp0, 0, none⟩))), (1, (.int .i64 (end_)))]) Tryz.func78 rfl Tryz.ntmps78 (Args.get ⟨rfl, rfl, trivial⟩) rfl ?_
  intro a hf
  have hm := hm0
  refine wp_seq (wp_region_lit (st_y hf rfl rfl rfl (y_move rfl rfl) fun a hf => st_y hf rfl rfl rfl (y_nilptr rfl rfl) fun a hf => st_y hf rfl rfl rfl (y_fieldAddr fo_52_3 rfl rfl) fun a hf => st_y hf rfl rfl rfl (y_load1 Tryz.isAgg4 rfl rfl (hm.blk_cell 0 rfl rfl)) fun a hf => st_y hf rfl rfl rfl (y_not rfl rfl) fun a hf => st_end (x_then_n ?_)))
  obtain ⟨s0_1, hq0_1, hq⟩ := bnd hq
  refine code_cut (K := fun a w => Fr 17 [] a ∧ Mem w0 hz w [blk bp0 [v1p, v2p, (.int .i64 (s0_1.1)), (.int .i64 (r_.out.value)), v3p, (.int .i64 (r_.steps)), (.bool (s0_1.2)), v4p] 52, ow [v2p] r_.out.said, ow [v3p] r_.out.cells, ow [v4p] r_.trace]) ?_ ?_
  ·
   rcases bcases (!(r_.over)) with h1_1 | h1_1
   ·
    replace hq0_1 := (ite_t h1_1).symm.trans hq0_1
    have h1_2 := bnot_t' h1_1
    refine cond_t hf rfl h1_1 (wp_seq (wp_region_lit (st_y hf rfl rfl rfl (y_move rfl rfl) fun a hf => st_y hf rfl rfl rfl (y_move rfl rfl) fun a hf => st_y hf rfl rfl rfl (y_nilptr rfl rfl) fun a hf => st_y hf rfl rfl rfl (y_fieldAddr fo_52_1 rfl rfl) fun a hf => st_y hf rfl rfl rfl (y_fieldAddr fo_41_1 rfl rfl) fun a hf => st_ef0 hf rfl rfl (e_store1 0 hf hm rfl Tryz.sizeOf3 rfl rfl rfl rfl rfl) ?_)))
    clear hf a; rintro _ w1_1 a hm hf
    refine st_end (x_then_n (wp_region_lit (st_y hf rfl rfl rfl (y_move rfl rfl) fun a hf => st_y hf rfl rfl rfl (y_nilptr rfl rfl) fun a hf => st_y hf rfl rfl rfl (y_fieldAddr fo_52_3 rfl rfl) fun a hf => st_ef0 hf rfl rfl (e_store1 0 hf hm rfl Tryz.sizeOf4 rfl rfl rfl rfl rfl) ?_)))
    clear hf a; rintro _ w1_2 a hm hf
    refine st_end (x_then_n ?_)
    obtain rfl := Option.some.inj hq0_1
    exact ⟨hf.sub trivial, hm.pick [0, 1, 2, 3] (by decide) rfl⟩
   ·
    replace hq0_1 := (ite_f h1_1).symm.trans hq0_1
    have h1_3 := bnot_f' h1_1
    refine cond_f hf rfl h1_1 (wp_skip (x_then_n ?_))
    obtain rfl := Option.some.inj hq0_1
    exact ⟨hf.sub trivial, hm.pick [0, 1, 2, 3] (by decide) rfl⟩
  ·
   clear hf hm
   rintro a w ⟨hf, hm⟩
   obtain rfl := Option.some.inj hq
   refine ret_end hf Tryz.results78 ?_
   exact ⟨v2p, v3p, v4p, rfl, hm.pick [0, 1, 2, 3] (by decide) rfl⟩

theorem pspec_l8Run__take_ok (w0 : World) (hz : Heap) (r_ : l8Run) (bp0 : Nat) (v1p : Value) (h1p : GT.rep hz [v1p] r_.u.codes) (v2p : Value) (v3p : Value) (v4p : Value) (hm0 : Mem w0 hz w0 [blk bp0 [v1p, v2p, (.int .i64 (r_.out.end_)), (.int .i64 (r_.out.value)), v3p, (.int .i64 (r_.steps)), (.bool (r_.over)), v4p] 52, ow [v2p] r_.out.said, ow [v3p] r_.out.cells, ow [v4p] r_.trace]) (r : Bool × l8Run) (hq : pspec_l8Run__take r_ = some r) :
    Con Tryz.prog 55 [(.pointer (some ⟨bp0, 0, none⟩))] w0 (fun v w' => ∃ (x2 : Value) (x3 : Value) (x4 : Value), v = (.bool (r.1)) ∧ Mem w0 hz w' [blk bp0 [v1p, x2, (.int .i64 (r.2.out.end_)), (.int .i64 (r.2.out.value)), x3, (.int .i64 (r.2.steps)), (.bool (r.2.over)), x4] 52, ow [x2] r.2.out.said, ow [x3] r.2.out.cells, ow [x4] r.2.trace]) := by
  unfold pspec_l8Run__take at hq
  refine con_body (l := [(0, (.pointer (some ⟨bp0, 0, none⟩)))]) Tryz.func55 rfl Tryz.ntmps55 (Args.get ⟨rfl, trivial⟩) rfl ?_
  intro a hf
  have hm := hm0
  refine wp_seq (wp_region_lit (st_y hf rfl rfl rfl (y_assign rfl rfl) fun a hf => st_end (x_then_n (wp_seq (wp_seq (wp_region_lit (st_y hf rfl rfl rfl (y_move rfl rfl) fun a hf => ?_)))))))
  refine st_y hf rfl rfl rfl (y_nilptr rfl rfl) fun a hf => st_y hf rfl rfl rfl (y_fieldAddr fo_52_2 rfl rfl) fun a hf => st_y hf rfl rfl rfl (y_load1 Tryz.isAgg3 rfl rfl (hm.blk_cell 0 rfl rfl)) fun a hf => st_y hf rfl rfl rfl (y_eql rfl rfl rfl) fun a hf => st_end (x_then_n ?_)
  obtain ⟨s0_1, hq0_1, hq⟩ := bnd hq
  refine code_cut (K := fun a w => ∃ (v0_1 : Value) (v0_2 : Value) (v0_3 : Value), Fr 22 [(0, (.pointer (some ⟨bp0, 0, none⟩)))] a ∧ Mem w0 hz w [blk bp0 [v1p, v0_1, (.int .i64 (s0_1.2.1)), (.int .i64 (s0_1.2.2.1)), v0_2, (.int .i64 (s0_1.2.2.2.2.1)), (.bool (s0_1.2.2.2.2.2.1)), v0_3] 52, ow [v0_1] s0_1.1, ow [v0_2] s0_1.2.2.2.1, ow [v0_3] s0_1.2.2.2.2.2.2]) ?_ ?_
  ·
   rcases bcases (decide (r_.steps = 0)) with h1_1 | h1_1
   ·
    replace hq0_1 := (ite_t h1_1).symm.trans hq0_1
    have h1_2 := of_decide_eq_true h1_1
    refine cond_t hf rfl h1_1 (wp_region_lit (st_y hf rfl rfl rfl (y_move rfl rfl) fun a hf => ?_))
    obtain ⟨r1_1, hx1_1, hq0_1⟩ := bnd hq0_1
    obtain ⟨hz1_1, hle, hm1, hsub, hk1_1⟩ := hm.take2 (L1 := [blk bp0 [v1p, v2p, (.int .i64 (r_.out.end_)), (.int .i64 (r_.out.value)), v3p, (.int .i64 (r_.steps)), (.bool (r_.over)), v4p] 52, ow [v2p] r_.out.said, ow [v3p] r_.out.cells, ow [v4p] r_.trace]) (L2 := []) [0, 1, 2, 3] [] (by decide) rfl rfl
    refine st_ef hf rfl rfl rfl (e_call hf rfl Tryz.call78 rfl (pspec_l8Run__stop_ok _ hz1_1 r_ bp0 v1p (GT.mono hle h1p) v2p v3p v4p 3 hm1  _ hx1_1)) ?_
    clear hf a; rintro v1_1 w1_1 a ho1_1 hf
    obtain ⟨v1_2, v1_3, v1_4, rfl, hB⟩ := ho1_1
    replace hm := hk1_1 _ _ hB; clear hB
    refine st_end (x_then_n ?_)
    obtain rfl := Option.some.inj hq0_1
    exact ⟨v1_2, v1_3, v1_4, hf.sub ⟨rfl, trivial⟩, hm.pick [0, 1, 2, 3] (by decide) rfl⟩
   ·
    replace hq0_1 := (ite_f h1_1).symm.trans hq0_1
    have h1_3 := of_decide_eq_false h1_1
    refine cond_f hf rfl h1_1 (wp_skip (x_then_n ?_))
    obtain rfl := Option.some.inj hq0_1
    exact ⟨v2p, v3p, v4p, hf.sub ⟨rfl, trivial⟩, hm.pick [0, 1, 2, 3] (by decide) rfl⟩
  ·
   clear hf hm
   rintro a w ⟨v0_1, v0_2, v0_3, hf, hm⟩
   refine x_then_n (wp_seq (wp_seq (wp_region_lit (st_y hf rfl rfl rfl (y_move rfl rfl) fun a hf => st_y hf rfl rfl rfl (y_nilptr rfl rfl) fun a hf => st_y hf rfl rfl rfl (y_fieldAddr fo_52_3 rfl rfl) fun a hf => st_y hf rfl rfl rfl (y_load1 Tryz.isAgg4 rfl rfl (hm.blk_cell 0 rfl rfl)) fun a hf => st_end ?_))))
   refine x_then_n ?_
   rcases bcases (s0_1.2.2.2.2.2.1) with h0_1 | h0_1
   ·
    replace hq := (ite_t h0_1).symm.trans hq
    refine cond_t hf rfl h0_1 (wp_seq (wp_region_lit (st_y hf rfl rfl rfl (y_assign rfl rfl) fun a hf => st_end (x_then_n (wp_ret (x_then_ret ?_))))))
    obtain rfl := Option.some.inj hq
    refine ret_tmp hf Tryz.results55 rfl ?_
    exact ⟨v0_1, v0_2, v0_3, rfl, hm.pick [0, 1, 2, 3] (by decide) rfl⟩
   ·
    replace hq := (ite_f h0_1).symm.trans hq
    refine cond_f hf rfl h0_1 (wp_skip (x_then_n (wp_seq (wp_region_lit (st_y hf rfl rfl rfl (y_move rfl rfl) fun a hf => st_y hf rfl rfl rfl (y_move rfl rfl) fun a hf => st_y hf rfl rfl rfl (y_nilptr rfl rfl) fun a hf => st_y hf rfl rfl rfl (y_fieldAddr fo_52_2 rfl rfl) fun a hf => ?_)))))
    refine st_y hf rfl rfl rfl (y_load1 Tryz.isAgg3 rfl rfl (hm.blk_cell 0 rfl rfl)) fun a hf => st_y hf rfl rfl rfl (y_subw rfl rfl rfl) fun a hf => st_y hf rfl rfl rfl (y_nilptr rfl rfl) fun a hf => st_y hf rfl rfl rfl (y_fieldAddr fo_52_2 rfl rfl) fun a hf => st_ef0 hf rfl rfl (e_store1 0 hf hm rfl Tryz.sizeOf3 rfl rfl rfl rfl rfl) ?_
    clear hf a; rintro _ w0_1 a hm hf
    refine st_end (x_then_n (wp_seq (wp_region_lit (st_y hf rfl rfl rfl (y_assign rfl rfl) fun a hf => st_end (x_then_n (wp_ret ?_))))))
    obtain rfl := Option.some.inj hq
    refine ret_tmp hf Tryz.results55 rfl ?_
    exact ⟨v0_1, v0_2, v0_3, rfl, hm.pick [0, 1, 2, 3] (by decide) rfl⟩

end Go.Proofs.YtjbcoilagfdidaaGreat
