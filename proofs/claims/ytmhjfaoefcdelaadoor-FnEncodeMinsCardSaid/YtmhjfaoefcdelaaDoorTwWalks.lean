/- A part of the proof of FnEncodeMinsCardSaid. -/
import Derived.Test.YtmhjfaoefcdelaaDoorTwWalksB
namespace Go.Proofs.YtmhjfaoefcdelaaDoor
open Go Go.Wk Go.RowKit
set_option maxRecDepth 4000
set_option maxHeartbeats 4000000

theorem impl_layoutOf_ok (w0 : World) (hz : Heap) (hle0 : Heap.le hz (hp w0)) (f : Mfn) (v1 : Value) (h1 : GT.rep hz [v1] f.ins) (hG0 : GT.rep hz [.slice (some ⟨0, 0, none⟩) 23 23] glob_impl_forms) (r : (Option layout)) (hq : impl_layoutOf f = some r) :
    Con Tryd.prog 47 [(.agg #[(.int .i64 (f.params)), (.int .i64 (f.slots)), v1])] w0 (fun v w' => (r = none ∧ v = .pointer none ∧ Below w0.heap.size w0 w') ∨ ∃ q, r = some q ∧ (∃ (b1 : Nat) (x2 : Value) (x3 : Value) (x4 : Value) (x5 : Value) (hz2 : Heap), v = (.pointer (some ⟨b1, 0, none⟩)) ∧ Heap.le hz hz2 ∧ GT.rep hz2 [x2] q.f.ins ∧ Mem w0 hz2 w' [junk w0 hz, blk b1 [(.int .i64 (q.f.params)), (.int .i64 (q.f.slots)), x2, x3, x4, x5, (.int .i64 (q.size))] 70, ow [x3] q.long, ow [x4] q.sizes, ow [x5] q.places])) := by
  unfold impl_layoutOf at hq
  refine con_body (l := [(0, (.agg #[(.int .i64 (f.params)), (.int .i64 (f.slots)), v1]))]) Tryd.func47 rfl Tryd.ntmps47 (Args.get ⟨rfl, trivial⟩) rfl ?_
  intro a hf
  have hm := Mem.startA hle0
  refine wp_seq ?_
  refine wp_region_lit ?_
  refine st_ef hf rfl rfl rfl (e_box hf hm rfl rfl rfl) ?_
  clear hf a; rintro _ w0_1 a ⟨b0_1, rfl, hm⟩ hf
  refine st_y hf rfl rfl rfl (y_assign rfl rfl) ?_
  clear hf a; intro a hf
  refine st_end ?_
  refine x_then_n ?_
  refine wp_seq ?_
  refine wp_region_lit ?_
  refine st_y hf rfl rfl rfl (y_assign rfl rfl) ?_
  clear hf a; intro a hf
  refine st_end ?_
  refine x_then_n ?_
  refine wp_seq ?_
  refine wp_seq ?_
  refine wp_region_lit ?_
  refine st_y hf rfl rfl rfl (y_fieldAddr fo_35_2 rfl rfl) ?_
  clear hf a; intro a hf
  refine st_y hf rfl rfl rfl (y_load1 Tryd.isAgg33 rfl rfl (hm.blk_cell 0 rfl rfl)) ?_
  clear hf a; intro a hf
  obtain ⟨p0_1, c0_1, he, hl0_1⟩ := ro_slice h1
  subst he
  refine st_y hf rfl rfl rfl (y_len_slice st_33.und rfl rfl) ?_
  clear hf a; intro a hf
  refine st_y hf rfl rfl rfl (y_move rfl rfl) ?_
  clear hf a; intro a hf
  refine st_end ?_
  refine x_then_n ?_
  refine wp_block ?_
  obtain ⟨r0_1, hl0_2, hq⟩ := bnd hq
  refine wp_forN _ (fun i1_1 xs1_1 a w => 0 ≤ xs1_1 ∧ Fr 92 [(1, (.pointer (some ⟨b0_1, 0, none⟩))), (3, (.int .i64 (xs1_1))), (12, (.slice p0_1 f.ins.length c0_1)), (13, (.int .i64 ((f.ins.length : Int)))), (14, (.int .i64 (i1_1)))] a ∧ Mem w0 hz w [blk b0_1 [(.int .i64 (f.params)), (.int .i64 (f.slots)), (.slice p0_1 f.ins.length c0_1)] 35, junk w0 hz]) (0) ((f.ins.length : Int)) hl0_2 ?_ ?_ ?_
  ·
    exact ⟨(by first | omega | (dsimp only; omega)), hf.sub ⟨rfl, rfl, rfl, rfl, rfl, trivial⟩, hm.pick [0, 1] (by decide) rfl⟩
  ·
    clear hf hm
    rintro i1_1 xs1_1 a w ⟨hn1_1, hf, hm⟩ hi1_1 hi1_2 q0_1 hb0_1 ho0_1
    refine wp_seq ?_
    refine wp_region_lit ?_
    refine st_y hf rfl rfl rfl (y_lss rfl rfl rfl) ?_
    clear hf a; intro a hf
    refine st_end ?_
    refine x_then_n ?_
    refine wp_seq ?_
    refine cond_t hf rfl (decide_eq_true (by omega)) ?_
    refine wp_skip ?_
    refine x_then_n ?_
    refine wp_seq ?_
    obtain ⟨s1_1, hq1_1, hb0_1⟩ := bnd hb0_1
    refine code_cut (K := fun a w => 0 ≤ s1_1 ∧ Fr 92 [(1, (.pointer (some ⟨b0_1, 0, none⟩))), (3, (.int .i64 (s1_1))), (12, (.slice p0_1 f.ins.length c0_1)), (13, (.int .i64 ((f.ins.length : Int)))), (14, (.int .i64 (i1_1)))] a ∧ Mem w0 hz w [blk b0_1 [(.int .i64 (f.params)), (.int .i64 (f.slots)), (.slice p0_1 f.ins.length c0_1)] 35, junk w0 hz]) ?_ ?_
    ·
      refine wp_block ?_
      refine wp_seq ?_
      refine wp_region_lit ?_
      obtain ⟨x2_1, hx2_1, hq1_1⟩ := bnd hq1_1
      obtain ⟨h2_1, hx2_2⟩ := getI_some.1 hx2_1
      obtain ⟨b2_1, o2_1, c2_1, he⟩ := idx_form h1 hx2_2
      simp only [Value.slice.injEq, Option.some.injEq] at he; obtain ⟨rfl, _, rfl⟩ := he
      refine st_y hf rfl rfl rfl (y_indexAddr st_33 rfl rfl rfl h2_1 (idx_lt hx2_2)) ?_
      clear hf a; intro a hf
      refine st_y hf rfl rfl rfl (y_loadN (cs := [(.int .i64 (x2_1.op)), (.int .i64 (x2_1.a_)), (.int .i64 (x2_1.b)), (.int .i64 (x2_1.c)), (.int .i64 (x2_1.n_))]) Tryd.isAgg27 Tryd.sizeOf27 rfl rfl (flat_cells (cs := [(.int .i64 (x2_1.op)), (.int .i64 (x2_1.a_)), (.int .i64 (x2_1.b)), (.int .i64 (x2_1.c)), (.int .i64 (x2_1.n_))]) (hm.now h1) hx2_2 rfl)) ?_
      clear hf a; intro a hf
      refine st_ef hf rfl rfl rfl (e_alloc hm Tryd.zeroValue27 rfl rfl) ?_
      clear hf a; rintro _ w2_1 a ⟨b2_2, rfl, hm⟩ hf
      refine st_ef0 hf rfl rfl (e_storeN 0 hf hm rfl Tryd.sizeOf27 rfl rfl rfl (one_cons rfl (one_cons rfl (one_cons rfl (one_cons rfl (one_cons rfl one_nil))))) rfl rfl) ?_
      clear hf a; rintro _ w2_2 a hm hf
      refine st_end ?_
      refine x_then_n ?_
      refine wp_seq ?_
      refine wp_region_lit ?_
      refine st_y hf rfl rfl rfl (y_fieldAddr fo_27_0 rfl rfl) ?_
      clear hf a; intro a hf
      refine st_y hf rfl rfl rfl (y_load1 Tryd.isAgg3 rfl rfl (hm.blk_cell 0 rfl rfl)) ?_
      clear hf a; intro a hf
      refine st_y hf rfl rfl rfl (y_eql rfl rfl rfl) ?_
      clear hf a; intro a hf
      refine st_end ?_
      refine x_then_n ?_
      obtain ⟨s2_1, hq2_1, hq1_1⟩ := bnd hq1_1
      refine code_cut (K := fun a w => 0 ≤ s2_1 ∧ Fr 92 [(1, (.pointer (some ⟨b0_1, 0, none⟩))), (3, (.int .i64 (s2_1))), (12, (.slice (some ⟨b2_1, o2_1, none⟩) f.ins.length c0_1)), (13, (.int .i64 ((f.ins.length : Int)))), (14, (.int .i64 (i1_1)))] a ∧ Mem w0 hz w [blk b0_1 [(.int .i64 (f.params)), (.int .i64 (f.slots)), (.slice (some ⟨b2_1, o2_1, none⟩) f.ins.length c0_1)] 35, junk w0 hz]) ?_ ?_
      ·
        rcases bcases (decide (x2_1.op = 14)) with h3_1 | h3_1
        ·
          replace hq2_1 := (ite_t h3_1).symm.trans hq2_1
          have h3_2 := of_decide_eq_true h3_1
          refine cond_t hf rfl h3_1 ?_
          refine wp_region_lit ?_
          refine st_y hf rfl rfl rfl (y_move rfl rfl) ?_
          clear hf a; intro a hf
          refine st_y hf rfl rfl rfl (y_fieldAddr fo_27_4 rfl rfl) ?_
          clear hf a; intro a hf
          refine st_y hf rfl rfl rfl (y_load1 Tryd.isAgg3 rfl rfl (hm.blk_cell 0 rfl rfl)) ?_
          clear hf a; intro a hf
          refine st_y hf rfl rfl rfl (y_min rfl rfl rfl) ?_
          clear hf a; intro a hf
          have h3_3 : minI x2_1.n_ 4 = min x2_1.n_ 4 := minI_eq _ _
          refine st_y hf rfl rfl rfl (y_addw rfl rfl rfl) ?_
          clear hf a; intro a hf
          refine st_y hf rfl rfl rfl (y_max rfl rfl rfl) ?_
          clear hf a; intro a hf
          have h3_4 : maxI xs1_1 (w64 (((minI x2_1.n_ 4)) + 1)) = max xs1_1 (w64 (((minI x2_1.n_ 4)) + 1)) := maxI_eq _ _
          refine st_y hf rfl rfl rfl (y_assign rfl rfl) ?_
          clear hf a; intro a hf
          refine st_end ?_
          refine x_then_n ?_
          obtain rfl := Option.some.inj hq2_1
          exact ⟨(by first | omega | (dsimp only; omega)), hf.sub ⟨rfl, rfl, rfl, rfl, rfl, trivial⟩, hm.pick [1, 2] (by decide) rfl⟩
        ·
          replace hq2_1 := (ite_f h3_1).symm.trans hq2_1
          have h3_5 := of_decide_eq_false h3_1
          refine cond_f hf rfl h3_1 ?_
          refine wp_skip ?_
          refine x_then_n ?_
          obtain rfl := Option.some.inj hq2_1
          exact ⟨(by first | omega | (dsimp only; omega)), hf.sub ⟨rfl, rfl, rfl, rfl, rfl, trivial⟩, hm.pick [1, 2] (by decide) rfl⟩
      ·
        clear hf hm
        rintro a w ⟨hn2_1, hf, hm⟩
        refine x_blk_n ?_
        refine x_then_n ?_
        obtain rfl := Option.some.inj hq1_1
        exact ⟨(by first | omega | (dsimp only; omega)), hf.sub ⟨rfl, rfl, rfl, rfl, rfl, trivial⟩, hm.pick [0, 1] (by decide) rfl⟩
    ·
      clear hf hm
      rintro a w ⟨hn1_2, hf, hm⟩
      refine x_then_n ?_
      refine wp_region_lit ?_
      refine st_y hf rfl rfl rfl (y_add64 rfl rfl rfl (by omega) (by omega)) ?_
      clear hf a; intro a hf
      refine st_y hf rfl rfl rfl (y_move rfl rfl) ?_
      clear hf a; intro a hf
      refine st_end ?_
      refine x_then_n ?_
      obtain rfl := Option.some.inj hb0_1
      exact ⟨_, rfl, (by first | omega | (dsimp only; omega)), hf.sub ⟨rfl, rfl, rfl, rfl, rfl, trivial⟩, hm.pick [0, 1] (by decide) rfl⟩
  ·
    clear hf hm
    rintro i0_1 xs0_1 a w ⟨hn0_1, hf, hm⟩ hi0_1 hi0_2 rfl
    replace hq := sum_l hq
    refine wp_seq ?_
    refine wp_region_lit ?_
    refine st_y hf rfl rfl rfl (y_lss rfl rfl rfl) ?_
    clear hf a; intro a hf
    refine st_end ?_
    refine x_then_n ?_
    refine wp_seq ?_
    refine cond_f hf rfl (decide_eq_false (by omega)) ?_
    refine wp_exit ?_
    refine x_then_exit ?_
    refine x_then_exit ?_
    refine x_blk_hit ?_
    refine x_then_n ?_
    refine wp_seq ?_
    obtain ⟨s0_1, hq0_1, hq⟩ := bnd hq
    refine code_cut (K := fun a w => ∃ (hz0_1 : Heap) (b0_2 : Nat) (v0_1 : Value), Heap.le hz hz0_1 ∧ Fr 92 [(1, (.pointer (some ⟨b0_1, 0, none⟩))), (6, (.pointer (some ⟨b0_2, 0, none⟩)))] a ∧ Mem w0 hz0_1 w [blk b0_1 [(.int .i64 (f.params)), (.int .i64 (f.slots)), (.slice p0_1 f.ins.length c0_1)] 35, blk b0_2 [v0_1] 99, ow (α := List (Sh hz0_1 Mfn)) [v0_1] s0_1, junk w0 hz]) ?_ ?_
    ·
      refine wp_tree (.p 0 (.p 4 (.q 6 (.e 1 (.p 2 (.e 3 (.e 5 (.e 7 (.e 8 (.p 9 (.e 10 (.e 11 .fin .nil) .nil)) (.e 10 (.e 8 (.p 9 (.e 11 .fin .nil)) .nil) .nil)) (.e 10 (.e 7 (.e 8 (.p 9 (.e 11 .fin .nil)) .nil) .nil) .nil)) (.e 7 (.e 5 (.e 8 (.p 9 (.e 10 (.e 11 .fin .nil) .nil)) (.e 10 (.e 8 (.p 9 (.e 11 .fin .nil)) .nil) .nil)) (.e 10 (.e 5 (.e 8 (.p 9 (.e 11 .fin .nil)) .nil) .nil) .nil)) (.e 10 (.e 5 (.e 7 (.e 8 (.p 9 (.e 11 .fin .nil)) .nil) .nil) (.e 7 (.e 5 (.e 8 (.p 9 (.e 11 .fin .nil)) .nil) .nil) .nil)) .nil))) (.e 7 (.e 3 (.e 5 (.e 8 (.p 9 (.e 10 (.e 11 .fin .nil) .nil)) (.e 10 (.e 8 (.p 9 (.e 11 .fin .nil)) .nil) .nil)) (.e 10 (.e 5 (.e 8 (.p 9 (.e 11 .fin .nil)) .nil) .nil) .nil)) (.e 10 (.e 3 (.e 5 (.e 8 (.p 9 (.e 11 .fin .nil)) .nil) .nil) .nil) .nil)) (.e 10 (.e 3 (.e 5 (.e 7 (.e 8 (.p 9 (.e 11 .fin .nil)) .nil) .nil) (.e 7 (.e 5 (.e 8 (.p 9 (.e 11 .fin .nil)) .nil) .nil) .nil)) (.e 7 (.e 3 (.e 5 (.e 8 (.p 9 (.e 11 .fin .nil)) .nil) .nil) .nil) .nil)) .nil)))) (.e 7 (.e 1 (.p 2 (.e 3 (.e 5 (.e 8 (.p 9 (.e 10 (.e 11 .fin .nil) .nil)) (.e 10 (.e 8 (.p 9 (.e 11 .fin .nil)) .nil) .nil)) (.e 10 (.e 5 (.e 8 (.p 9 (.e 11 .fin .nil)) .nil) .nil) .nil)) (.e 10 (.e 3 (.e 5 (.e 8 (.p 9 (.e 11 .fin .nil)) .nil) .nil) .nil) .nil))) (.e 10 (.e 1 (.p 2 (.e 3 (.e 5 (.e 8 (.p 9 (.e 11 .fin .nil)) .nil) .nil) .nil)) .nil) .nil)) (.e 10 (.e 1 (.p 2 (.e 3 (.e 5 (.e 7 (.e 8 (.p 9 (.e 11 .fin .nil)) .nil) .nil) (.e 7 (.e 5 (.e 8 (.p 9 (.e 11 .fin .nil)) .nil) .nil) .nil)) (.e 7 (.e 3 (.e 5 (.e 8 (.p 9 (.e 11 .fin .nil)) .nil) .nil) .nil) .nil))) (.e 7 (.e 1 (.p 2 (.e 3 (.e 5 (.e 8 (.p 9 (.e 11 .fin .nil)) .nil) .nil) .nil)) .nil) .nil)) .nil)))))) [1, 3, 5, 10] [0, 2, 4, 9] (fun w => Mem w0 hz w [blk b0_1 [(.int .i64 (f.params)), (.int .i64 (f.slots)), (.slice p0_1 f.ins.length c0_1)] 35, junk w0 hz]) (by kernel_rfl) (by kernel_rfl) (fun _ _ _ h => h.2) ?_
      replace hm := hm.drew
      have hS : Mem w0 hz _ [blk b0_1 [(.int .i64 (f.params)), (.int .i64 (f.slots)), (.slice p0_1 f.ins.length c0_1)] 35, junk w0 hz] := hm.pick [0, 1] (by decide) rfl
      refine td_p hf rfl rfl rfl rfl (fun w => y_build (vs := [(0, (.int .i64 (22)))]) (cs := #[(.int .i64 (22)), (.int .i64 (0)), (.int .i64 (0)), (.int .i64 (0)), (.int .i64 (0))]) rfl rfl (by kernel_rfl)) ?_
      clear hf a; intro a hf
      refine td_p hf rfl rfl rfl rfl (fun w => y_move rfl rfl) ?_
      clear hf a; intro a hf
      refine td_y hf rfl rfl rfl rfl hS (fun w hm => y_loadN (cs := [(.int .i64 (f.params)), (.int .i64 (f.slots)), (.slice p0_1 f.ins.length c0_1)]) Tryd.isAgg35 Tryd.sizeOf35 rfl rfl (hm.blk_at 0 rfl)) ?_
      clear hf a; intro a hf
      obtain ⟨pb1_1, hpb1_1, hq0_1⟩ := bnd hq0_1
      obtain ⟨pb1_2, hpb1_2, hq0_1⟩ := bnd hq0_1
      refine te_more ?_ ?_
      ·
        refine td_ef hf rfl rfl rfl rfl (e_build (vs := #[(0, (.agg #[(.int .i64 (22)), (.int .i64 (0)), (.int .i64 (0)), (.int .i64 (0)), (.int .i64 (0))]))]) (cs := [(.int .i64 (22)), (.int .i64 (0)), (.int .i64 (0)), (.int .i64 (0)), (.int .i64 (0))]) et_33 hf hm rfl rfl (by kernel_rfl) rfl rfl) ?_
        clear hf a; rintro _ w1_1 a ⟨b1_1, rfl, hm⟩ hf
        replace hm := hm.lit (xs := ([(⟨22, 0, 0, 0, 0⟩ : Mins)] : List Mins)) 0 rfl rfl rfl rfl
        clear hS
        have hS : Mem w0 hz _ [blk b0_1 [(.int .i64 (f.params)), (.int .i64 (f.slots)), (.slice p0_1 f.ins.length c0_1)] 35, junk w0 hz] := hm.pick [1, 2] (by decide) rfl
        refine ⟨fun _ => hS, ?_⟩
        refine td_p hf rfl rfl rfl rfl (fun w => y_build (vs := [(2, (.slice (some ⟨b1_1, 0, none⟩) 1 1))]) (cs := #[(.int .i64 (0)), (.int .i64 (0)), (.slice (some ⟨b1_1, 0, none⟩) 1 1)]) rfl rfl (by kernel_rfl)) ?_
        clear hf a; intro a hf
        refine te_more ?_ ?_
        ·
          refine td_ef hf rfl rfl rfl rfl (e_build (vs := #[(0, (.agg #[(.int .i64 (0)), (.int .i64 (0)), (.slice (some ⟨b1_1, 0, none⟩) 1 1)]))]) (cs := [(.int .i64 (0)), (.int .i64 (0)), (.slice (some ⟨b1_1, 0, none⟩) 1 1)]) et_97 hf hm rfl rfl (by kernel_rfl) rfl rfl) ?_
          clear hf a; rintro _ w1_2 a ⟨b1_2, rfl, hm⟩ hf
          replace hm := hm.els_nil (α := Mfn)
          replace hm := hm.own0 (c := [(.int .i64 (0))]) (x := (0 : Int)) (fun h => Flat.own_iff.2 rfl)
          replace hm := hm.own0 (c := [(.int .i64 (0))]) (x := (0 : Int)) (fun h => Flat.own_iff.2 rfl)
          replace hm := (hm.pair (x := (0 : Int)) (y := (([(⟨22, 0, 0, 0, 0⟩ : Mins)] : List Mins) : List Mins)) 0 4 (by decide) rfl rfl).pick (L' := [ow [(.int .i64 (0)), (.slice (some ⟨b1_1, 0, none⟩) 1 1)] ((0, ([(⟨22, 0, 0, 0, 0⟩ : Mins)] : List Mins)) : Int × (List Mins)), ow [(.int .i64 (0))] (0 : Int), els [] ([] : List Mfn), blk b1_2 [(.int .i64 (0)), (.int .i64 (0)), (.slice (some ⟨b1_1, 0, none⟩) 1 1)] 35, blk b0_1 [(.int .i64 (f.params)), (.int .i64 (f.slots)), (.slice p0_1 f.ins.length c0_1)] 35, junk w0 hz]) [0, 1, 2, 3, 5, 6] (by decide) rfl
          replace hm := (hm.pair (x := (0 : Int)) (y := ((0, ([(⟨22, 0, 0, 0, 0⟩ : Mins)] : List Mins)) : Int × (List Mins))) 1 0 (by decide) rfl rfl).pick (L' := [ow [(.int .i64 (0)), (.int .i64 (0)), (.slice (some ⟨b1_1, 0, none⟩) 1 1)] ((0, (0, ([(⟨22, 0, 0, 0, 0⟩ : Mins)] : List Mins))) : Int × Int × (List Mins)), els [] ([] : List Mfn), blk b1_2 [(.int .i64 (0)), (.int .i64 (0)), (.slice (some ⟨b1_1, 0, none⟩) 1 1)] 35, blk b0_1 [(.int .i64 (f.params)), (.int .i64 (f.slots)), (.slice p0_1 f.ins.length c0_1)] 35, junk w0 hz]) [1, 2, 3, 4, 5] (by decide) rfl
          replace hm := hm.imp (c' := ow [(.int .i64 (0)), (.int .i64 (0)), (.slice (some ⟨b1_1, 0, none⟩) 1 1)] ((⟨0, 0, ([(⟨22, 0, 0, 0, 0⟩ : Mins)] : List Mins)⟩ : Mfn) : Mfn)) 0 rfl (fun F h0 => h0)
          replace hm := (hm.els_cons 1 0 (by decide) rfl rfl).pick (L' := [els [(.int .i64 (0)), (.int .i64 (0)), (.slice (some ⟨b1_1, 0, none⟩) 1 1)] ([(⟨0, 0, ([(⟨22, 0, 0, 0, 0⟩ : Mins)] : List Mins)⟩ : Mfn)] : List Mfn), blk b1_2 [(.int .i64 (0)), (.int .i64 (0)), (.slice (some ⟨b1_1, 0, none⟩) 1 1)] 35, blk b0_1 [(.int .i64 (f.params)), (.int .i64 (f.slots)), (.slice p0_1 f.ins.length c0_1)] 35, junk w0 hz]) [1, 2, 3, 4] (by decide) rfl
          replace hm := (hm.lit_els 1 0 (by decide) rfl rfl rfl rfl).pick (L' := [ow [(.slice (some ⟨b1_2, 0, none⟩) 1 1)] ([(⟨0, 0, ([(⟨22, 0, 0, 0, 0⟩ : Mins)] : List Mins)⟩ : Mfn)] : List Mfn), blk b0_1 [(.int .i64 (f.params)), (.int .i64 (f.slots)), (.slice p0_1 f.ins.length c0_1)] 35, junk w0 hz]) [1, 2, 3] (by decide) rfl
          clear hS
          have hS : Mem w0 hz _ [blk b0_1 [(.int .i64 (f.params)), (.int .i64 (f.slots)), (.slice p0_1 f.ins.length c0_1)] 35, junk w0 hz] := hm.pick [1, 2] (by decide) rfl
          refine ⟨fun _ => hS, ?_⟩
          refine te_more ?_ ?_
          ·
            obtain ⟨hz1_1, hle1_1, hz_r1_1, hm⟩ := hm.freeze 0 rfl
            replace hm := hm.pick (L' := [blk b0_1 [(.int .i64 (f.params)), (.int .i64 (f.slots)), (.slice p0_1 f.ins.length c0_1)] 35, junk w0 hz]) [1, 2] (by decide) rfl
            replace hz_r1_1 : GT.rep hz1_1 [(.slice (some ⟨b1_2, 0, none⟩) 1 1)] ([(⟨0, 0, ([(⟨22, 0, 0, 0, 0⟩ : Mins)] : List Mins)⟩ : Mfn)] : List Mfn) := fz_ow hz_r1_1
            refine td_ef hf rfl rfl rfl rfl (e_call hf rfl Tryd.call69 rfl (slices_Repeat_S_impl_Mfn_impl_Mfn_ok _ _ hm.lez ([(⟨0, 0, ([(⟨22, 0, 0, 0, 0⟩ : Mins)] : List Mins)⟩ : Mfn)] : List Mfn) (.slice (some ⟨b1_2, 0, none⟩) 1 1) hz_r1_1 xs0_1  _ hpb1_1)) ?_
            clear hf a; rintro v1_1 w1_3 a ho1_1 hf
            obtain ⟨_, hz1_2, rfl, hle1_2, hB⟩ := ho1_1
            replace hm := Mem.giveA hm hle1_2 hB; clear hB
            clear hS
            have hS : Mem w0 hz _ [blk b0_1 [(.int .i64 (f.params)), (.int .i64 (f.slots)), (.slice p0_1 f.ins.length c0_1)] 35, junk w0 hz] := (hm.thaw (Heap.le_trans hle1_1 hle1_2)).pick [1, 2] (by decide) rfl
            refine ⟨fun _ => hS, ?_⟩
            refine te_more ?_ ?_
            ·
              refine td_ef hf rfl rfl rfl rfl (e_build (vs := #[(0, (.agg #[(.int .i64 (f.params)), (.int .i64 (f.slots)), (.slice p0_1 f.ins.length c0_1)]))]) (cs := [(.int .i64 (f.params)), (.int .i64 (f.slots)), (.slice p0_1 f.ins.length c0_1)]) et_97 hf hm rfl rfl (by kernel_rfl) rfl rfl) ?_
              clear hf a; rintro _ w1_4 a ⟨b1_3, rfl, hm⟩ hf
              replace hm := hm.litSh (α := Mfn) (xs := [f]) 0 rfl (.cons (c := [(.int .i64 (f.params)), (.int .i64 (f.slots)), (.slice p0_1 f.ins.length c0_1)]) (x := (f : Mfn)) ⟨[(.int .i64 (f.params))], [(.int .i64 (f.slots)), (.slice p0_1 f.ins.length c0_1)], rfl, (Flat.rep_iff.2 rfl), ⟨[(.int .i64 (f.slots))], [(.slice p0_1 f.ins.length c0_1)], rfl, (Flat.rep_iff.2 rfl), (GT.mono (Heap.le_trans hle1_1 hle1_2) h1)⟩⟩ .nil) rfl rfl
              refine ⟨fun h => absurd h (by decide), ?_⟩
              refine te_more ?_ ?_
              ·
                obtain ⟨h1_1, h1_1e⟩ := appM_some.1 hpb1_2
                refine td_ef hf rfl rfl rfl rfl (e_appendSh (α := Mfn) (xs := pb1_1) (ys := ([f] : List Mfn)) 1 et_97 hf hm rfl (hm.ow_rep 0 rfl) rfl rfl rfl h1_1) ?_
                clear hf a; rintro v1_3 w1_5 a hm hf
                rw [h1_1e] at hm
                refine ⟨fun h => absurd h (by decide), ?_⟩
                obtain ⟨p1_1, c1_1, he, hl1_1⟩ := ro_slice (sh_read (Heap.le_trans (Heap.le_refl _) hm.lez) (hm.ow_rep 1 rfl))
                subst he
                refine td_p hf rfl rfl rfl rfl (fun w => y_build (vs := [(0, (.slice p1_1 pb1_2.length c1_1))]) (cs := #[(.slice p1_1 pb1_2.length c1_1)]) rfl rfl (by kernel_rfl)) ?_
                clear hf a; intro a hf
                refine te_one ?_
                refine td_ef hf rfl rfl rfl rfl (e_alloc hm Tryd.zeroValue99 rfl rfl) ?_
                clear hf a; rintro _ w1_6 a ⟨b1_4, rfl, hm⟩ hf
                clear hS
                have hS : Mem w0 hz _ [blk b0_1 [(.int .i64 (f.params)), (.int .i64 (f.slots)), (.slice p0_1 f.ins.length c0_1)] 35, junk w0 hz] := (hm.thaw (Heap.le_trans hle1_1 hle1_2)).pick [3, 4] (by decide) rfl
                refine ⟨fun _ => hS, ?_⟩
                refine te_one ?_
                refine td_ef0 hf rfl rfl rfl (e_storeN 0 hf hm rfl Tryd.sizeOf99 rfl rfl rfl (one_cons rfl one_nil) rfl rfl) ?_
                clear hf a; rintro _ w1_7 a hm hf
                refine ⟨fun h => absurd h (by decide), ?_⟩
                clear hS; refine td_end ?_
                refine x_then_n ?_
                obtain rfl := Option.some.inj hq0_1
                exact ⟨hz1_2, b1_4, (.slice p1_1 pb1_2.length c1_1), (Heap.le_trans hle1_1 hle1_2), hf.sub ⟨rfl, rfl, trivial⟩, hm.pick [3, 0, 2, 4] (by decide) rfl⟩
              refine te_one ?_
              refine td_ef hf rfl rfl rfl rfl (e_alloc hm Tryd.zeroValue99 rfl rfl) ?_
              clear hf a; rintro _ w1_8 a ⟨b1_5, rfl, hm⟩ hf
              clear hS
              have hS : Mem w0 hz _ [blk b0_1 [(.int .i64 (f.params)), (.int .i64 (f.slots)), (.slice p0_1 f.ins.length c0_1)] 35, junk w0 hz] := (hm.thaw (Heap.le_trans hle1_1 hle1_2)).pick [3, 4] (by decide) rfl
              refine ⟨fun _ => hS, ?_⟩
              refine te_one ?_
              obtain ⟨h1_2, h1_2e⟩ := appM_some.1 hpb1_2
              refine td_ef hf rfl rfl rfl rfl (e_appendSh (α := Mfn) (xs := pb1_1) (ys := ([f] : List Mfn)) 2 et_97 hf hm rfl (hm.ow_rep 1 rfl) rfl rfl rfl h1_2) ?_
              clear hf a; rintro v1_4 w1_9 a hm hf
              rw [h1_2e] at hm
              refine ⟨fun h => absurd h (by decide), ?_⟩
              obtain ⟨p1_2, c1_2, he, hl1_2⟩ := ro_slice (sh_read (Heap.le_trans (Heap.le_refl _) hm.lez) (hm.ow_rep 2 rfl))
              subst he
              refine td_p hf rfl rfl rfl rfl (fun w => y_build (vs := [(0, (.slice p1_2 pb1_2.length c1_2))]) (cs := #[(.slice p1_2 pb1_2.length c1_2)]) rfl rfl (by kernel_rfl)) ?_
              clear hf a; intro a hf
              refine te_one ?_
              refine td_ef0 hf rfl rfl rfl (e_storeN 0 hf hm rfl Tryd.sizeOf99 rfl rfl rfl (one_cons rfl one_nil) rfl rfl) ?_
              clear hf a; rintro _ w1_10 a hm hf
              refine ⟨fun h => absurd h (by decide), ?_⟩
              clear hS; refine td_end ?_
              refine x_then_n ?_
              obtain rfl := Option.some.inj hq0_1
              exact ⟨hz1_2, b1_5, (.slice p1_2 pb1_2.length c1_2), (Heap.le_trans hle1_1 hle1_2), hf.sub ⟨rfl, rfl, trivial⟩, hm.pick [3, 0, 2, 4] (by decide) rfl⟩
            refine te_one ?_
            refine td_ef hf rfl rfl rfl rfl (e_alloc hm Tryd.zeroValue99 rfl rfl) ?_
            clear hf a; rintro _ w1_11 a ⟨b1_6, rfl, hm⟩ hf
            clear hS
            have hS : Mem w0 hz _ [blk b0_1 [(.int .i64 (f.params)), (.int .i64 (f.slots)), (.slice p0_1 f.ins.length c0_1)] 35, junk w0 hz] := (hm.thaw (Heap.le_trans hle1_1 hle1_2)).pick [2, 3] (by decide) rfl
            refine ⟨fun _ => hS, ?_⟩
            refine te_one ?_
            refine td_ef hf rfl rfl rfl rfl (e_build (vs := #[(0, (.agg #[(.int .i64 (f.params)), (.int .i64 (f.slots)), (.slice p0_1 f.ins.length c0_1)]))]) (cs := [(.int .i64 (f.params)), (.int .i64 (f.slots)), (.slice p0_1 f.ins.length c0_1)]) et_97 hf hm rfl rfl (by kernel_rfl) rfl rfl) ?_
            clear hf a; rintro _ w1_12 a ⟨b1_7, rfl, hm⟩ hf
            replace hm := hm.litSh (α := Mfn) (xs := [f]) 0 rfl (.cons (c := [(.int .i64 (f.params)), (.int .i64 (f.slots)), (.slice p0_1 f.ins.length c0_1)]) (x := (f : Mfn)) ⟨[(.int .i64 (f.params))], [(.int .i64 (f.slots)), (.slice p0_1 f.ins.length c0_1)], rfl, (Flat.rep_iff.2 rfl), ⟨[(.int .i64 (f.slots))], [(.slice p0_1 f.ins.length c0_1)], rfl, (Flat.rep_iff.2 rfl), (GT.mono (Heap.le_trans hle1_1 hle1_2) h1)⟩⟩ .nil) rfl rfl
            refine ⟨fun h => absurd h (by decide), ?_⟩
            refine te_one ?_
            obtain ⟨h1_3, h1_3e⟩ := appM_some.1 hpb1_2
            refine td_ef hf rfl rfl rfl rfl (e_appendSh (α := Mfn) (xs := pb1_1) (ys := ([f] : List Mfn)) 2 et_97 hf hm rfl (hm.ow_rep 0 rfl) rfl rfl rfl h1_3) ?_
            clear hf a; rintro v1_5 w1_13 a hm hf
            rw [h1_3e] at hm
            refine ⟨fun h => absurd h (by decide), ?_⟩
            obtain ⟨p1_3, c1_3, he, hl1_3⟩ := ro_slice (sh_read (Heap.le_trans (Heap.le_refl _) hm.lez) (hm.ow_rep 2 rfl))
            subst he
            refine td_p hf rfl rfl rfl rfl (fun w => y_build (vs := [(0, (.slice p1_3 pb1_2.length c1_3))]) (cs := #[(.slice p1_3 pb1_2.length c1_3)]) rfl rfl (by kernel_rfl)) ?_
            clear hf a; intro a hf
            refine te_one ?_
            refine td_ef0 hf rfl rfl rfl (e_storeN 1 hf hm rfl Tryd.sizeOf99 rfl rfl rfl (one_cons rfl one_nil) rfl rfl) ?_
            clear hf a; rintro _ w1_14 a hm hf
            refine ⟨fun h => absurd h (by decide), ?_⟩
            clear hS; refine td_end ?_
            refine x_then_n ?_
            obtain rfl := Option.some.inj hq0_1
            exact ⟨hz1_2, b1_6, (.slice p1_3 pb1_2.length c1_3), (Heap.le_trans hle1_1 hle1_2), hf.sub ⟨rfl, rfl, trivial⟩, hm.pick [3, 1, 2, 4] (by decide) rfl⟩
          refine te_more ?_ ?_
          ·
            refine td_ef hf rfl rfl rfl rfl (e_build (vs := #[(0, (.agg #[(.int .i64 (f.params)), (.int .i64 (f.slots)), (.slice p0_1 f.ins.length c0_1)]))]) (cs := [(.int .i64 (f.params)), (.int .i64 (f.slots)), (.slice p0_1 f.ins.length c0_1)]) et_97 hf hm rfl rfl (by kernel_rfl) rfl rfl) ?_
            clear hf a; rintro _ w1_15 a ⟨b1_8, rfl, hm⟩ hf
            replace hm := hm.litSh (α := Mfn) (xs := [f]) 0 rfl (.cons (c := [(.int .i64 (f.params)), (.int .i64 (f.slots)), (.slice p0_1 f.ins.length c0_1)]) (x := (f : Mfn)) ⟨[(.int .i64 (f.params))], [(.int .i64 (f.slots)), (.slice p0_1 f.ins.length c0_1)], rfl, (Flat.rep_iff.2 rfl), ⟨[(.int .i64 (f.slots))], [(.slice p0_1 f.ins.length c0_1)], rfl, (Flat.rep_iff.2 rfl), h1⟩⟩ .nil) rfl rfl
            refine ⟨fun h => absurd h (by decide), ?_⟩
            refine te_more ?_ ?_
            ·
              obtain ⟨hz1_3, hle1_3, hz_r1_2, hm⟩ := hm.freeze 1 rfl
              replace hm := hm.pick (L' := [ow (α := List (Sh hz Mfn)) [(.slice (some ⟨b1_8, 0, none⟩) 1 1)] ([f] : List Mfn), blk b0_1 [(.int .i64 (f.params)), (.int .i64 (f.slots)), (.slice p0_1 f.ins.length c0_1)] 35, junk w0 hz]) [0, 2, 3] (by decide) rfl
              replace hz_r1_2 : GT.rep hz1_3 [(.slice (some ⟨b1_2, 0, none⟩) 1 1)] ([(⟨0, 0, ([(⟨22, 0, 0, 0, 0⟩ : Mins)] : List Mins)⟩ : Mfn)] : List Mfn) := fz_ow hz_r1_2
              refine td_ef hf rfl rfl rfl rfl (e_call hf rfl Tryd.call69 rfl (slices_Repeat_S_impl_Mfn_impl_Mfn_ok _ _ hm.lez ([(⟨0, 0, ([(⟨22, 0, 0, 0, 0⟩ : Mins)] : List Mins)⟩ : Mfn)] : List Mfn) (.slice (some ⟨b1_2, 0, none⟩) 1 1) hz_r1_2 xs0_1  _ hpb1_1)) ?_
              clear hf a; rintro v1_6 w1_16 a ho1_2 hf
              obtain ⟨_, hz1_4, rfl, hle1_4, hB⟩ := ho1_2
              replace hm := Mem.giveA hm hle1_4 hB; clear hB
              clear hS
              have hS : Mem w0 hz _ [blk b0_1 [(.int .i64 (f.params)), (.int .i64 (f.slots)), (.slice p0_1 f.ins.length c0_1)] 35, junk w0 hz] := (hm.thaw (Heap.le_trans hle1_3 hle1_4)).pick [2, 3] (by decide) rfl
              refine ⟨fun _ => hS, ?_⟩
              refine te_more ?_ ?_
              ·
                obtain ⟨h1_4, h1_4e⟩ := appM_some.1 hpb1_2
                replace hm := hm.sh_up (Heap.le_trans hle1_3 hle1_4) 1 rfl
                refine td_ef hf rfl rfl rfl rfl (e_appendSh (α := Mfn) (xs := pb1_1) (ys := ([f] : List Mfn)) 0 et_97 hf hm rfl (hm.ow_rep 1 rfl) rfl rfl rfl h1_4) ?_
                clear hf a; rintro v1_8 w1_17 a hm hf
                rw [h1_4e] at hm
                refine ⟨fun h => absurd h (by decide), ?_⟩
                obtain ⟨p1_4, c1_4, he, hl1_4⟩ := ro_slice (sh_read (Heap.le_trans (Heap.le_refl _) hm.lez) (hm.ow_rep 0 rfl))
                subst he
                refine td_p hf rfl rfl rfl rfl (fun w => y_build (vs := [(0, (.slice p1_4 pb1_2.length c1_4))]) (cs := #[(.slice p1_4 pb1_2.length c1_4)]) rfl rfl (by kernel_rfl)) ?_
                clear hf a; intro a hf
                refine te_one ?_
                refine td_ef hf rfl rfl rfl rfl (e_alloc hm Tryd.zeroValue99 rfl rfl) ?_
                clear hf a; rintro _ w1_18 a ⟨b1_9, rfl, hm⟩ hf
                clear hS
                have hS : Mem w0 hz _ [blk b0_1 [(.int .i64 (f.params)), (.int .i64 (f.slots)), (.slice p0_1 f.ins.length c0_1)] 35, junk w0 hz] := (hm.thaw (Heap.le_trans hle1_3 hle1_4)).pick [3, 4] (by decide) rfl
                refine ⟨fun _ => hS, ?_⟩
                refine te_one ?_
                refine td_ef0 hf rfl rfl rfl (e_storeN 0 hf hm rfl Tryd.sizeOf99 rfl rfl rfl (one_cons rfl one_nil) rfl rfl) ?_
                clear hf a; rintro _ w1_19 a hm hf
                refine ⟨fun h => absurd h (by decide), ?_⟩
                clear hS; refine td_end ?_
                refine x_then_n ?_
                obtain rfl := Option.some.inj hq0_1
                exact ⟨hz1_4, b1_9, (.slice p1_4 pb1_2.length c1_4), (Heap.le_trans hle1_3 hle1_4), hf.sub ⟨rfl, rfl, trivial⟩, hm.pick [3, 0, 1, 4] (by decide) rfl⟩
              refine te_one ?_
              refine td_ef hf rfl rfl rfl rfl (e_alloc hm Tryd.zeroValue99 rfl rfl) ?_
              clear hf a; rintro _ w1_20 a ⟨b1_10, rfl, hm⟩ hf
              clear hS
              have hS : Mem w0 hz _ [blk b0_1 [(.int .i64 (f.params)), (.int .i64 (f.slots)), (.slice p0_1 f.ins.length c0_1)] 35, junk w0 hz] := (hm.thaw (Heap.le_trans hle1_3 hle1_4)).pick [3, 4] (by decide) rfl
              refine ⟨fun _ => hS, ?_⟩
              refine te_one ?_
              obtain ⟨h1_5, h1_5e⟩ := appM_some.1 hpb1_2
              replace hm := hm.sh_up (Heap.le_trans hle1_3 hle1_4) 2 rfl
              refine td_ef hf rfl rfl rfl rfl (e_appendSh (α := Mfn) (xs := pb1_1) (ys := ([f] : List Mfn)) 1 et_97 hf hm rfl (hm.ow_rep 2 rfl) rfl rfl rfl h1_5) ?_
              clear hf a; rintro v1_9 w1_21 a hm hf
              rw [h1_5e] at hm
              refine ⟨fun h => absurd h (by decide), ?_⟩
              obtain ⟨p1_5, c1_5, he, hl1_5⟩ := ro_slice (sh_read (Heap.le_trans (Heap.le_refl _) hm.lez) (hm.ow_rep 1 rfl))
              subst he
              refine td_p hf rfl rfl rfl rfl (fun w => y_build (vs := [(0, (.slice p1_5 pb1_2.length c1_5))]) (cs := #[(.slice p1_5 pb1_2.length c1_5)]) rfl rfl (by kernel_rfl)) ?_
              clear hf a; intro a hf
              refine te_one ?_
              refine td_ef0 hf rfl rfl rfl (e_storeN 0 hf hm rfl Tryd.sizeOf99 rfl rfl rfl (one_cons rfl one_nil) rfl rfl) ?_
              clear hf a; rintro _ w1_22 a hm hf
              refine ⟨fun h => absurd h (by decide), ?_⟩
              clear hS; refine td_end ?_
              refine x_then_n ?_
              obtain rfl := Option.some.inj hq0_1
              exact ⟨hz1_4, b1_10, (.slice p1_5 pb1_2.length c1_5), (Heap.le_trans hle1_3 hle1_4), hf.sub ⟨rfl, rfl, trivial⟩, hm.pick [3, 0, 1, 4] (by decide) rfl⟩
            refine te_one ?_
            refine td_ef hf rfl rfl rfl rfl (e_alloc hm Tryd.zeroValue99 rfl rfl) ?_
            clear hf a; rintro _ w1_23 a ⟨b1_11, rfl, hm⟩ hf
            clear hS
            have hS : Mem w0 hz _ [blk b0_1 [(.int .i64 (f.params)), (.int .i64 (f.slots)), (.slice p0_1 f.ins.length c0_1)] 35, junk w0 hz] := hm.pick [3, 4] (by decide) rfl
            refine ⟨fun _ => hS, ?_⟩
            refine te_one ?_
            obtain ⟨hz1_5, hle1_5, hz_r1_3, hm⟩ := hm.freeze 2 rfl
            replace hm := hm.pick (L' := [blk b1_11 [(.slice none 0 0)] 99, ow (α := List (Sh hz Mfn)) [(.slice (some ⟨b1_8, 0, none⟩) 1 1)] ([f] : List Mfn), blk b0_1 [(.int .i64 (f.params)), (.int .i64 (f.slots)), (.slice p0_1 f.ins.length c0_1)] 35, junk w0 hz]) [0, 1, 3, 4] (by decide) rfl
            replace hz_r1_3 : GT.rep hz1_5 [(.slice (some ⟨b1_2, 0, none⟩) 1 1)] ([(⟨0, 0, ([(⟨22, 0, 0, 0, 0⟩ : Mins)] : List Mins)⟩ : Mfn)] : List Mfn) := fz_ow hz_r1_3
            refine td_ef hf rfl rfl rfl rfl (e_call hf rfl Tryd.call69 rfl (slices_Repeat_S_impl_Mfn_impl_Mfn_ok _ _ hm.lez ([(⟨0, 0, ([(⟨22, 0, 0, 0, 0⟩ : Mins)] : List Mins)⟩ : Mfn)] : List Mfn) (.slice (some ⟨b1_2, 0, none⟩) 1 1) hz_r1_3 xs0_1  _ hpb1_1)) ?_
            clear hf a; rintro v1_10 w1_24 a ho1_3 hf
            obtain ⟨_, hz1_6, rfl, hle1_6, hB⟩ := ho1_3
            replace hm := Mem.giveA hm hle1_6 hB; clear hB
            clear hS
            have hS : Mem w0 hz _ [blk b0_1 [(.int .i64 (f.params)), (.int .i64 (f.slots)), (.slice p0_1 f.ins.length c0_1)] 35, junk w0 hz] := (hm.thaw (Heap.le_trans hle1_5 hle1_6)).pick [3, 4] (by decide) rfl
            refine ⟨fun _ => hS, ?_⟩
            refine te_one ?_
            obtain ⟨h1_6, h1_6e⟩ := appM_some.1 hpb1_2
            replace hm := hm.sh_up (Heap.le_trans hle1_5 hle1_6) 2 rfl
            refine td_ef hf rfl rfl rfl rfl (e_appendSh (α := Mfn) (xs := pb1_1) (ys := ([f] : List Mfn)) 0 et_97 hf hm rfl (hm.ow_rep 2 rfl) rfl rfl rfl h1_6) ?_
            clear hf a; rintro v1_12 w1_25 a hm hf
            rw [h1_6e] at hm
            refine ⟨fun h => absurd h (by decide), ?_⟩
            obtain ⟨p1_6, c1_6, he, hl1_6⟩ := ro_slice (sh_read (Heap.le_trans (Heap.le_refl _) hm.lez) (hm.ow_rep 0 rfl))
            subst he
            refine td_p hf rfl rfl rfl rfl (fun w => y_build (vs := [(0, (.slice p1_6 pb1_2.length c1_6))]) (cs := #[(.slice p1_6 pb1_2.length c1_6)]) rfl rfl (by kernel_rfl)) ?_
            clear hf a; intro a hf
            refine te_one ?_
            refine td_ef0 hf rfl rfl rfl (e_storeN 1 hf hm rfl Tryd.sizeOf99 rfl rfl rfl (one_cons rfl one_nil) rfl rfl) ?_
            clear hf a; rintro _ w1_26 a hm hf
            refine ⟨fun h => absurd h (by decide), ?_⟩
            clear hS; refine td_end ?_
            refine x_then_n ?_
            obtain rfl := Option.some.inj hq0_1
            exact ⟨hz1_6, b1_11, (.slice p1_6 pb1_2.length c1_6), (Heap.le_trans hle1_5 hle1_6), hf.sub ⟨rfl, rfl, trivial⟩, hm.pick [3, 1, 0, 4] (by decide) rfl⟩
          refine te_one ?_
          refine td_ef hf rfl rfl rfl rfl (e_alloc hm Tryd.zeroValue99 rfl rfl) ?_
          clear hf a; rintro _ w1_27 a ⟨b1_12, rfl, hm⟩ hf
          clear hS
          have hS : Mem w0 hz _ [blk b0_1 [(.int .i64 (f.params)), (.int .i64 (f.slots)), (.slice p0_1 f.ins.length c0_1)] 35, junk w0 hz] := hm.pick [2, 3] (by decide) rfl
          refine ⟨fun _ => hS, ?_⟩
          refine te_more ?_ ?_
          ·
            obtain ⟨hz1_7, hle1_7, hz_r1_4, hm⟩ := hm.freeze 1 rfl
            replace hm := hm.pick (L' := [blk b1_12 [(.slice none 0 0)] 99, blk b0_1 [(.int .i64 (f.params)), (.int .i64 (f.slots)), (.slice p0_1 f.ins.length c0_1)] 35, junk w0 hz]) [0, 2, 3] (by decide) rfl
            replace hz_r1_4 : GT.rep hz1_7 [(.slice (some ⟨b1_2, 0, none⟩) 1 1)] ([(⟨0, 0, ([(⟨22, 0, 0, 0, 0⟩ : Mins)] : List Mins)⟩ : Mfn)] : List Mfn) := fz_ow hz_r1_4
            refine td_ef hf rfl rfl rfl rfl (e_call hf rfl Tryd.call69 rfl (slices_Repeat_S_impl_Mfn_impl_Mfn_ok _ _ hm.lez ([(⟨0, 0, ([(⟨22, 0, 0, 0, 0⟩ : Mins)] : List Mins)⟩ : Mfn)] : List Mfn) (.slice (some ⟨b1_2, 0, none⟩) 1 1) hz_r1_4 xs0_1  _ hpb1_1)) ?_
            clear hf a; rintro v1_13 w1_28 a ho1_4 hf
            obtain ⟨_, hz1_8, rfl, hle1_8, hB⟩ := ho1_4
            replace hm := Mem.giveA hm hle1_8 hB; clear hB
            clear hS
            have hS : Mem w0 hz _ [blk b0_1 [(.int .i64 (f.params)), (.int .i64 (f.slots)), (.slice p0_1 f.ins.length c0_1)] 35, junk w0 hz] := (hm.thaw (Heap.le_trans hle1_7 hle1_8)).pick [2, 3] (by decide) rfl
            refine ⟨fun _ => hS, ?_⟩
            refine te_one ?_
            refine td_ef hf rfl rfl rfl rfl (e_build (vs := #[(0, (.agg #[(.int .i64 (f.params)), (.int .i64 (f.slots)), (.slice p0_1 f.ins.length c0_1)]))]) (cs := [(.int .i64 (f.params)), (.int .i64 (f.slots)), (.slice p0_1 f.ins.length c0_1)]) et_97 hf hm rfl rfl (by kernel_rfl) rfl rfl) ?_
            clear hf a; rintro _ w1_29 a ⟨b1_13, rfl, hm⟩ hf
            replace hm := hm.litSh (α := Mfn) (xs := [f]) 0 rfl (.cons (c := [(.int .i64 (f.params)), (.int .i64 (f.slots)), (.slice p0_1 f.ins.length c0_1)]) (x := (f : Mfn)) ⟨[(.int .i64 (f.params))], [(.int .i64 (f.slots)), (.slice p0_1 f.ins.length c0_1)], rfl, (Flat.rep_iff.2 rfl), ⟨[(.int .i64 (f.slots))], [(.slice p0_1 f.ins.length c0_1)], rfl, (Flat.rep_iff.2 rfl), (GT.mono (Heap.le_trans hle1_7 hle1_8) h1)⟩⟩ .nil) rfl rfl
            refine ⟨fun h => absurd h (by decide), ?_⟩
            refine te_one ?_
            obtain ⟨h1_7, h1_7e⟩ := appM_some.1 hpb1_2
            refine td_ef hf rfl rfl rfl rfl (e_appendSh (α := Mfn) (xs := pb1_1) (ys := ([f] : List Mfn)) 1 et_97 hf hm rfl (hm.ow_rep 0 rfl) rfl rfl rfl h1_7) ?_
            clear hf a; rintro v1_15 w1_30 a hm hf
            rw [h1_7e] at hm
            refine ⟨fun h => absurd h (by decide), ?_⟩
            obtain ⟨p1_7, c1_7, he, hl1_7⟩ := ro_slice (sh_read (Heap.le_trans (Heap.le_refl _) hm.lez) (hm.ow_rep 1 rfl))
            subst he
            refine td_p hf rfl rfl rfl rfl (fun w => y_build (vs := [(0, (.slice p1_7 pb1_2.length c1_7))]) (cs := #[(.slice p1_7 pb1_2.length c1_7)]) rfl rfl (by kernel_rfl)) ?_
            clear hf a; intro a hf
            refine te_one ?_
            refine td_ef0 hf rfl rfl rfl (e_storeN 2 hf hm rfl Tryd.sizeOf99 rfl rfl rfl (one_cons rfl one_nil) rfl rfl) ?_
            clear hf a; rintro _ w1_31 a hm hf
            refine ⟨fun h => absurd h (by decide), ?_⟩
            clear hS; refine td_end ?_
            refine x_then_n ?_
            obtain rfl := Option.some.inj hq0_1
            exact ⟨hz1_8, b1_12, (.slice p1_7 pb1_2.length c1_7), (Heap.le_trans hle1_7 hle1_8), hf.sub ⟨rfl, rfl, trivial⟩, hm.pick [3, 2, 1, 4] (by decide) rfl⟩
          refine te_one ?_
          refine td_ef hf rfl rfl rfl rfl (e_build (vs := #[(0, (.agg #[(.int .i64 (f.params)), (.int .i64 (f.slots)), (.slice p0_1 f.ins.length c0_1)]))]) (cs := [(.int .i64 (f.params)), (.int .i64 (f.slots)), (.slice p0_1 f.ins.length c0_1)]) et_97 hf hm rfl rfl (by kernel_rfl) rfl rfl) ?_
          clear hf a; rintro _ w1_32 a ⟨b1_14, rfl, hm⟩ hf
          replace hm := hm.litSh (α := Mfn) (xs := [f]) 0 rfl (.cons (c := [(.int .i64 (f.params)), (.int .i64 (f.slots)), (.slice p0_1 f.ins.length c0_1)]) (x := (f : Mfn)) ⟨[(.int .i64 (f.params))], [(.int .i64 (f.slots)), (.slice p0_1 f.ins.length c0_1)], rfl, (Flat.rep_iff.2 rfl), ⟨[(.int .i64 (f.slots))], [(.slice p0_1 f.ins.length c0_1)], rfl, (Flat.rep_iff.2 rfl), h1⟩⟩ .nil) rfl rfl
          refine ⟨fun h => absurd h (by decide), ?_⟩
          refine te_one ?_
          obtain ⟨hz1_9, hle1_9, hz_r1_5, hm⟩ := hm.freeze 2 rfl
          replace hm := hm.pick (L' := [ow (α := List (Sh hz Mfn)) [(.slice (some ⟨b1_14, 0, none⟩) 1 1)] ([f] : List Mfn), blk b1_12 [(.slice none 0 0)] 99, blk b0_1 [(.int .i64 (f.params)), (.int .i64 (f.slots)), (.slice p0_1 f.ins.length c0_1)] 35, junk w0 hz]) [0, 1, 3, 4] (by decide) rfl
          replace hz_r1_5 : GT.rep hz1_9 [(.slice (some ⟨b1_2, 0, none⟩) 1 1)] ([(⟨0, 0, ([(⟨22, 0, 0, 0, 0⟩ : Mins)] : List Mins)⟩ : Mfn)] : List Mfn) := fz_ow hz_r1_5
          refine td_ef hf rfl rfl rfl rfl (e_call hf rfl Tryd.call69 rfl (slices_Repeat_S_impl_Mfn_impl_Mfn_ok _ _ hm.lez ([(⟨0, 0, ([(⟨22, 0, 0, 0, 0⟩ : Mins)] : List Mins)⟩ : Mfn)] : List Mfn) (.slice (some ⟨b1_2, 0, none⟩) 1 1) hz_r1_5 xs0_1  _ hpb1_1)) ?_
          clear hf a; rintro v1_16 w1_33 a ho1_5 hf
          obtain ⟨_, hz1_10, rfl, hle1_10, hB⟩ := ho1_5
          replace hm := Mem.giveA hm hle1_10 hB; clear hB
          clear hS
          have hS : Mem w0 hz _ [blk b0_1 [(.int .i64 (f.params)), (.int .i64 (f.slots)), (.slice p0_1 f.ins.length c0_1)] 35, junk w0 hz] := (hm.thaw (Heap.le_trans hle1_9 hle1_10)).pick [3, 4] (by decide) rfl
          refine ⟨fun _ => hS, ?_⟩
          refine te_one ?_
          obtain ⟨h1_8, h1_8e⟩ := appM_some.1 hpb1_2
          replace hm := hm.sh_up (Heap.le_trans hle1_9 hle1_10) 1 rfl
          refine td_ef hf rfl rfl rfl rfl (e_appendSh (α := Mfn) (xs := pb1_1) (ys := ([f] : List Mfn)) 0 et_97 hf hm rfl (hm.ow_rep 1 rfl) rfl rfl rfl h1_8) ?_
          clear hf a; rintro v1_18 w1_34 a hm hf
          rw [h1_8e] at hm
          refine ⟨fun h => absurd h (by decide), ?_⟩
          obtain ⟨p1_8, c1_8, he, hl1_8⟩ := ro_slice (sh_read (Heap.le_trans (Heap.le_refl _) hm.lez) (hm.ow_rep 0 rfl))
          subst he
          refine td_p hf rfl rfl rfl rfl (fun w => y_build (vs := [(0, (.slice p1_8 pb1_2.length c1_8))]) (cs := #[(.slice p1_8 pb1_2.length c1_8)]) rfl rfl (by kernel_rfl)) ?_
          clear hf a; intro a hf
          refine te_one ?_
          refine td_ef0 hf rfl rfl rfl (e_storeN 2 hf hm rfl Tryd.sizeOf99 rfl rfl rfl (one_cons rfl one_nil) rfl rfl) ?_
          clear hf a; rintro _ w1_35 a hm hf
          refine ⟨fun h => absurd h (by decide), ?_⟩
          clear hS; refine td_end ?_
          refine x_then_n ?_
          obtain rfl := Option.some.inj hq0_1
          exact ⟨hz1_10, b1_12, (.slice p1_8 pb1_2.length c1_8), (Heap.le_trans hle1_9 hle1_10), hf.sub ⟨rfl, rfl, trivial⟩, hm.pick [3, 2, 0, 4] (by decide) rfl⟩
        refine te_more ?_ ?_
        ·
          refine td_ef hf rfl rfl rfl rfl (e_build (vs := #[(0, (.agg #[(.int .i64 (f.params)), (.int .i64 (f.slots)), (.slice p0_1 f.ins.length c0_1)]))]) (cs := [(.int .i64 (f.params)), (.int .i64 (f.slots)), (.slice p0_1 f.ins.length c0_1)]) et_97 hf hm rfl rfl (by kernel_rfl) rfl rfl) ?_
          clear hf a; rintro _ w1_36 a ⟨b1_15, rfl, hm⟩ hf
          replace hm := hm.litSh (α := Mfn) (xs := [f]) 0 rfl (.cons (c := [(.int .i64 (f.params)), (.int .i64 (f.slots)), (.slice p0_1 f.ins.length c0_1)]) (x := (f : Mfn)) ⟨[(.int .i64 (f.params))], [(.int .i64 (f.slots)), (.slice p0_1 f.ins.length c0_1)], rfl, (Flat.rep_iff.2 rfl), ⟨[(.int .i64 (f.slots))], [(.slice p0_1 f.ins.length c0_1)], rfl, (Flat.rep_iff.2 rfl), h1⟩⟩ .nil) rfl rfl
          refine ⟨fun h => absurd h (by decide), ?_⟩
          refine te_more ?_ ?_
          ·
            refine td_ef hf rfl rfl rfl rfl (e_build (vs := #[(0, (.agg #[(.int .i64 (0)), (.int .i64 (0)), (.slice (some ⟨b1_1, 0, none⟩) 1 1)]))]) (cs := [(.int .i64 (0)), (.int .i64 (0)), (.slice (some ⟨b1_1, 0, none⟩) 1 1)]) et_97 hf hm rfl rfl (by kernel_rfl) rfl rfl) ?_
            clear hf a; rintro _ w1_37 a ⟨b1_16, rfl, hm⟩ hf
            replace hm := hm.els_nil (α := Mfn)
            replace hm := hm.own0 (c := [(.int .i64 (0))]) (x := (0 : Int)) (fun h => Flat.own_iff.2 rfl)
            replace hm := hm.own0 (c := [(.int .i64 (0))]) (x := (0 : Int)) (fun h => Flat.own_iff.2 rfl)
            replace hm := (hm.pair (x := (0 : Int)) (y := (([(⟨22, 0, 0, 0, 0⟩ : Mins)] : List Mins) : List Mins)) 0 5 (by decide) rfl rfl).pick (L' := [ow [(.int .i64 (0)), (.slice (some ⟨b1_1, 0, none⟩) 1 1)] ((0, ([(⟨22, 0, 0, 0, 0⟩ : Mins)] : List Mins)) : Int × (List Mins)), ow [(.int .i64 (0))] (0 : Int), els [] ([] : List Mfn), blk b1_16 [(.int .i64 (0)), (.int .i64 (0)), (.slice (some ⟨b1_1, 0, none⟩) 1 1)] 35, ow (α := List (Sh hz Mfn)) [(.slice (some ⟨b1_15, 0, none⟩) 1 1)] ([f] : List Mfn), blk b0_1 [(.int .i64 (f.params)), (.int .i64 (f.slots)), (.slice p0_1 f.ins.length c0_1)] 35, junk w0 hz]) [0, 1, 2, 3, 4, 6, 7] (by decide) rfl
            replace hm := (hm.pair (x := (0 : Int)) (y := ((0, ([(⟨22, 0, 0, 0, 0⟩ : Mins)] : List Mins)) : Int × (List Mins))) 1 0 (by decide) rfl rfl).pick (L' := [ow [(.int .i64 (0)), (.int .i64 (0)), (.slice (some ⟨b1_1, 0, none⟩) 1 1)] ((0, (0, ([(⟨22, 0, 0, 0, 0⟩ : Mins)] : List Mins))) : Int × Int × (List Mins)), els [] ([] : List Mfn), blk b1_16 [(.int .i64 (0)), (.int .i64 (0)), (.slice (some ⟨b1_1, 0, none⟩) 1 1)] 35, ow (α := List (Sh hz Mfn)) [(.slice (some ⟨b1_15, 0, none⟩) 1 1)] ([f] : List Mfn), blk b0_1 [(.int .i64 (f.params)), (.int .i64 (f.slots)), (.slice p0_1 f.ins.length c0_1)] 35, junk w0 hz]) [1, 2, 3, 4, 5, 6] (by decide) rfl
            replace hm := hm.imp (c' := ow [(.int .i64 (0)), (.int .i64 (0)), (.slice (some ⟨b1_1, 0, none⟩) 1 1)] ((⟨0, 0, ([(⟨22, 0, 0, 0, 0⟩ : Mins)] : List Mins)⟩ : Mfn) : Mfn)) 0 rfl (fun F h0 => h0)
            replace hm := (hm.els_cons 1 0 (by decide) rfl rfl).pick (L' := [els [(.int .i64 (0)), (.int .i64 (0)), (.slice (some ⟨b1_1, 0, none⟩) 1 1)] ([(⟨0, 0, ([(⟨22, 0, 0, 0, 0⟩ : Mins)] : List Mins)⟩ : Mfn)] : List Mfn), blk b1_16 [(.int .i64 (0)), (.int .i64 (0)), (.slice (some ⟨b1_1, 0, none⟩) 1 1)] 35, ow (α := List (Sh hz Mfn)) [(.slice (some ⟨b1_15, 0, none⟩) 1 1)] ([f] : List Mfn), blk b0_1 [(.int .i64 (f.params)), (.int .i64 (f.slots)), (.slice p0_1 f.ins.length c0_1)] 35, junk w0 hz]) [1, 2, 3, 4, 5] (by decide) rfl
            replace hm := (hm.lit_els 1 0 (by decide) rfl rfl rfl rfl).pick (L' := [ow [(.slice (some ⟨b1_16, 0, none⟩) 1 1)] ([(⟨0, 0, ([(⟨22, 0, 0, 0, 0⟩ : Mins)] : List Mins)⟩ : Mfn)] : List Mfn), ow (α := List (Sh hz Mfn)) [(.slice (some ⟨b1_15, 0, none⟩) 1 1)] ([f] : List Mfn), blk b0_1 [(.int .i64 (f.params)), (.int .i64 (f.slots)), (.slice p0_1 f.ins.length c0_1)] 35, junk w0 hz]) [1, 2, 3, 4] (by decide) rfl
            clear hS
            have hS : Mem w0 hz _ [blk b0_1 [(.int .i64 (f.params)), (.int .i64 (f.slots)), (.slice p0_1 f.ins.length c0_1)] 35, junk w0 hz] := hm.pick [2, 3] (by decide) rfl
            refine ⟨fun _ => hS, ?_⟩
            refine te_more ?_ ?_
            ·
              obtain ⟨hz1_11, hle1_11, hz_r1_6, hm⟩ := hm.freeze 0 rfl
              replace hm := hm.pick (L' := [ow (α := List (Sh hz Mfn)) [(.slice (some ⟨b1_15, 0, none⟩) 1 1)] ([f] : List Mfn), blk b0_1 [(.int .i64 (f.params)), (.int .i64 (f.slots)), (.slice p0_1 f.ins.length c0_1)] 35, junk w0 hz]) [1, 2, 3] (by decide) rfl
              replace hz_r1_6 : GT.rep hz1_11 [(.slice (some ⟨b1_16, 0, none⟩) 1 1)] ([(⟨0, 0, ([(⟨22, 0, 0, 0, 0⟩ : Mins)] : List Mins)⟩ : Mfn)] : List Mfn) := fz_ow hz_r1_6
              refine td_ef hf rfl rfl rfl rfl (e_call hf rfl Tryd.call69 rfl (slices_Repeat_S_impl_Mfn_impl_Mfn_ok _ _ hm.lez ([(⟨0, 0, ([(⟨22, 0, 0, 0, 0⟩ : Mins)] : List Mins)⟩ : Mfn)] : List Mfn) (.slice (some ⟨b1_16, 0, none⟩) 1 1) hz_r1_6 xs0_1  _ hpb1_1)) ?_
              clear hf a; rintro v1_19 w1_38 a ho1_6 hf
              obtain ⟨_, hz1_12, rfl, hle1_12, hB⟩ := ho1_6
              replace hm := Mem.giveA hm hle1_12 hB; clear hB
              clear hS
              have hS : Mem w0 hz _ [blk b0_1 [(.int .i64 (f.params)), (.int .i64 (f.slots)), (.slice p0_1 f.ins.length c0_1)] 35, junk w0 hz] := (hm.thaw (Heap.le_trans hle1_11 hle1_12)).pick [2, 3] (by decide) rfl
              refine ⟨fun _ => hS, ?_⟩
              refine te_more ?_ ?_
              ·
                obtain ⟨h1_9, h1_9e⟩ := appM_some.1 hpb1_2
                replace hm := hm.sh_up (Heap.le_trans hle1_11 hle1_12) 1 rfl
                refine td_ef hf rfl rfl rfl rfl (e_appendSh (α := Mfn) (xs := pb1_1) (ys := ([f] : List Mfn)) 0 et_97 hf hm rfl (hm.ow_rep 1 rfl) rfl rfl rfl h1_9) ?_
                clear hf a; rintro v1_21 w1_39 a hm hf
                rw [h1_9e] at hm
                refine ⟨fun h => absurd h (by decide), ?_⟩
                obtain ⟨p1_9, c1_9, he, hl1_9⟩ := ro_slice (sh_read (Heap.le_trans (Heap.le_refl _) hm.lez) (hm.ow_rep 0 rfl))
                subst he
                refine td_p hf rfl rfl rfl rfl (fun w => y_build (vs := [(0, (.slice p1_9 pb1_2.length c1_9))]) (cs := #[(.slice p1_9 pb1_2.length c1_9)]) rfl rfl (by kernel_rfl)) ?_
                clear hf a; intro a hf
                refine te_one ?_
                refine td_ef hf rfl rfl rfl rfl (e_alloc hm Tryd.zeroValue99 rfl rfl) ?_
                clear hf a; rintro _ w1_40 a ⟨b1_17, rfl, hm⟩ hf
                clear hS
                have hS : Mem w0 hz _ [blk b0_1 [(.int .i64 (f.params)), (.int .i64 (f.slots)), (.slice p0_1 f.ins.length c0_1)] 35, junk w0 hz] := (hm.thaw (Heap.le_trans hle1_11 hle1_12)).pick [3, 4] (by decide) rfl
                refine ⟨fun _ => hS, ?_⟩
                refine te_one ?_
                refine td_ef0 hf rfl rfl rfl (e_storeN 0 hf hm rfl Tryd.sizeOf99 rfl rfl rfl (one_cons rfl one_nil) rfl rfl) ?_
                clear hf a; rintro _ w1_41 a hm hf
                refine ⟨fun h => absurd h (by decide), ?_⟩
                clear hS; refine td_end ?_
                refine x_then_n ?_
                obtain rfl := Option.some.inj hq0_1
                exact ⟨hz1_12, b1_17, (.slice p1_9 pb1_2.length c1_9), (Heap.le_trans hle1_11 hle1_12), hf.sub ⟨rfl, rfl, trivial⟩, hm.pick [3, 0, 1, 4] (by decide) rfl⟩
              refine te_one ?_
              refine td_ef hf rfl rfl rfl rfl (e_alloc hm Tryd.zeroValue99 rfl rfl) ?_
              clear hf a; rintro _ w1_42 a ⟨b1_18, rfl, hm⟩ hf
              clear hS
              have hS : Mem w0 hz _ [blk b0_1 [(.int .i64 (f.params)), (.int .i64 (f.slots)), (.slice p0_1 f.ins.length c0_1)] 35, junk w0 hz] := (hm.thaw (Heap.le_trans hle1_11 hle1_12)).pick [3, 4] (by decide) rfl
              refine ⟨fun _ => hS, ?_⟩
              refine te_one ?_
              obtain ⟨h1_10, h1_10e⟩ := appM_some.1 hpb1_2
              replace hm := hm.sh_up (Heap.le_trans hle1_11 hle1_12) 2 rfl
              refine td_ef hf rfl rfl rfl rfl (e_appendSh (α := Mfn) (xs := pb1_1) (ys := ([f] : List Mfn)) 1 et_97 hf hm rfl (hm.ow_rep 2 rfl) rfl rfl rfl h1_10) ?_
              clear hf a; rintro v1_22 w1_43 a hm hf
              rw [h1_10e] at hm
              refine ⟨fun h => absurd h (by decide), ?_⟩
              obtain ⟨p1_10, c1_10, he, hl1_10⟩ := ro_slice (sh_read (Heap.le_trans (Heap.le_refl _) hm.lez) (hm.ow_rep 1 rfl))
              subst he
              refine td_p hf rfl rfl rfl rfl (fun w => y_build (vs := [(0, (.slice p1_10 pb1_2.length c1_10))]) (cs := #[(.slice p1_10 pb1_2.length c1_10)]) rfl rfl (by kernel_rfl)) ?_
              clear hf a; intro a hf
              refine te_one ?_
              refine td_ef0 hf rfl rfl rfl (e_storeN 0 hf hm rfl Tryd.sizeOf99 rfl rfl rfl (one_cons rfl one_nil) rfl rfl) ?_
              clear hf a; rintro _ w1_44 a hm hf
              refine ⟨fun h => absurd h (by decide), ?_⟩
              clear hS; refine td_end ?_
              refine x_then_n ?_
              obtain rfl := Option.some.inj hq0_1
              exact ⟨hz1_12, b1_18, (.slice p1_10 pb1_2.length c1_10), (Heap.le_trans hle1_11 hle1_12), hf.sub ⟨rfl, rfl, trivial⟩, hm.pick [3, 0, 1, 4] (by decide) rfl⟩
            refine te_one ?_
            refine td_ef hf rfl rfl rfl rfl (e_alloc hm Tryd.zeroValue99 rfl rfl) ?_
            clear hf a; rintro _ w1_45 a ⟨b1_19, rfl, hm⟩ hf
            clear hS
            have hS : Mem w0 hz _ [blk b0_1 [(.int .i64 (f.params)), (.int .i64 (f.slots)), (.slice p0_1 f.ins.length c0_1)] 35, junk w0 hz] := hm.pick [3, 4] (by decide) rfl
            refine ⟨fun _ => hS, ?_⟩
            refine te_one ?_
            obtain ⟨hz1_13, hle1_13, hz_r1_7, hm⟩ := hm.freeze 1 rfl
            replace hm := hm.pick (L' := [blk b1_19 [(.slice none 0 0)] 99, ow (α := List (Sh hz Mfn)) [(.slice (some ⟨b1_15, 0, none⟩) 1 1)] ([f] : List Mfn), blk b0_1 [(.int .i64 (f.params)), (.int .i64 (f.slots)), (.slice p0_1 f.ins.length c0_1)] 35, junk w0 hz]) [0, 2, 3, 4] (by decide) rfl
            replace hz_r1_7 : GT.rep hz1_13 [(.slice (some ⟨b1_16, 0, none⟩) 1 1)] ([(⟨0, 0, ([(⟨22, 0, 0, 0, 0⟩ : Mins)] : List Mins)⟩ : Mfn)] : List Mfn) := fz_ow hz_r1_7
            refine td_ef hf rfl rfl rfl rfl (e_call hf rfl Tryd.call69 rfl (slices_Repeat_S_impl_Mfn_impl_Mfn_ok _ _ hm.lez ([(⟨0, 0, ([(⟨22, 0, 0, 0, 0⟩ : Mins)] : List Mins)⟩ : Mfn)] : List Mfn) (.slice (some ⟨b1_16, 0, none⟩) 1 1) hz_r1_7 xs0_1  _ hpb1_1)) ?_
            clear hf a; rintro v1_23 w1_46 a ho1_7 hf
            obtain ⟨_, hz1_14, rfl, hle1_14, hB⟩ := ho1_7
            replace hm := Mem.giveA hm hle1_14 hB; clear hB
            clear hS
            have hS : Mem w0 hz _ [blk b0_1 [(.int .i64 (f.params)), (.int .i64 (f.slots)), (.slice p0_1 f.ins.length c0_1)] 35, junk w0 hz] := (hm.thaw (Heap.le_trans hle1_13 hle1_14)).pick [3, 4] (by decide) rfl
            refine ⟨fun _ => hS, ?_⟩
            refine te_one ?_
            obtain ⟨h1_11, h1_11e⟩ := appM_some.1 hpb1_2
            replace hm := hm.sh_up (Heap.le_trans hle1_13 hle1_14) 2 rfl
            refine td_ef hf rfl rfl rfl rfl (e_appendSh (α := Mfn) (xs := pb1_1) (ys := ([f] : List Mfn)) 0 et_97 hf hm rfl (hm.ow_rep 2 rfl) rfl rfl rfl h1_11) ?_
            clear hf a; rintro v1_25 w1_47 a hm hf
            rw [h1_11e] at hm
            refine ⟨fun h => absurd h (by decide), ?_⟩
            obtain ⟨p1_11, c1_11, he, hl1_11⟩ := ro_slice (sh_read (Heap.le_trans (Heap.le_refl _) hm.lez) (hm.ow_rep 0 rfl))
            subst he
            refine td_p hf rfl rfl rfl rfl (fun w => y_build (vs := [(0, (.slice p1_11 pb1_2.length c1_11))]) (cs := #[(.slice p1_11 pb1_2.length c1_11)]) rfl rfl (by kernel_rfl)) ?_
            clear hf a; intro a hf
            refine te_one ?_
            refine td_ef0 hf rfl rfl rfl (e_storeN 1 hf hm rfl Tryd.sizeOf99 rfl rfl rfl (one_cons rfl one_nil) rfl rfl) ?_
            clear hf a; rintro _ w1_48 a hm hf
            refine ⟨fun h => absurd h (by decide), ?_⟩
            clear hS; refine td_end ?_
            refine x_then_n ?_
            obtain rfl := Option.some.inj hq0_1
            exact ⟨hz1_14, b1_19, (.slice p1_11 pb1_2.length c1_11), (Heap.le_trans hle1_13 hle1_14), hf.sub ⟨rfl, rfl, trivial⟩, hm.pick [3, 1, 0, 4] (by decide) rfl⟩
          refine te_one ?_
          refine td_ef hf rfl rfl rfl rfl (e_alloc hm Tryd.zeroValue99 rfl rfl) ?_
          clear hf a; rintro _ w1_49 a ⟨b1_20, rfl, hm⟩ hf
          clear hS
          have hS : Mem w0 hz _ [blk b0_1 [(.int .i64 (f.params)), (.int .i64 (f.slots)), (.slice p0_1 f.ins.length c0_1)] 35, junk w0 hz] := hm.pick [3, 4] (by decide) rfl
          refine ⟨fun _ => hS, ?_⟩
          refine te_one ?_
          refine td_ef hf rfl rfl rfl rfl (e_build (vs := #[(0, (.agg #[(.int .i64 (0)), (.int .i64 (0)), (.slice (some ⟨b1_1, 0, none⟩) 1 1)]))]) (cs := [(.int .i64 (0)), (.int .i64 (0)), (.slice (some ⟨b1_1, 0, none⟩) 1 1)]) et_97 hf hm rfl rfl (by kernel_rfl) rfl rfl) ?_
          clear hf a; rintro _ w1_50 a ⟨b1_21, rfl, hm⟩ hf
          replace hm := hm.els_nil (α := Mfn)
          replace hm := hm.own0 (c := [(.int .i64 (0))]) (x := (0 : Int)) (fun h => Flat.own_iff.2 rfl)
          replace hm := hm.own0 (c := [(.int .i64 (0))]) (x := (0 : Int)) (fun h => Flat.own_iff.2 rfl)
          replace hm := (hm.pair (x := (0 : Int)) (y := (([(⟨22, 0, 0, 0, 0⟩ : Mins)] : List Mins) : List Mins)) 0 6 (by decide) rfl rfl).pick (L' := [ow [(.int .i64 (0)), (.slice (some ⟨b1_1, 0, none⟩) 1 1)] ((0, ([(⟨22, 0, 0, 0, 0⟩ : Mins)] : List Mins)) : Int × (List Mins)), ow [(.int .i64 (0))] (0 : Int), els [] ([] : List Mfn), blk b1_21 [(.int .i64 (0)), (.int .i64 (0)), (.slice (some ⟨b1_1, 0, none⟩) 1 1)] 35, blk b1_20 [(.slice none 0 0)] 99, ow (α := List (Sh hz Mfn)) [(.slice (some ⟨b1_15, 0, none⟩) 1 1)] ([f] : List Mfn), blk b0_1 [(.int .i64 (f.params)), (.int .i64 (f.slots)), (.slice p0_1 f.ins.length c0_1)] 35, junk w0 hz]) [0, 1, 2, 3, 4, 5, 7, 8] (by decide) rfl
          replace hm := (hm.pair (x := (0 : Int)) (y := ((0, ([(⟨22, 0, 0, 0, 0⟩ : Mins)] : List Mins)) : Int × (List Mins))) 1 0 (by decide) rfl rfl).pick (L' := [ow [(.int .i64 (0)), (.int .i64 (0)), (.slice (some ⟨b1_1, 0, none⟩) 1 1)] ((0, (0, ([(⟨22, 0, 0, 0, 0⟩ : Mins)] : List Mins))) : Int × Int × (List Mins)), els [] ([] : List Mfn), blk b1_21 [(.int .i64 (0)), (.int .i64 (0)), (.slice (some ⟨b1_1, 0, none⟩) 1 1)] 35, blk b1_20 [(.slice none 0 0)] 99, ow (α := List (Sh hz Mfn)) [(.slice (some ⟨b1_15, 0, none⟩) 1 1)] ([f] : List Mfn), blk b0_1 [(.int .i64 (f.params)), (.int .i64 (f.slots)), (.slice p0_1 f.ins.length c0_1)] 35, junk w0 hz]) [1, 2, 3, 4, 5, 6, 7] (by decide) rfl
          replace hm := hm.imp (c' := ow [(.int .i64 (0)), (.int .i64 (0)), (.slice (some ⟨b1_1, 0, none⟩) 1 1)] ((⟨0, 0, ([(⟨22, 0, 0, 0, 0⟩ : Mins)] : List Mins)⟩ : Mfn) : Mfn)) 0 rfl (fun F h0 => h0)
          replace hm := (hm.els_cons 1 0 (by decide) rfl rfl).pick (L' := [els [(.int .i64 (0)), (.int .i64 (0)), (.slice (some ⟨b1_1, 0, none⟩) 1 1)] ([(⟨0, 0, ([(⟨22, 0, 0, 0, 0⟩ : Mins)] : List Mins)⟩ : Mfn)] : List Mfn), blk b1_21 [(.int .i64 (0)), (.int .i64 (0)), (.slice (some ⟨b1_1, 0, none⟩) 1 1)] 35, blk b1_20 [(.slice none 0 0)] 99, ow (α := List (Sh hz Mfn)) [(.slice (some ⟨b1_15, 0, none⟩) 1 1)] ([f] : List Mfn), blk b0_1 [(.int .i64 (f.params)), (.int .i64 (f.slots)), (.slice p0_1 f.ins.length c0_1)] 35, junk w0 hz]) [1, 2, 3, 4, 5, 6] (by decide) rfl
          replace hm := (hm.lit_els 1 0 (by decide) rfl rfl rfl rfl).pick (L' := [ow [(.slice (some ⟨b1_21, 0, none⟩) 1 1)] ([(⟨0, 0, ([(⟨22, 0, 0, 0, 0⟩ : Mins)] : List Mins)⟩ : Mfn)] : List Mfn), blk b1_20 [(.slice none 0 0)] 99, ow (α := List (Sh hz Mfn)) [(.slice (some ⟨b1_15, 0, none⟩) 1 1)] ([f] : List Mfn), blk b0_1 [(.int .i64 (f.params)), (.int .i64 (f.slots)), (.slice p0_1 f.ins.length c0_1)] 35, junk w0 hz]) [1, 2, 3, 4, 5] (by decide) rfl
          clear hS
          have hS : Mem w0 hz _ [blk b0_1 [(.int .i64 (f.params)), (.int .i64 (f.slots)), (.slice p0_1 f.ins.length c0_1)] 35, junk w0 hz] := hm.pick [3, 4] (by decide) rfl
          refine ⟨fun _ => hS, ?_⟩
          refine te_one ?_
          obtain ⟨hz1_15, hle1_15, hz_r1_8, hm⟩ := hm.freeze 0 rfl
          replace hm := hm.pick (L' := [blk b1_20 [(.slice none 0 0)] 99, ow (α := List (Sh hz Mfn)) [(.slice (some ⟨b1_15, 0, none⟩) 1 1)] ([f] : List Mfn), blk b0_1 [(.int .i64 (f.params)), (.int .i64 (f.slots)), (.slice p0_1 f.ins.length c0_1)] 35, junk w0 hz]) [1, 2, 3, 4] (by decide) rfl
          replace hz_r1_8 : GT.rep hz1_15 [(.slice (some ⟨b1_21, 0, none⟩) 1 1)] ([(⟨0, 0, ([(⟨22, 0, 0, 0, 0⟩ : Mins)] : List Mins)⟩ : Mfn)] : List Mfn) := fz_ow hz_r1_8
          refine td_ef hf rfl rfl rfl rfl (e_call hf rfl Tryd.call69 rfl (slices_Repeat_S_impl_Mfn_impl_Mfn_ok _ _ hm.lez ([(⟨0, 0, ([(⟨22, 0, 0, 0, 0⟩ : Mins)] : List Mins)⟩ : Mfn)] : List Mfn) (.slice (some ⟨b1_21, 0, none⟩) 1 1) hz_r1_8 xs0_1  _ hpb1_1)) ?_
          clear hf a; rintro v1_26 w1_51 a ho1_8 hf
          obtain ⟨_, hz1_16, rfl, hle1_16, hB⟩ := ho1_8
          replace hm := Mem.giveA hm hle1_16 hB; clear hB
          clear hS
          have hS : Mem w0 hz _ [blk b0_1 [(.int .i64 (f.params)), (.int .i64 (f.slots)), (.slice p0_1 f.ins.length c0_1)] 35, junk w0 hz] := (hm.thaw (Heap.le_trans hle1_15 hle1_16)).pick [3, 4] (by decide) rfl
          refine ⟨fun _ => hS, ?_⟩
          refine te_one ?_
          obtain ⟨h1_12, h1_12e⟩ := appM_some.1 hpb1_2
          replace hm := hm.sh_up (Heap.le_trans hle1_15 hle1_16) 2 rfl
          refine td_ef hf rfl rfl rfl rfl (e_appendSh (α := Mfn) (xs := pb1_1) (ys := ([f] : List Mfn)) 0 et_97 hf hm rfl (hm.ow_rep 2 rfl) rfl rfl rfl h1_12) ?_
          clear hf a; rintro v1_28 w1_52 a hm hf
          rw [h1_12e] at hm
          refine ⟨fun h => absurd h (by decide), ?_⟩
          obtain ⟨p1_12, c1_12, he, hl1_12⟩ := ro_slice (sh_read (Heap.le_trans (Heap.le_refl _) hm.lez) (hm.ow_rep 0 rfl))
          subst he
          refine td_p hf rfl rfl rfl rfl (fun w => y_build (vs := [(0, (.slice p1_12 pb1_2.length c1_12))]) (cs := #[(.slice p1_12 pb1_2.length c1_12)]) rfl rfl (by kernel_rfl)) ?_
          clear hf a; intro a hf
          refine te_one ?_
          refine td_ef0 hf rfl rfl rfl (e_storeN 1 hf hm rfl Tryd.sizeOf99 rfl rfl rfl (one_cons rfl one_nil) rfl rfl) ?_
          clear hf a; rintro _ w1_53 a hm hf
          refine ⟨fun h => absurd h (by decide), ?_⟩
          clear hS; refine td_end ?_
          refine x_then_n ?_
          obtain rfl := Option.some.inj hq0_1
          exact ⟨hz1_16, b1_20, (.slice p1_12 pb1_2.length c1_12), (Heap.le_trans hle1_15 hle1_16), hf.sub ⟨rfl, rfl, trivial⟩, hm.pick [3, 1, 0, 4] (by decide) rfl⟩
        refine te_one ?_
        refine td_ef hf rfl rfl rfl rfl (e_alloc hm Tryd.zeroValue99 rfl rfl) ?_
        clear hf a; rintro _ w1_54 a ⟨b1_22, rfl, hm⟩ hf
        clear hS
        have hS : Mem w0 hz _ [blk b0_1 [(.int .i64 (f.params)), (.int .i64 (f.slots)), (.slice p0_1 f.ins.length c0_1)] 35, junk w0 hz] := hm.pick [2, 3] (by decide) rfl
        refine ⟨fun _ => hS, ?_⟩
        refine te_more ?_ ?_
        ·
          refine td_ef hf rfl rfl rfl rfl (e_build (vs := #[(0, (.agg #[(.int .i64 (0)), (.int .i64 (0)), (.slice (some ⟨b1_1, 0, none⟩) 1 1)]))]) (cs := [(.int .i64 (0)), (.int .i64 (0)), (.slice (some ⟨b1_1, 0, none⟩) 1 1)]) et_97 hf hm rfl rfl (by kernel_rfl) rfl rfl) ?_
          clear hf a; rintro _ w1_55 a ⟨b1_23, rfl, hm⟩ hf
          replace hm := hm.els_nil (α := Mfn)
          replace hm := hm.own0 (c := [(.int .i64 (0))]) (x := (0 : Int)) (fun h => Flat.own_iff.2 rfl)
          replace hm := hm.own0 (c := [(.int .i64 (0))]) (x := (0 : Int)) (fun h => Flat.own_iff.2 rfl)
          replace hm := (hm.pair (x := (0 : Int)) (y := (([(⟨22, 0, 0, 0, 0⟩ : Mins)] : List Mins) : List Mins)) 0 5 (by decide) rfl rfl).pick (L' := [ow [(.int .i64 (0)), (.slice (some ⟨b1_1, 0, none⟩) 1 1)] ((0, ([(⟨22, 0, 0, 0, 0⟩ : Mins)] : List Mins)) : Int × (List Mins)), ow [(.int .i64 (0))] (0 : Int), els [] ([] : List Mfn), blk b1_23 [(.int .i64 (0)), (.int .i64 (0)), (.slice (some ⟨b1_1, 0, none⟩) 1 1)] 35, blk b1_22 [(.slice none 0 0)] 99, blk b0_1 [(.int .i64 (f.params)), (.int .i64 (f.slots)), (.slice p0_1 f.ins.length c0_1)] 35, junk w0 hz]) [0, 1, 2, 3, 4, 6, 7] (by decide) rfl
          replace hm := (hm.pair (x := (0 : Int)) (y := ((0, ([(⟨22, 0, 0, 0, 0⟩ : Mins)] : List Mins)) : Int × (List Mins))) 1 0 (by decide) rfl rfl).pick (L' := [ow [(.int .i64 (0)), (.int .i64 (0)), (.slice (some ⟨b1_1, 0, none⟩) 1 1)] ((0, (0, ([(⟨22, 0, 0, 0, 0⟩ : Mins)] : List Mins))) : Int × Int × (List Mins)), els [] ([] : List Mfn), blk b1_23 [(.int .i64 (0)), (.int .i64 (0)), (.slice (some ⟨b1_1, 0, none⟩) 1 1)] 35, blk b1_22 [(.slice none 0 0)] 99, blk b0_1 [(.int .i64 (f.params)), (.int .i64 (f.slots)), (.slice p0_1 f.ins.length c0_1)] 35, junk w0 hz]) [1, 2, 3, 4, 5, 6] (by decide) rfl
          replace hm := hm.imp (c' := ow [(.int .i64 (0)), (.int .i64 (0)), (.slice (some ⟨b1_1, 0, none⟩) 1 1)] ((⟨0, 0, ([(⟨22, 0, 0, 0, 0⟩ : Mins)] : List Mins)⟩ : Mfn) : Mfn)) 0 rfl (fun F h0 => h0)
          replace hm := (hm.els_cons 1 0 (by decide) rfl rfl).pick (L' := [els [(.int .i64 (0)), (.int .i64 (0)), (.slice (some ⟨b1_1, 0, none⟩) 1 1)] ([(⟨0, 0, ([(⟨22, 0, 0, 0, 0⟩ : Mins)] : List Mins)⟩ : Mfn)] : List Mfn), blk b1_23 [(.int .i64 (0)), (.int .i64 (0)), (.slice (some ⟨b1_1, 0, none⟩) 1 1)] 35, blk b1_22 [(.slice none 0 0)] 99, blk b0_1 [(.int .i64 (f.params)), (.int .i64 (f.slots)), (.slice p0_1 f.ins.length c0_1)] 35, junk w0 hz]) [1, 2, 3, 4, 5] (by decide) rfl
          replace hm := (hm.lit_els 1 0 (by decide) rfl rfl rfl rfl).pick (L' := [ow [(.slice (some ⟨b1_23, 0, none⟩) 1 1)] ([(⟨0, 0, ([(⟨22, 0, 0, 0, 0⟩ : Mins)] : List Mins)⟩ : Mfn)] : List Mfn), blk b1_22 [(.slice none 0 0)] 99, blk b0_1 [(.int .i64 (f.params)), (.int .i64 (f.slots)), (.slice p0_1 f.ins.length c0_1)] 35, junk w0 hz]) [1, 2, 3, 4] (by decide) rfl
          clear hS
          have hS : Mem w0 hz _ [blk b0_1 [(.int .i64 (f.params)), (.int .i64 (f.slots)), (.slice p0_1 f.ins.length c0_1)] 35, junk w0 hz] := hm.pick [2, 3] (by decide) rfl
          refine ⟨fun _ => hS, ?_⟩
          refine te_more ?_ ?_
          ·
            obtain ⟨hz1_17, hle1_17, hz_r1_9, hm⟩ := hm.freeze 0 rfl
            replace hm := hm.pick (L' := [blk b1_22 [(.slice none 0 0)] 99, blk b0_1 [(.int .i64 (f.params)), (.int .i64 (f.slots)), (.slice p0_1 f.ins.length c0_1)] 35, junk w0 hz]) [1, 2, 3] (by decide) rfl
            replace hz_r1_9 : GT.rep hz1_17 [(.slice (some ⟨b1_23, 0, none⟩) 1 1)] ([(⟨0, 0, ([(⟨22, 0, 0, 0, 0⟩ : Mins)] : List Mins)⟩ : Mfn)] : List Mfn) := fz_ow hz_r1_9
            refine td_ef hf rfl rfl rfl rfl (e_call hf rfl Tryd.call69 rfl (slices_Repeat_S_impl_Mfn_impl_Mfn_ok _ _ hm.lez ([(⟨0, 0, ([(⟨22, 0, 0, 0, 0⟩ : Mins)] : List Mins)⟩ : Mfn)] : List Mfn) (.slice (some ⟨b1_23, 0, none⟩) 1 1) hz_r1_9 xs0_1  _ hpb1_1)) ?_
            clear hf a; rintro v1_29 w1_56 a ho1_9 hf
            obtain ⟨_, hz1_18, rfl, hle1_18, hB⟩ := ho1_9
            replace hm := Mem.giveA hm hle1_18 hB; clear hB
            clear hS
            have hS : Mem w0 hz _ [blk b0_1 [(.int .i64 (f.params)), (.int .i64 (f.slots)), (.slice p0_1 f.ins.length c0_1)] 35, junk w0 hz] := (hm.thaw (Heap.le_trans hle1_17 hle1_18)).pick [2, 3] (by decide) rfl
            refine ⟨fun _ => hS, ?_⟩
            refine te_one ?_
            refine td_ef hf rfl rfl rfl rfl (e_build (vs := #[(0, (.agg #[(.int .i64 (f.params)), (.int .i64 (f.slots)), (.slice p0_1 f.ins.length c0_1)]))]) (cs := [(.int .i64 (f.params)), (.int .i64 (f.slots)), (.slice p0_1 f.ins.length c0_1)]) et_97 hf hm rfl rfl (by kernel_rfl) rfl rfl) ?_
            clear hf a; rintro _ w1_57 a ⟨b1_24, rfl, hm⟩ hf
            replace hm := hm.litSh (α := Mfn) (xs := [f]) 0 rfl (.cons (c := [(.int .i64 (f.params)), (.int .i64 (f.slots)), (.slice p0_1 f.ins.length c0_1)]) (x := (f : Mfn)) ⟨[(.int .i64 (f.params))], [(.int .i64 (f.slots)), (.slice p0_1 f.ins.length c0_1)], rfl, (Flat.rep_iff.2 rfl), ⟨[(.int .i64 (f.slots))], [(.slice p0_1 f.ins.length c0_1)], rfl, (Flat.rep_iff.2 rfl), (GT.mono (Heap.le_trans hle1_17 hle1_18) h1)⟩⟩ .nil) rfl rfl
            refine ⟨fun h => absurd h (by decide), ?_⟩
            refine te_one ?_
            obtain ⟨h1_13, h1_13e⟩ := appM_some.1 hpb1_2
            refine td_ef hf rfl rfl rfl rfl (e_appendSh (α := Mfn) (xs := pb1_1) (ys := ([f] : List Mfn)) 1 et_97 hf hm rfl (hm.ow_rep 0 rfl) rfl rfl rfl h1_13) ?_
            clear hf a; rintro v1_31 w1_58 a hm hf
            rw [h1_13e] at hm
            refine ⟨fun h => absurd h (by decide), ?_⟩
            obtain ⟨p1_13, c1_13, he, hl1_13⟩ := ro_slice (sh_read (Heap.le_trans (Heap.le_refl _) hm.lez) (hm.ow_rep 1 rfl))
            subst he
            refine td_p hf rfl rfl rfl rfl (fun w => y_build (vs := [(0, (.slice p1_13 pb1_2.length c1_13))]) (cs := #[(.slice p1_13 pb1_2.length c1_13)]) rfl rfl (by kernel_rfl)) ?_
            clear hf a; intro a hf
            refine te_one ?_
            refine td_ef0 hf rfl rfl rfl (e_storeN 2 hf hm rfl Tryd.sizeOf99 rfl rfl rfl (one_cons rfl one_nil) rfl rfl) ?_
            clear hf a; rintro _ w1_59 a hm hf
            refine ⟨fun h => absurd h (by decide), ?_⟩
            clear hS; refine td_end ?_
            refine x_then_n ?_
            obtain rfl := Option.some.inj hq0_1
            exact ⟨hz1_18, b1_22, (.slice p1_13 pb1_2.length c1_13), (Heap.le_trans hle1_17 hle1_18), hf.sub ⟨rfl, rfl, trivial⟩, hm.pick [3, 2, 1, 4] (by decide) rfl⟩
          refine te_one ?_
          refine td_ef hf rfl rfl rfl rfl (e_build (vs := #[(0, (.agg #[(.int .i64 (f.params)), (.int .i64 (f.slots)), (.slice p0_1 f.ins.length c0_1)]))]) (cs := [(.int .i64 (f.params)), (.int .i64 (f.slots)), (.slice p0_1 f.ins.length c0_1)]) et_97 hf hm rfl rfl (by kernel_rfl) rfl rfl) ?_
          clear hf a; rintro _ w1_60 a ⟨b1_25, rfl, hm⟩ hf
          replace hm := hm.litSh (α := Mfn) (xs := [f]) 0 rfl (.cons (c := [(.int .i64 (f.params)), (.int .i64 (f.slots)), (.slice p0_1 f.ins.length c0_1)]) (x := (f : Mfn)) ⟨[(.int .i64 (f.params))], [(.int .i64 (f.slots)), (.slice p0_1 f.ins.length c0_1)], rfl, (Flat.rep_iff.2 rfl), ⟨[(.int .i64 (f.slots))], [(.slice p0_1 f.ins.length c0_1)], rfl, (Flat.rep_iff.2 rfl), h1⟩⟩ .nil) rfl rfl
          refine ⟨fun h => absurd h (by decide), ?_⟩
          refine te_one ?_
          obtain ⟨hz1_19, hle1_19, hz_r1_10, hm⟩ := hm.freeze 1 rfl
          replace hm := hm.pick (L' := [ow (α := List (Sh hz Mfn)) [(.slice (some ⟨b1_25, 0, none⟩) 1 1)] ([f] : List Mfn), blk b1_22 [(.slice none 0 0)] 99, blk b0_1 [(.int .i64 (f.params)), (.int .i64 (f.slots)), (.slice p0_1 f.ins.length c0_1)] 35, junk w0 hz]) [0, 2, 3, 4] (by decide) rfl
          replace hz_r1_10 : GT.rep hz1_19 [(.slice (some ⟨b1_23, 0, none⟩) 1 1)] ([(⟨0, 0, ([(⟨22, 0, 0, 0, 0⟩ : Mins)] : List Mins)⟩ : Mfn)] : List Mfn) := fz_ow hz_r1_10
          refine td_ef hf rfl rfl rfl rfl (e_call hf rfl Tryd.call69 rfl (slices_Repeat_S_impl_Mfn_impl_Mfn_ok _ _ hm.lez ([(⟨0, 0, ([(⟨22, 0, 0, 0, 0⟩ : Mins)] : List Mins)⟩ : Mfn)] : List Mfn) (.slice (some ⟨b1_23, 0, none⟩) 1 1) hz_r1_10 xs0_1  _ hpb1_1)) ?_
          clear hf a; rintro v1_32 w1_61 a ho1_10 hf
          obtain ⟨_, hz1_20, rfl, hle1_20, hB⟩ := ho1_10
          replace hm := Mem.giveA hm hle1_20 hB; clear hB
          clear hS
          have hS : Mem w0 hz _ [blk b0_1 [(.int .i64 (f.params)), (.int .i64 (f.slots)), (.slice p0_1 f.ins.length c0_1)] 35, junk w0 hz] := (hm.thaw (Heap.le_trans hle1_19 hle1_20)).pick [3, 4] (by decide) rfl
          refine ⟨fun _ => hS, ?_⟩
          refine te_one ?_
          obtain ⟨h1_14, h1_14e⟩ := appM_some.1 hpb1_2
          replace hm := hm.sh_up (Heap.le_trans hle1_19 hle1_20) 1 rfl
          refine td_ef hf rfl rfl rfl rfl (e_appendSh (α := Mfn) (xs := pb1_1) (ys := ([f] : List Mfn)) 0 et_97 hf hm rfl (hm.ow_rep 1 rfl) rfl rfl rfl h1_14) ?_
          clear hf a; rintro v1_34 w1_62 a hm hf
          rw [h1_14e] at hm
          refine ⟨fun h => absurd h (by decide), ?_⟩
          obtain ⟨p1_14, c1_14, he, hl1_14⟩ := ro_slice (sh_read (Heap.le_trans (Heap.le_refl _) hm.lez) (hm.ow_rep 0 rfl))
          subst he
          refine td_p hf rfl rfl rfl rfl (fun w => y_build (vs := [(0, (.slice p1_14 pb1_2.length c1_14))]) (cs := #[(.slice p1_14 pb1_2.length c1_14)]) rfl rfl (by kernel_rfl)) ?_
          clear hf a; intro a hf
          refine te_one ?_
          refine td_ef0 hf rfl rfl rfl (e_storeN 2 hf hm rfl Tryd.sizeOf99 rfl rfl rfl (one_cons rfl one_nil) rfl rfl) ?_
          clear hf a; rintro _ w1_63 a hm hf
          refine ⟨fun h => absurd h (by decide), ?_⟩
          clear hS; refine td_end ?_
          refine x_then_n ?_
          obtain rfl := Option.some.inj hq0_1
          exact ⟨hz1_20, b1_22, (.slice p1_14 pb1_2.length c1_14), (Heap.le_trans hle1_19 hle1_20), hf.sub ⟨rfl, rfl, trivial⟩, hm.pick [3, 2, 0, 4] (by decide) rfl⟩
        refine te_one ?_
        refine td_ef hf rfl rfl rfl rfl (e_build (vs := #[(0, (.agg #[(.int .i64 (f.params)), (.int .i64 (f.slots)), (.slice p0_1 f.ins.length c0_1)]))]) (cs := [(.int .i64 (f.params)), (.int .i64 (f.slots)), (.slice p0_1 f.ins.length c0_1)]) et_97 hf hm rfl rfl (by kernel_rfl) rfl rfl) ?_
        clear hf a; rintro _ w1_64 a ⟨b1_26, rfl, hm⟩ hf
        replace hm := hm.litSh (α := Mfn) (xs := [f]) 0 rfl (.cons (c := [(.int .i64 (f.params)), (.int .i64 (f.slots)), (.slice p0_1 f.ins.length c0_1)]) (x := (f : Mfn)) ⟨[(.int .i64 (f.params))], [(.int .i64 (f.slots)), (.slice p0_1 f.ins.length c0_1)], rfl, (Flat.rep_iff.2 rfl), ⟨[(.int .i64 (f.slots))], [(.slice p0_1 f.ins.length c0_1)], rfl, (Flat.rep_iff.2 rfl), h1⟩⟩ .nil) rfl rfl
        refine ⟨fun h => absurd h (by decide), ?_⟩
        refine te_one ?_
        refine td_ef hf rfl rfl rfl rfl (e_build (vs := #[(0, (.agg #[(.int .i64 (0)), (.int .i64 (0)), (.slice (some ⟨b1_1, 0, none⟩) 1 1)]))]) (cs := [(.int .i64 (0)), (.int .i64 (0)), (.slice (some ⟨b1_1, 0, none⟩) 1 1)]) et_97 hf hm rfl rfl (by kernel_rfl) rfl rfl) ?_
        clear hf a; rintro _ w1_65 a ⟨b1_27, rfl, hm⟩ hf
        replace hm := hm.els_nil (α := Mfn)
        replace hm := hm.own0 (c := [(.int .i64 (0))]) (x := (0 : Int)) (fun h => Flat.own_iff.2 rfl)
        replace hm := hm.own0 (c := [(.int .i64 (0))]) (x := (0 : Int)) (fun h => Flat.own_iff.2 rfl)
        replace hm := (hm.pair (x := (0 : Int)) (y := (([(⟨22, 0, 0, 0, 0⟩ : Mins)] : List Mins) : List Mins)) 0 6 (by decide) rfl rfl).pick (L' := [ow [(.int .i64 (0)), (.slice (some ⟨b1_1, 0, none⟩) 1 1)] ((0, ([(⟨22, 0, 0, 0, 0⟩ : Mins)] : List Mins)) : Int × (List Mins)), ow [(.int .i64 (0))] (0 : Int), els [] ([] : List Mfn), blk b1_27 [(.int .i64 (0)), (.int .i64 (0)), (.slice (some ⟨b1_1, 0, none⟩) 1 1)] 35, ow (α := List (Sh hz Mfn)) [(.slice (some ⟨b1_26, 0, none⟩) 1 1)] ([f] : List Mfn), blk b1_22 [(.slice none 0 0)] 99, blk b0_1 [(.int .i64 (f.params)), (.int .i64 (f.slots)), (.slice p0_1 f.ins.length c0_1)] 35, junk w0 hz]) [0, 1, 2, 3, 4, 5, 7, 8] (by decide) rfl
        replace hm := (hm.pair (x := (0 : Int)) (y := ((0, ([(⟨22, 0, 0, 0, 0⟩ : Mins)] : List Mins)) : Int × (List Mins))) 1 0 (by decide) rfl rfl).pick (L' := [ow [(.int .i64 (0)), (.int .i64 (0)), (.slice (some ⟨b1_1, 0, none⟩) 1 1)] ((0, (0, ([(⟨22, 0, 0, 0, 0⟩ : Mins)] : List Mins))) : Int × Int × (List Mins)), els [] ([] : List Mfn), blk b1_27 [(.int .i64 (0)), (.int .i64 (0)), (.slice (some ⟨b1_1, 0, none⟩) 1 1)] 35, ow (α := List (Sh hz Mfn)) [(.slice (some ⟨b1_26, 0, none⟩) 1 1)] ([f] : List Mfn), blk b1_22 [(.slice none 0 0)] 99, blk b0_1 [(.int .i64 (f.params)), (.int .i64 (f.slots)), (.slice p0_1 f.ins.length c0_1)] 35, junk w0 hz]) [1, 2, 3, 4, 5, 6, 7] (by decide) rfl
        replace hm := hm.imp (c' := ow [(.int .i64 (0)), (.int .i64 (0)), (.slice (some ⟨b1_1, 0, none⟩) 1 1)] ((⟨0, 0, ([(⟨22, 0, 0, 0, 0⟩ : Mins)] : List Mins)⟩ : Mfn) : Mfn)) 0 rfl (fun F h0 => h0)
        replace hm := (hm.els_cons 1 0 (by decide) rfl rfl).pick (L' := [els [(.int .i64 (0)), (.int .i64 (0)), (.slice (some ⟨b1_1, 0, none⟩) 1 1)] ([(⟨0, 0, ([(⟨22, 0, 0, 0, 0⟩ : Mins)] : List Mins)⟩ : Mfn)] : List Mfn), blk b1_27 [(.int .i64 (0)), (.int .i64 (0)), (.slice (some ⟨b1_1, 0, none⟩) 1 1)] 35, ow (α := List (Sh hz Mfn)) [(.slice (some ⟨b1_26, 0, none⟩) 1 1)] ([f] : List Mfn), blk b1_22 [(.slice none 0 0)] 99, blk b0_1 [(.int .i64 (f.params)), (.int .i64 (f.slots)), (.slice p0_1 f.ins.length c0_1)] 35, junk w0 hz]) [1, 2, 3, 4, 5, 6] (by decide) rfl
        replace hm := (hm.lit_els 1 0 (by decide) rfl rfl rfl rfl).pick (L' := [ow [(.slice (some ⟨b1_27, 0, none⟩) 1 1)] ([(⟨0, 0, ([(⟨22, 0, 0, 0, 0⟩ : Mins)] : List Mins)⟩ : Mfn)] : List Mfn), ow (α := List (Sh hz Mfn)) [(.slice (some ⟨b1_26, 0, none⟩) 1 1)] ([f] : List Mfn), blk b1_22 [(.slice none 0 0)] 99, blk b0_1 [(.int .i64 (f.params)), (.int .i64 (f.slots)), (.slice p0_1 f.ins.length c0_1)] 35, junk w0 hz]) [1, 2, 3, 4, 5] (by decide) rfl
        clear hS
        have hS : Mem w0 hz _ [blk b0_1 [(.int .i64 (f.params)), (.int .i64 (f.slots)), (.slice p0_1 f.ins.length c0_1)] 35, junk w0 hz] := hm.pick [3, 4] (by decide) rfl
        refine ⟨fun _ => hS, ?_⟩
        refine te_one ?_
        obtain ⟨hz1_21, hle1_21, hz_r1_11, hm⟩ := hm.freeze 0 rfl
        replace hm := hm.pick (L' := [ow (α := List (Sh hz Mfn)) [(.slice (some ⟨b1_26, 0, none⟩) 1 1)] ([f] : List Mfn), blk b1_22 [(.slice none 0 0)] 99, blk b0_1 [(.int .i64 (f.params)), (.int .i64 (f.slots)), (.slice p0_1 f.ins.length c0_1)] 35, junk w0 hz]) [1, 2, 3, 4] (by decide) rfl
        replace hz_r1_11 : GT.rep hz1_21 [(.slice (some ⟨b1_27, 0, none⟩) 1 1)] ([(⟨0, 0, ([(⟨22, 0, 0, 0, 0⟩ : Mins)] : List Mins)⟩ : Mfn)] : List Mfn) := fz_ow hz_r1_11
        refine td_ef hf rfl rfl rfl rfl (e_call hf rfl Tryd.call69 rfl (slices_Repeat_S_impl_Mfn_impl_Mfn_ok _ _ hm.lez ([(⟨0, 0, ([(⟨22, 0, 0, 0, 0⟩ : Mins)] : List Mins)⟩ : Mfn)] : List Mfn) (.slice (some ⟨b1_27, 0, none⟩) 1 1) hz_r1_11 xs0_1  _ hpb1_1)) ?_
        clear hf a; rintro v1_35 w1_66 a ho1_11 hf
        obtain ⟨_, hz1_22, rfl, hle1_22, hB⟩ := ho1_11
        replace hm := Mem.giveA hm hle1_22 hB; clear hB
        clear hS
        have hS : Mem w0 hz _ [blk b0_1 [(.int .i64 (f.params)), (.int .i64 (f.slots)), (.slice p0_1 f.ins.length c0_1)] 35, junk w0 hz] := (hm.thaw (Heap.le_trans hle1_21 hle1_22)).pick [3, 4] (by decide) rfl
        refine ⟨fun _ => hS, ?_⟩
        refine te_one ?_
        obtain ⟨h1_15, h1_15e⟩ := appM_some.1 hpb1_2
        replace hm := hm.sh_up (Heap.le_trans hle1_21 hle1_22) 1 rfl
        refine td_ef hf rfl rfl rfl rfl (e_appendSh (α := Mfn) (xs := pb1_1) (ys := ([f] : List Mfn)) 0 et_97 hf hm rfl (hm.ow_rep 1 rfl) rfl rfl rfl h1_15) ?_
        clear hf a; rintro v1_37 w1_67 a hm hf
        rw [h1_15e] at hm
        refine ⟨fun h => absurd h (by decide), ?_⟩
        obtain ⟨p1_15, c1_15, he, hl1_15⟩ := ro_slice (sh_read (Heap.le_trans (Heap.le_refl _) hm.lez) (hm.ow_rep 0 rfl))
        subst he
        refine td_p hf rfl rfl rfl rfl (fun w => y_build (vs := [(0, (.slice p1_15 pb1_2.length c1_15))]) (cs := #[(.slice p1_15 pb1_2.length c1_15)]) rfl rfl (by kernel_rfl)) ?_
        clear hf a; intro a hf
        refine te_one ?_
        refine td_ef0 hf rfl rfl rfl (e_storeN 2 hf hm rfl Tryd.sizeOf99 rfl rfl rfl (one_cons rfl one_nil) rfl rfl) ?_
        clear hf a; rintro _ w1_68 a hm hf
        refine ⟨fun h => absurd h (by decide), ?_⟩
        clear hS; refine td_end ?_
        refine x_then_n ?_
        obtain rfl := Option.some.inj hq0_1
        exact ⟨hz1_22, b1_22, (.slice p1_15 pb1_2.length c1_15), (Heap.le_trans hle1_21 hle1_22), hf.sub ⟨rfl, rfl, trivial⟩, hm.pick [3, 2, 0, 4] (by decide) rfl⟩
      refine te_more ?_ ?_
      ·
        refine td_ef hf rfl rfl rfl rfl (e_build (vs := #[(0, (.agg #[(.int .i64 (f.params)), (.int .i64 (f.slots)), (.slice p0_1 f.ins.length c0_1)]))]) (cs := [(.int .i64 (f.params)), (.int .i64 (f.slots)), (.slice p0_1 f.ins.length c0_1)]) et_97 hf hm rfl rfl (by kernel_rfl) rfl rfl) ?_
        clear hf a; rintro _ w1_69 a ⟨b1_28, rfl, hm⟩ hf
        replace hm := hm.litSh (α := Mfn) (xs := [f]) 0 rfl (.cons (c := [(.int .i64 (f.params)), (.int .i64 (f.slots)), (.slice p0_1 f.ins.length c0_1)]) (x := (f : Mfn)) ⟨[(.int .i64 (f.params))], [(.int .i64 (f.slots)), (.slice p0_1 f.ins.length c0_1)], rfl, (Flat.rep_iff.2 rfl), ⟨[(.int .i64 (f.slots))], [(.slice p0_1 f.ins.length c0_1)], rfl, (Flat.rep_iff.2 rfl), h1⟩⟩ .nil) rfl rfl
        refine ⟨fun h => absurd h (by decide), ?_⟩
        refine te_more ?_ ?_
        ·
          refine td_ef hf rfl rfl rfl rfl (e_build (vs := #[(0, (.agg #[(.int .i64 (22)), (.int .i64 (0)), (.int .i64 (0)), (.int .i64 (0)), (.int .i64 (0))]))]) (cs := [(.int .i64 (22)), (.int .i64 (0)), (.int .i64 (0)), (.int .i64 (0)), (.int .i64 (0))]) et_33 hf hm rfl rfl (by kernel_rfl) rfl rfl) ?_
          clear hf a; rintro _ w1_70 a ⟨b1_29, rfl, hm⟩ hf
          replace hm := hm.lit (xs := ([(⟨22, 0, 0, 0, 0⟩ : Mins)] : List Mins)) 0 rfl rfl rfl rfl
          clear hS
          have hS : Mem w0 hz _ [blk b0_1 [(.int .i64 (f.params)), (.int .i64 (f.slots)), (.slice p0_1 f.ins.length c0_1)] 35, junk w0 hz] := hm.pick [2, 3] (by decide) rfl
          refine ⟨fun _ => hS, ?_⟩
          refine td_p hf rfl rfl rfl rfl (fun w => y_build (vs := [(2, (.slice (some ⟨b1_29, 0, none⟩) 1 1))]) (cs := #[(.int .i64 (0)), (.int .i64 (0)), (.slice (some ⟨b1_29, 0, none⟩) 1 1)]) rfl rfl (by kernel_rfl)) ?_
          clear hf a; intro a hf
          refine te_more ?_ ?_
          ·
            refine td_ef hf rfl rfl rfl rfl (e_build (vs := #[(0, (.agg #[(.int .i64 (0)), (.int .i64 (0)), (.slice (some ⟨b1_29, 0, none⟩) 1 1)]))]) (cs := [(.int .i64 (0)), (.int .i64 (0)), (.slice (some ⟨b1_29, 0, none⟩) 1 1)]) et_97 hf hm rfl rfl (by kernel_rfl) rfl rfl) ?_
            clear hf a; rintro _ w1_71 a ⟨b1_30, rfl, hm⟩ hf
            replace hm := hm.els_nil (α := Mfn)
            replace hm := hm.own0 (c := [(.int .i64 (0))]) (x := (0 : Int)) (fun h => Flat.own_iff.2 rfl)
            replace hm := hm.own0 (c := [(.int .i64 (0))]) (x := (0 : Int)) (fun h => Flat.own_iff.2 rfl)
            replace hm := (hm.pair (x := (0 : Int)) (y := (([(⟨22, 0, 0, 0, 0⟩ : Mins)] : List Mins) : List Mins)) 0 4 (by decide) rfl rfl).pick (L' := [ow [(.int .i64 (0)), (.slice (some ⟨b1_29, 0, none⟩) 1 1)] ((0, ([(⟨22, 0, 0, 0, 0⟩ : Mins)] : List Mins)) : Int × (List Mins)), ow [(.int .i64 (0))] (0 : Int), els [] ([] : List Mfn), blk b1_30 [(.int .i64 (0)), (.int .i64 (0)), (.slice (some ⟨b1_29, 0, none⟩) 1 1)] 35, ow (α := List (Sh hz Mfn)) [(.slice (some ⟨b1_28, 0, none⟩) 1 1)] ([f] : List Mfn), blk b0_1 [(.int .i64 (f.params)), (.int .i64 (f.slots)), (.slice p0_1 f.ins.length c0_1)] 35, junk w0 hz]) [0, 1, 2, 3, 5, 6, 7] (by decide) rfl
            replace hm := (hm.pair (x := (0 : Int)) (y := ((0, ([(⟨22, 0, 0, 0, 0⟩ : Mins)] : List Mins)) : Int × (List Mins))) 1 0 (by decide) rfl rfl).pick (L' := [ow [(.int .i64 (0)), (.int .i64 (0)), (.slice (some ⟨b1_29, 0, none⟩) 1 1)] ((0, (0, ([(⟨22, 0, 0, 0, 0⟩ : Mins)] : List Mins))) : Int × Int × (List Mins)), els [] ([] : List Mfn), blk b1_30 [(.int .i64 (0)), (.int .i64 (0)), (.slice (some ⟨b1_29, 0, none⟩) 1 1)] 35, ow (α := List (Sh hz Mfn)) [(.slice (some ⟨b1_28, 0, none⟩) 1 1)] ([f] : List Mfn), blk b0_1 [(.int .i64 (f.params)), (.int .i64 (f.slots)), (.slice p0_1 f.ins.length c0_1)] 35, junk w0 hz]) [1, 2, 3, 4, 5, 6] (by decide) rfl
            replace hm := hm.imp (c' := ow [(.int .i64 (0)), (.int .i64 (0)), (.slice (some ⟨b1_29, 0, none⟩) 1 1)] ((⟨0, 0, ([(⟨22, 0, 0, 0, 0⟩ : Mins)] : List Mins)⟩ : Mfn) : Mfn)) 0 rfl (fun F h0 => h0)
            replace hm := (hm.els_cons 1 0 (by decide) rfl rfl).pick (L' := [els [(.int .i64 (0)), (.int .i64 (0)), (.slice (some ⟨b1_29, 0, none⟩) 1 1)] ([(⟨0, 0, ([(⟨22, 0, 0, 0, 0⟩ : Mins)] : List Mins)⟩ : Mfn)] : List Mfn), blk b1_30 [(.int .i64 (0)), (.int .i64 (0)), (.slice (some ⟨b1_29, 0, none⟩) 1 1)] 35, ow (α := List (Sh hz Mfn)) [(.slice (some ⟨b1_28, 0, none⟩) 1 1)] ([f] : List Mfn), blk b0_1 [(.int .i64 (f.params)), (.int .i64 (f.slots)), (.slice p0_1 f.ins.length c0_1)] 35, junk w0 hz]) [1, 2, 3, 4, 5] (by decide) rfl
            replace hm := (hm.lit_els 1 0 (by decide) rfl rfl rfl rfl).pick (L' := [ow [(.slice (some ⟨b1_30, 0, none⟩) 1 1)] ([(⟨0, 0, ([(⟨22, 0, 0, 0, 0⟩ : Mins)] : List Mins)⟩ : Mfn)] : List Mfn), ow (α := List (Sh hz Mfn)) [(.slice (some ⟨b1_28, 0, none⟩) 1 1)] ([f] : List Mfn), blk b0_1 [(.int .i64 (f.params)), (.int .i64 (f.slots)), (.slice p0_1 f.ins.length c0_1)] 35, junk w0 hz]) [1, 2, 3, 4] (by decide) rfl
            clear hS
            have hS : Mem w0 hz _ [blk b0_1 [(.int .i64 (f.params)), (.int .i64 (f.slots)), (.slice p0_1 f.ins.length c0_1)] 35, junk w0 hz] := hm.pick [2, 3] (by decide) rfl
            refine ⟨fun _ => hS, ?_⟩
            refine te_more ?_ ?_
            ·
              obtain ⟨hz1_23, hle1_23, hz_r1_12, hm⟩ := hm.freeze 0 rfl
              replace hm := hm.pick (L' := [ow (α := List (Sh hz Mfn)) [(.slice (some ⟨b1_28, 0, none⟩) 1 1)] ([f] : List Mfn), blk b0_1 [(.int .i64 (f.params)), (.int .i64 (f.slots)), (.slice p0_1 f.ins.length c0_1)] 35, junk w0 hz]) [1, 2, 3] (by decide) rfl
              replace hz_r1_12 : GT.rep hz1_23 [(.slice (some ⟨b1_30, 0, none⟩) 1 1)] ([(⟨0, 0, ([(⟨22, 0, 0, 0, 0⟩ : Mins)] : List Mins)⟩ : Mfn)] : List Mfn) := fz_ow hz_r1_12
              refine td_ef hf rfl rfl rfl rfl (e_call hf rfl Tryd.call69 rfl (slices_Repeat_S_impl_Mfn_impl_Mfn_ok _ _ hm.lez ([(⟨0, 0, ([(⟨22, 0, 0, 0, 0⟩ : Mins)] : List Mins)⟩ : Mfn)] : List Mfn) (.slice (some ⟨b1_30, 0, none⟩) 1 1) hz_r1_12 xs0_1  _ hpb1_1)) ?_
              clear hf a; rintro v1_38 w1_72 a ho1_12 hf
              obtain ⟨_, hz1_24, rfl, hle1_24, hB⟩ := ho1_12
              replace hm := Mem.giveA hm hle1_24 hB; clear hB
              clear hS
              have hS : Mem w0 hz _ [blk b0_1 [(.int .i64 (f.params)), (.int .i64 (f.slots)), (.slice p0_1 f.ins.length c0_1)] 35, junk w0 hz] := (hm.thaw (Heap.le_trans hle1_23 hle1_24)).pick [2, 3] (by decide) rfl
              refine ⟨fun _ => hS, ?_⟩
              refine te_more ?_ ?_
              ·
                obtain ⟨h1_16, h1_16e⟩ := appM_some.1 hpb1_2
                replace hm := hm.sh_up (Heap.le_trans hle1_23 hle1_24) 1 rfl
                refine td_ef hf rfl rfl rfl rfl (e_appendSh (α := Mfn) (xs := pb1_1) (ys := ([f] : List Mfn)) 0 et_97 hf hm rfl (hm.ow_rep 1 rfl) rfl rfl rfl h1_16) ?_
                clear hf a; rintro v1_40 w1_73 a hm hf
                rw [h1_16e] at hm
                refine ⟨fun h => absurd h (by decide), ?_⟩
                obtain ⟨p1_16, c1_16, he, hl1_16⟩ := ro_slice (sh_read (Heap.le_trans (Heap.le_refl _) hm.lez) (hm.ow_rep 0 rfl))
                subst he
                refine td_p hf rfl rfl rfl rfl (fun w => y_build (vs := [(0, (.slice p1_16 pb1_2.length c1_16))]) (cs := #[(.slice p1_16 pb1_2.length c1_16)]) rfl rfl (by kernel_rfl)) ?_
                clear hf a; intro a hf
                refine te_one ?_
                refine td_ef hf rfl rfl rfl rfl (e_alloc hm Tryd.zeroValue99 rfl rfl) ?_
                clear hf a; rintro _ w1_74 a ⟨b1_31, rfl, hm⟩ hf
                clear hS
                have hS : Mem w0 hz _ [blk b0_1 [(.int .i64 (f.params)), (.int .i64 (f.slots)), (.slice p0_1 f.ins.length c0_1)] 35, junk w0 hz] := (hm.thaw (Heap.le_trans hle1_23 hle1_24)).pick [3, 4] (by decide) rfl
                refine ⟨fun _ => hS, ?_⟩
                refine te_one ?_
                refine td_ef0 hf rfl rfl rfl (e_storeN 0 hf hm rfl Tryd.sizeOf99 rfl rfl rfl (one_cons rfl one_nil) rfl rfl) ?_
                clear hf a; rintro _ w1_75 a hm hf
                refine ⟨fun h => absurd h (by decide), ?_⟩
                clear hS; refine td_end ?_
                refine x_then_n ?_
                obtain rfl := Option.some.inj hq0_1
                exact ⟨hz1_24, b1_31, (.slice p1_16 pb1_2.length c1_16), (Heap.le_trans hle1_23 hle1_24), hf.sub ⟨rfl, rfl, trivial⟩, hm.pick [3, 0, 1, 4] (by decide) rfl⟩
              refine te_one ?_
              refine td_ef hf rfl rfl rfl rfl (e_alloc hm Tryd.zeroValue99 rfl rfl) ?_
              clear hf a; rintro _ w1_76 a ⟨b1_32, rfl, hm⟩ hf
              clear hS
              have hS : Mem w0 hz _ [blk b0_1 [(.int .i64 (f.params)), (.int .i64 (f.slots)), (.slice p0_1 f.ins.length c0_1)] 35, junk w0 hz] := (hm.thaw (Heap.le_trans hle1_23 hle1_24)).pick [3, 4] (by decide) rfl
              refine ⟨fun _ => hS, ?_⟩
              refine te_one ?_
              obtain ⟨h1_17, h1_17e⟩ := appM_some.1 hpb1_2
              replace hm := hm.sh_up (Heap.le_trans hle1_23 hle1_24) 2 rfl
              refine td_ef hf rfl rfl rfl rfl (e_appendSh (α := Mfn) (xs := pb1_1) (ys := ([f] : List Mfn)) 1 et_97 hf hm rfl (hm.ow_rep 2 rfl) rfl rfl rfl h1_17) ?_
              clear hf a; rintro v1_41 w1_77 a hm hf
              rw [h1_17e] at hm
              refine ⟨fun h => absurd h (by decide), ?_⟩
              obtain ⟨p1_17, c1_17, he, hl1_17⟩ := ro_slice (sh_read (Heap.le_trans (Heap.le_refl _) hm.lez) (hm.ow_rep 1 rfl))
              subst he
              refine td_p hf rfl rfl rfl rfl (fun w => y_build (vs := [(0, (.slice p1_17 pb1_2.length c1_17))]) (cs := #[(.slice p1_17 pb1_2.length c1_17)]) rfl rfl (by kernel_rfl)) ?_
              clear hf a; intro a hf
              refine te_one ?_
              refine td_ef0 hf rfl rfl rfl (e_storeN 0 hf hm rfl Tryd.sizeOf99 rfl rfl rfl (one_cons rfl one_nil) rfl rfl) ?_
              clear hf a; rintro _ w1_78 a hm hf
              refine ⟨fun h => absurd h (by decide), ?_⟩
              clear hS; refine td_end ?_
              refine x_then_n ?_
              obtain rfl := Option.some.inj hq0_1
              exact ⟨hz1_24, b1_32, (.slice p1_17 pb1_2.length c1_17), (Heap.le_trans hle1_23 hle1_24), hf.sub ⟨rfl, rfl, trivial⟩, hm.pick [3, 0, 1, 4] (by decide) rfl⟩
            refine te_one ?_
            refine td_ef hf rfl rfl rfl rfl (e_alloc hm Tryd.zeroValue99 rfl rfl) ?_
            clear hf a; rintro _ w1_79 a ⟨b1_33, rfl, hm⟩ hf
            clear hS
            have hS : Mem w0 hz _ [blk b0_1 [(.int .i64 (f.params)), (.int .i64 (f.slots)), (.slice p0_1 f.ins.length c0_1)] 35, junk w0 hz] := hm.pick [3, 4] (by decide) rfl
            refine ⟨fun _ => hS, ?_⟩
            refine te_one ?_
            obtain ⟨hz1_25, hle1_25, hz_r1_13, hm⟩ := hm.freeze 1 rfl
            replace hm := hm.pick (L' := [blk b1_33 [(.slice none 0 0)] 99, ow (α := List (Sh hz Mfn)) [(.slice (some ⟨b1_28, 0, none⟩) 1 1)] ([f] : List Mfn), blk b0_1 [(.int .i64 (f.params)), (.int .i64 (f.slots)), (.slice p0_1 f.ins.length c0_1)] 35, junk w0 hz]) [0, 2, 3, 4] (by decide) rfl
            replace hz_r1_13 : GT.rep hz1_25 [(.slice (some ⟨b1_30, 0, none⟩) 1 1)] ([(⟨0, 0, ([(⟨22, 0, 0, 0, 0⟩ : Mins)] : List Mins)⟩ : Mfn)] : List Mfn) := fz_ow hz_r1_13
            refine td_ef hf rfl rfl rfl rfl (e_call hf rfl Tryd.call69 rfl (slices_Repeat_S_impl_Mfn_impl_Mfn_ok _ _ hm.lez ([(⟨0, 0, ([(⟨22, 0, 0, 0, 0⟩ : Mins)] : List Mins)⟩ : Mfn)] : List Mfn) (.slice (some ⟨b1_30, 0, none⟩) 1 1) hz_r1_13 xs0_1  _ hpb1_1)) ?_
            clear hf a; rintro v1_42 w1_80 a ho1_13 hf
            obtain ⟨_, hz1_26, rfl, hle1_26, hB⟩ := ho1_13
            replace hm := Mem.giveA hm hle1_26 hB; clear hB
            clear hS
            have hS : Mem w0 hz _ [blk b0_1 [(.int .i64 (f.params)), (.int .i64 (f.slots)), (.slice p0_1 f.ins.length c0_1)] 35, junk w0 hz] := (hm.thaw (Heap.le_trans hle1_25 hle1_26)).pick [3, 4] (by decide) rfl
            refine ⟨fun _ => hS, ?_⟩
            refine te_one ?_
            obtain ⟨h1_18, h1_18e⟩ := appM_some.1 hpb1_2
            replace hm := hm.sh_up (Heap.le_trans hle1_25 hle1_26) 2 rfl
            refine td_ef hf rfl rfl rfl rfl (e_appendSh (α := Mfn) (xs := pb1_1) (ys := ([f] : List Mfn)) 0 et_97 hf hm rfl (hm.ow_rep 2 rfl) rfl rfl rfl h1_18) ?_
            clear hf a; rintro v1_44 w1_81 a hm hf
            rw [h1_18e] at hm
            refine ⟨fun h => absurd h (by decide), ?_⟩
            obtain ⟨p1_18, c1_18, he, hl1_18⟩ := ro_slice (sh_read (Heap.le_trans (Heap.le_refl _) hm.lez) (hm.ow_rep 0 rfl))
            subst he
            refine td_p hf rfl rfl rfl rfl (fun w => y_build (vs := [(0, (.slice p1_18 pb1_2.length c1_18))]) (cs := #[(.slice p1_18 pb1_2.length c1_18)]) rfl rfl (by kernel_rfl)) ?_
            clear hf a; intro a hf
            refine te_one ?_
            refine td_ef0 hf rfl rfl rfl (e_storeN 1 hf hm rfl Tryd.sizeOf99 rfl rfl rfl (one_cons rfl one_nil) rfl rfl) ?_
            clear hf a; rintro _ w1_82 a hm hf
            refine ⟨fun h => absurd h (by decide), ?_⟩
            clear hS; refine td_end ?_
            refine x_then_n ?_
            obtain rfl := Option.some.inj hq0_1
            exact ⟨hz1_26, b1_33, (.slice p1_18 pb1_2.length c1_18), (Heap.le_trans hle1_25 hle1_26), hf.sub ⟨rfl, rfl, trivial⟩, hm.pick [3, 1, 0, 4] (by decide) rfl⟩
          refine te_one ?_
          refine td_ef hf rfl rfl rfl rfl (e_alloc hm Tryd.zeroValue99 rfl rfl) ?_
          clear hf a; rintro _ w1_83 a ⟨b1_34, rfl, hm⟩ hf
          clear hS
          have hS : Mem w0 hz _ [blk b0_1 [(.int .i64 (f.params)), (.int .i64 (f.slots)), (.slice p0_1 f.ins.length c0_1)] 35, junk w0 hz] := hm.pick [3, 4] (by decide) rfl
          refine ⟨fun _ => hS, ?_⟩
          refine te_one ?_
          refine td_ef hf rfl rfl rfl rfl (e_build (vs := #[(0, (.agg #[(.int .i64 (0)), (.int .i64 (0)), (.slice (some ⟨b1_29, 0, none⟩) 1 1)]))]) (cs := [(.int .i64 (0)), (.int .i64 (0)), (.slice (some ⟨b1_29, 0, none⟩) 1 1)]) et_97 hf hm rfl rfl (by kernel_rfl) rfl rfl) ?_
          clear hf a; rintro _ w1_84 a ⟨b1_35, rfl, hm⟩ hf
          replace hm := hm.els_nil (α := Mfn)
          replace hm := hm.own0 (c := [(.int .i64 (0))]) (x := (0 : Int)) (fun h => Flat.own_iff.2 rfl)
          replace hm := hm.own0 (c := [(.int .i64 (0))]) (x := (0 : Int)) (fun h => Flat.own_iff.2 rfl)
          replace hm := (hm.pair (x := (0 : Int)) (y := (([(⟨22, 0, 0, 0, 0⟩ : Mins)] : List Mins) : List Mins)) 0 5 (by decide) rfl rfl).pick (L' := [ow [(.int .i64 (0)), (.slice (some ⟨b1_29, 0, none⟩) 1 1)] ((0, ([(⟨22, 0, 0, 0, 0⟩ : Mins)] : List Mins)) : Int × (List Mins)), ow [(.int .i64 (0))] (0 : Int), els [] ([] : List Mfn), blk b1_35 [(.int .i64 (0)), (.int .i64 (0)), (.slice (some ⟨b1_29, 0, none⟩) 1 1)] 35, blk b1_34 [(.slice none 0 0)] 99, ow (α := List (Sh hz Mfn)) [(.slice (some ⟨b1_28, 0, none⟩) 1 1)] ([f] : List Mfn), blk b0_1 [(.int .i64 (f.params)), (.int .i64 (f.slots)), (.slice p0_1 f.ins.length c0_1)] 35, junk w0 hz]) [0, 1, 2, 3, 4, 6, 7, 8] (by decide) rfl
          replace hm := (hm.pair (x := (0 : Int)) (y := ((0, ([(⟨22, 0, 0, 0, 0⟩ : Mins)] : List Mins)) : Int × (List Mins))) 1 0 (by decide) rfl rfl).pick (L' := [ow [(.int .i64 (0)), (.int .i64 (0)), (.slice (some ⟨b1_29, 0, none⟩) 1 1)] ((0, (0, ([(⟨22, 0, 0, 0, 0⟩ : Mins)] : List Mins))) : Int × Int × (List Mins)), els [] ([] : List Mfn), blk b1_35 [(.int .i64 (0)), (.int .i64 (0)), (.slice (some ⟨b1_29, 0, none⟩) 1 1)] 35, blk b1_34 [(.slice none 0 0)] 99, ow (α := List (Sh hz Mfn)) [(.slice (some ⟨b1_28, 0, none⟩) 1 1)] ([f] : List Mfn), blk b0_1 [(.int .i64 (f.params)), (.int .i64 (f.slots)), (.slice p0_1 f.ins.length c0_1)] 35, junk w0 hz]) [1, 2, 3, 4, 5, 6, 7] (by decide) rfl
          replace hm := hm.imp (c' := ow [(.int .i64 (0)), (.int .i64 (0)), (.slice (some ⟨b1_29, 0, none⟩) 1 1)] ((⟨0, 0, ([(⟨22, 0, 0, 0, 0⟩ : Mins)] : List Mins)⟩ : Mfn) : Mfn)) 0 rfl (fun F h0 => h0)
          replace hm := (hm.els_cons 1 0 (by decide) rfl rfl).pick (L' := [els [(.int .i64 (0)), (.int .i64 (0)), (.slice (some ⟨b1_29, 0, none⟩) 1 1)] ([(⟨0, 0, ([(⟨22, 0, 0, 0, 0⟩ : Mins)] : List Mins)⟩ : Mfn)] : List Mfn), blk b1_35 [(.int .i64 (0)), (.int .i64 (0)), (.slice (some ⟨b1_29, 0, none⟩) 1 1)] 35, blk b1_34 [(.slice none 0 0)] 99, ow (α := List (Sh hz Mfn)) [(.slice (some ⟨b1_28, 0, none⟩) 1 1)] ([f] : List Mfn), blk b0_1 [(.int .i64 (f.params)), (.int .i64 (f.slots)), (.slice p0_1 f.ins.length c0_1)] 35, junk w0 hz]) [1, 2, 3, 4, 5, 6] (by decide) rfl
          replace hm := (hm.lit_els 1 0 (by decide) rfl rfl rfl rfl).pick (L' := [ow [(.slice (some ⟨b1_35, 0, none⟩) 1 1)] ([(⟨0, 0, ([(⟨22, 0, 0, 0, 0⟩ : Mins)] : List Mins)⟩ : Mfn)] : List Mfn), blk b1_34 [(.slice none 0 0)] 99, ow (α := List (Sh hz Mfn)) [(.slice (some ⟨b1_28, 0, none⟩) 1 1)] ([f] : List Mfn), blk b0_1 [(.int .i64 (f.params)), (.int .i64 (f.slots)), (.slice p0_1 f.ins.length c0_1)] 35, junk w0 hz]) [1, 2, 3, 4, 5] (by decide) rfl
          clear hS
          have hS : Mem w0 hz _ [blk b0_1 [(.int .i64 (f.params)), (.int .i64 (f.slots)), (.slice p0_1 f.ins.length c0_1)] 35, junk w0 hz] := hm.pick [3, 4] (by decide) rfl
          refine ⟨fun _ => hS, ?_⟩
          refine te_one ?_
          obtain ⟨hz1_27, hle1_27, hz_r1_14, hm⟩ := hm.freeze 0 rfl
          replace hm := hm.pick (L' := [blk b1_34 [(.slice none 0 0)] 99, ow (α := List (Sh hz Mfn)) [(.slice (some ⟨b1_28, 0, none⟩) 1 1)] ([f] : List Mfn), blk b0_1 [(.int .i64 (f.params)), (.int .i64 (f.slots)), (.slice p0_1 f.ins.length c0_1)] 35, junk w0 hz]) [1, 2, 3, 4] (by decide) rfl
          replace hz_r1_14 : GT.rep hz1_27 [(.slice (some ⟨b1_35, 0, none⟩) 1 1)] ([(⟨0, 0, ([(⟨22, 0, 0, 0, 0⟩ : Mins)] : List Mins)⟩ : Mfn)] : List Mfn) := fz_ow hz_r1_14
          refine td_ef hf rfl rfl rfl rfl (e_call hf rfl Tryd.call69 rfl (slices_Repeat_S_impl_Mfn_impl_Mfn_ok _ _ hm.lez ([(⟨0, 0, ([(⟨22, 0, 0, 0, 0⟩ : Mins)] : List Mins)⟩ : Mfn)] : List Mfn) (.slice (some ⟨b1_35, 0, none⟩) 1 1) hz_r1_14 xs0_1  _ hpb1_1)) ?_
          clear hf a; rintro v1_45 w1_85 a ho1_14 hf
          obtain ⟨_, hz1_28, rfl, hle1_28, hB⟩ := ho1_14
          replace hm := Mem.giveA hm hle1_28 hB; clear hB
          clear hS
          have hS : Mem w0 hz _ [blk b0_1 [(.int .i64 (f.params)), (.int .i64 (f.slots)), (.slice p0_1 f.ins.length c0_1)] 35, junk w0 hz] := (hm.thaw (Heap.le_trans hle1_27 hle1_28)).pick [3, 4] (by decide) rfl
          refine ⟨fun _ => hS, ?_⟩
          refine te_one ?_
          obtain ⟨h1_19, h1_19e⟩ := appM_some.1 hpb1_2
          replace hm := hm.sh_up (Heap.le_trans hle1_27 hle1_28) 2 rfl
          refine td_ef hf rfl rfl rfl rfl (e_appendSh (α := Mfn) (xs := pb1_1) (ys := ([f] : List Mfn)) 0 et_97 hf hm rfl (hm.ow_rep 2 rfl) rfl rfl rfl h1_19) ?_
          clear hf a; rintro v1_47 w1_86 a hm hf
          rw [h1_19e] at hm
          refine ⟨fun h => absurd h (by decide), ?_⟩
          obtain ⟨p1_19, c1_19, he, hl1_19⟩ := ro_slice (sh_read (Heap.le_trans (Heap.le_refl _) hm.lez) (hm.ow_rep 0 rfl))
          subst he
          refine td_p hf rfl rfl rfl rfl (fun w => y_build (vs := [(0, (.slice p1_19 pb1_2.length c1_19))]) (cs := #[(.slice p1_19 pb1_2.length c1_19)]) rfl rfl (by kernel_rfl)) ?_
          clear hf a; intro a hf
          refine te_one ?_
          refine td_ef0 hf rfl rfl rfl (e_storeN 1 hf hm rfl Tryd.sizeOf99 rfl rfl rfl (one_cons rfl one_nil) rfl rfl) ?_
          clear hf a; rintro _ w1_87 a hm hf
          refine ⟨fun h => absurd h (by decide), ?_⟩
          clear hS; refine td_end ?_
          refine x_then_n ?_
          obtain rfl := Option.some.inj hq0_1
          exact ⟨hz1_28, b1_34, (.slice p1_19 pb1_2.length c1_19), (Heap.le_trans hle1_27 hle1_28), hf.sub ⟨rfl, rfl, trivial⟩, hm.pick [3, 1, 0, 4] (by decide) rfl⟩
        refine te_one ?_
        refine td_ef hf rfl rfl rfl rfl (e_alloc hm Tryd.zeroValue99 rfl rfl) ?_
        clear hf a; rintro _ w1_88 a ⟨b1_36, rfl, hm⟩ hf
        clear hS
        have hS : Mem w0 hz _ [blk b0_1 [(.int .i64 (f.params)), (.int .i64 (f.slots)), (.slice p0_1 f.ins.length c0_1)] 35, junk w0 hz] := hm.pick [2, 3] (by decide) rfl
        refine ⟨fun _ => hS, ?_⟩
        refine te_one ?_
        refine td_ef hf rfl rfl rfl rfl (e_build (vs := #[(0, (.agg #[(.int .i64 (22)), (.int .i64 (0)), (.int .i64 (0)), (.int .i64 (0)), (.int .i64 (0))]))]) (cs := [(.int .i64 (22)), (.int .i64 (0)), (.int .i64 (0)), (.int .i64 (0)), (.int .i64 (0))]) et_33 hf hm rfl rfl (by kernel_rfl) rfl rfl) ?_
        clear hf a; rintro _ w1_89 a ⟨b1_37, rfl, hm⟩ hf
        replace hm := hm.lit (xs := ([(⟨22, 0, 0, 0, 0⟩ : Mins)] : List Mins)) 0 rfl rfl rfl rfl
        clear hS
        have hS : Mem w0 hz _ [blk b0_1 [(.int .i64 (f.params)), (.int .i64 (f.slots)), (.slice p0_1 f.ins.length c0_1)] 35, junk w0 hz] := hm.pick [3, 4] (by decide) rfl
        refine ⟨fun _ => hS, ?_⟩
        refine td_p hf rfl rfl rfl rfl (fun w => y_build (vs := [(2, (.slice (some ⟨b1_37, 0, none⟩) 1 1))]) (cs := #[(.int .i64 (0)), (.int .i64 (0)), (.slice (some ⟨b1_37, 0, none⟩) 1 1)]) rfl rfl (by kernel_rfl)) ?_
        clear hf a; intro a hf
        refine te_one ?_
        refine td_ef hf rfl rfl rfl rfl (e_build (vs := #[(0, (.agg #[(.int .i64 (0)), (.int .i64 (0)), (.slice (some ⟨b1_37, 0, none⟩) 1 1)]))]) (cs := [(.int .i64 (0)), (.int .i64 (0)), (.slice (some ⟨b1_37, 0, none⟩) 1 1)]) et_97 hf hm rfl rfl (by kernel_rfl) rfl rfl) ?_
        clear hf a; rintro _ w1_90 a ⟨b1_38, rfl, hm⟩ hf
        replace hm := hm.els_nil (α := Mfn)
        replace hm := hm.own0 (c := [(.int .i64 (0))]) (x := (0 : Int)) (fun h => Flat.own_iff.2 rfl)
        replace hm := hm.own0 (c := [(.int .i64 (0))]) (x := (0 : Int)) (fun h => Flat.own_iff.2 rfl)
        replace hm := (hm.pair (x := (0 : Int)) (y := (([(⟨22, 0, 0, 0, 0⟩ : Mins)] : List Mins) : List Mins)) 0 4 (by decide) rfl rfl).pick (L' := [ow [(.int .i64 (0)), (.slice (some ⟨b1_37, 0, none⟩) 1 1)] ((0, ([(⟨22, 0, 0, 0, 0⟩ : Mins)] : List Mins)) : Int × (List Mins)), ow [(.int .i64 (0))] (0 : Int), els [] ([] : List Mfn), blk b1_38 [(.int .i64 (0)), (.int .i64 (0)), (.slice (some ⟨b1_37, 0, none⟩) 1 1)] 35, blk b1_36 [(.slice none 0 0)] 99, ow (α := List (Sh hz Mfn)) [(.slice (some ⟨b1_28, 0, none⟩) 1 1)] ([f] : List Mfn), blk b0_1 [(.int .i64 (f.params)), (.int .i64 (f.slots)), (.slice p0_1 f.ins.length c0_1)] 35, junk w0 hz]) [0, 1, 2, 3, 5, 6, 7, 8] (by decide) rfl
        replace hm := (hm.pair (x := (0 : Int)) (y := ((0, ([(⟨22, 0, 0, 0, 0⟩ : Mins)] : List Mins)) : Int × (List Mins))) 1 0 (by decide) rfl rfl).pick (L' := [ow [(.int .i64 (0)), (.int .i64 (0)), (.slice (some ⟨b1_37, 0, none⟩) 1 1)] ((0, (0, ([(⟨22, 0, 0, 0, 0⟩ : Mins)] : List Mins))) : Int × Int × (List Mins)), els [] ([] : List Mfn), blk b1_38 [(.int .i64 (0)), (.int .i64 (0)), (.slice (some ⟨b1_37, 0, none⟩) 1 1)] 35, blk b1_36 [(.slice none 0 0)] 99, ow (α := List (Sh hz Mfn)) [(.slice (some ⟨b1_28, 0, none⟩) 1 1)] ([f] : List Mfn), blk b0_1 [(.int .i64 (f.params)), (.int .i64 (f.slots)), (.slice p0_1 f.ins.length c0_1)] 35, junk w0 hz]) [1, 2, 3, 4, 5, 6, 7] (by decide) rfl
        replace hm := hm.imp (c' := ow [(.int .i64 (0)), (.int .i64 (0)), (.slice (some ⟨b1_37, 0, none⟩) 1 1)] ((⟨0, 0, ([(⟨22, 0, 0, 0, 0⟩ : Mins)] : List Mins)⟩ : Mfn) : Mfn)) 0 rfl (fun F h0 => h0)
        replace hm := (hm.els_cons 1 0 (by decide) rfl rfl).pick (L' := [els [(.int .i64 (0)), (.int .i64 (0)), (.slice (some ⟨b1_37, 0, none⟩) 1 1)] ([(⟨0, 0, ([(⟨22, 0, 0, 0, 0⟩ : Mins)] : List Mins)⟩ : Mfn)] : List Mfn), blk b1_38 [(.int .i64 (0)), (.int .i64 (0)), (.slice (some ⟨b1_37, 0, none⟩) 1 1)] 35, blk b1_36 [(.slice none 0 0)] 99, ow (α := List (Sh hz Mfn)) [(.slice (some ⟨b1_28, 0, none⟩) 1 1)] ([f] : List Mfn), blk b0_1 [(.int .i64 (f.params)), (.int .i64 (f.slots)), (.slice p0_1 f.ins.length c0_1)] 35, junk w0 hz]) [1, 2, 3, 4, 5, 6] (by decide) rfl
        replace hm := (hm.lit_els 1 0 (by decide) rfl rfl rfl rfl).pick (L' := [ow [(.slice (some ⟨b1_38, 0, none⟩) 1 1)] ([(⟨0, 0, ([(⟨22, 0, 0, 0, 0⟩ : Mins)] : List Mins)⟩ : Mfn)] : List Mfn), blk b1_36 [(.slice none 0 0)] 99, ow (α := List (Sh hz Mfn)) [(.slice (some ⟨b1_28, 0, none⟩) 1 1)] ([f] : List Mfn), blk b0_1 [(.int .i64 (f.params)), (.int .i64 (f.slots)), (.slice p0_1 f.ins.length c0_1)] 35, junk w0 hz]) [1, 2, 3, 4, 5] (by decide) rfl
        clear hS
        have hS : Mem w0 hz _ [blk b0_1 [(.int .i64 (f.params)), (.int .i64 (f.slots)), (.slice p0_1 f.ins.length c0_1)] 35, junk w0 hz] := hm.pick [3, 4] (by decide) rfl
        refine ⟨fun _ => hS, ?_⟩
        refine te_one ?_
        obtain ⟨hz1_29, hle1_29, hz_r1_15, hm⟩ := hm.freeze 0 rfl
        replace hm := hm.pick (L' := [blk b1_36 [(.slice none 0 0)] 99, ow (α := List (Sh hz Mfn)) [(.slice (some ⟨b1_28, 0, none⟩) 1 1)] ([f] : List Mfn), blk b0_1 [(.int .i64 (f.params)), (.int .i64 (f.slots)), (.slice p0_1 f.ins.length c0_1)] 35, junk w0 hz]) [1, 2, 3, 4] (by decide) rfl
        replace hz_r1_15 : GT.rep hz1_29 [(.slice (some ⟨b1_38, 0, none⟩) 1 1)] ([(⟨0, 0, ([(⟨22, 0, 0, 0, 0⟩ : Mins)] : List Mins)⟩ : Mfn)] : List Mfn) := fz_ow hz_r1_15
        refine td_ef hf rfl rfl rfl rfl (e_call hf rfl Tryd.call69 rfl (slices_Repeat_S_impl_Mfn_impl_Mfn_ok _ _ hm.lez ([(⟨0, 0, ([(⟨22, 0, 0, 0, 0⟩ : Mins)] : List Mins)⟩ : Mfn)] : List Mfn) (.slice (some ⟨b1_38, 0, none⟩) 1 1) hz_r1_15 xs0_1  _ hpb1_1)) ?_
        clear hf a; rintro v1_48 w1_91 a ho1_15 hf
        obtain ⟨_, hz1_30, rfl, hle1_30, hB⟩ := ho1_15
        replace hm := Mem.giveA hm hle1_30 hB; clear hB
        clear hS
        have hS : Mem w0 hz _ [blk b0_1 [(.int .i64 (f.params)), (.int .i64 (f.slots)), (.slice p0_1 f.ins.length c0_1)] 35, junk w0 hz] := (hm.thaw (Heap.le_trans hle1_29 hle1_30)).pick [3, 4] (by decide) rfl
        refine ⟨fun _ => hS, ?_⟩
        refine te_one ?_
        obtain ⟨h1_20, h1_20e⟩ := appM_some.1 hpb1_2
        replace hm := hm.sh_up (Heap.le_trans hle1_29 hle1_30) 2 rfl
        refine td_ef hf rfl rfl rfl rfl (e_appendSh (α := Mfn) (xs := pb1_1) (ys := ([f] : List Mfn)) 0 et_97 hf hm rfl (hm.ow_rep 2 rfl) rfl rfl rfl h1_20) ?_
        clear hf a; rintro v1_50 w1_92 a hm hf
        rw [h1_20e] at hm
        refine ⟨fun h => absurd h (by decide), ?_⟩
        obtain ⟨p1_20, c1_20, he, hl1_20⟩ := ro_slice (sh_read (Heap.le_trans (Heap.le_refl _) hm.lez) (hm.ow_rep 0 rfl))
        subst he
        refine td_p hf rfl rfl rfl rfl (fun w => y_build (vs := [(0, (.slice p1_20 pb1_2.length c1_20))]) (cs := #[(.slice p1_20 pb1_2.length c1_20)]) rfl rfl (by kernel_rfl)) ?_
        clear hf a; intro a hf
        refine te_one ?_
        refine td_ef0 hf rfl rfl rfl (e_storeN 1 hf hm rfl Tryd.sizeOf99 rfl rfl rfl (one_cons rfl one_nil) rfl rfl) ?_
        clear hf a; rintro _ w1_93 a hm hf
        refine ⟨fun h => absurd h (by decide), ?_⟩
        clear hS; refine td_end ?_
        refine x_then_n ?_
        obtain rfl := Option.some.inj hq0_1
        exact ⟨hz1_30, b1_36, (.slice p1_20 pb1_2.length c1_20), (Heap.le_trans hle1_29 hle1_30), hf.sub ⟨rfl, rfl, trivial⟩, hm.pick [3, 1, 0, 4] (by decide) rfl⟩
      refine te_one ?_
      refine td_ef hf rfl rfl rfl rfl (e_alloc hm Tryd.zeroValue99 rfl rfl) ?_
      clear hf a; rintro _ w1_94 a ⟨b1_39, rfl, hm⟩ hf
      clear hS
      have hS : Mem w0 hz _ [blk b0_1 [(.int .i64 (f.params)), (.int .i64 (f.slots)), (.slice p0_1 f.ins.length c0_1)] 35, junk w0 hz] := hm.pick [1, 2] (by decide) rfl
      refine ⟨fun _ => hS, ?_⟩
      refine te_more ?_ ?_
      ·
        refine td_ef hf rfl rfl rfl rfl (e_build (vs := #[(0, (.agg #[(.int .i64 (22)), (.int .i64 (0)), (.int .i64 (0)), (.int .i64 (0)), (.int .i64 (0))]))]) (cs := [(.int .i64 (22)), (.int .i64 (0)), (.int .i64 (0)), (.int .i64 (0)), (.int .i64 (0))]) et_33 hf hm rfl rfl (by kernel_rfl) rfl rfl) ?_
        clear hf a; rintro _ w1_95 a ⟨b1_40, rfl, hm⟩ hf
        replace hm := hm.lit (xs := ([(⟨22, 0, 0, 0, 0⟩ : Mins)] : List Mins)) 0 rfl rfl rfl rfl
        clear hS
        have hS : Mem w0 hz _ [blk b0_1 [(.int .i64 (f.params)), (.int .i64 (f.slots)), (.slice p0_1 f.ins.length c0_1)] 35, junk w0 hz] := hm.pick [2, 3] (by decide) rfl
        refine ⟨fun _ => hS, ?_⟩
        refine td_p hf rfl rfl rfl rfl (fun w => y_build (vs := [(2, (.slice (some ⟨b1_40, 0, none⟩) 1 1))]) (cs := #[(.int .i64 (0)), (.int .i64 (0)), (.slice (some ⟨b1_40, 0, none⟩) 1 1)]) rfl rfl (by kernel_rfl)) ?_
        clear hf a; intro a hf
        refine te_more ?_ ?_
        ·
          refine td_ef hf rfl rfl rfl rfl (e_build (vs := #[(0, (.agg #[(.int .i64 (0)), (.int .i64 (0)), (.slice (some ⟨b1_40, 0, none⟩) 1 1)]))]) (cs := [(.int .i64 (0)), (.int .i64 (0)), (.slice (some ⟨b1_40, 0, none⟩) 1 1)]) et_97 hf hm rfl rfl (by kernel_rfl) rfl rfl) ?_
          clear hf a; rintro _ w1_96 a ⟨b1_41, rfl, hm⟩ hf
          replace hm := hm.els_nil (α := Mfn)
          replace hm := hm.own0 (c := [(.int .i64 (0))]) (x := (0 : Int)) (fun h => Flat.own_iff.2 rfl)
          replace hm := hm.own0 (c := [(.int .i64 (0))]) (x := (0 : Int)) (fun h => Flat.own_iff.2 rfl)
          replace hm := (hm.pair (x := (0 : Int)) (y := (([(⟨22, 0, 0, 0, 0⟩ : Mins)] : List Mins) : List Mins)) 0 4 (by decide) rfl rfl).pick (L' := [ow [(.int .i64 (0)), (.slice (some ⟨b1_40, 0, none⟩) 1 1)] ((0, ([(⟨22, 0, 0, 0, 0⟩ : Mins)] : List Mins)) : Int × (List Mins)), ow [(.int .i64 (0))] (0 : Int), els [] ([] : List Mfn), blk b1_41 [(.int .i64 (0)), (.int .i64 (0)), (.slice (some ⟨b1_40, 0, none⟩) 1 1)] 35, blk b1_39 [(.slice none 0 0)] 99, blk b0_1 [(.int .i64 (f.params)), (.int .i64 (f.slots)), (.slice p0_1 f.ins.length c0_1)] 35, junk w0 hz]) [0, 1, 2, 3, 5, 6, 7] (by decide) rfl
          replace hm := (hm.pair (x := (0 : Int)) (y := ((0, ([(⟨22, 0, 0, 0, 0⟩ : Mins)] : List Mins)) : Int × (List Mins))) 1 0 (by decide) rfl rfl).pick (L' := [ow [(.int .i64 (0)), (.int .i64 (0)), (.slice (some ⟨b1_40, 0, none⟩) 1 1)] ((0, (0, ([(⟨22, 0, 0, 0, 0⟩ : Mins)] : List Mins))) : Int × Int × (List Mins)), els [] ([] : List Mfn), blk b1_41 [(.int .i64 (0)), (.int .i64 (0)), (.slice (some ⟨b1_40, 0, none⟩) 1 1)] 35, blk b1_39 [(.slice none 0 0)] 99, blk b0_1 [(.int .i64 (f.params)), (.int .i64 (f.slots)), (.slice p0_1 f.ins.length c0_1)] 35, junk w0 hz]) [1, 2, 3, 4, 5, 6] (by decide) rfl
          replace hm := hm.imp (c' := ow [(.int .i64 (0)), (.int .i64 (0)), (.slice (some ⟨b1_40, 0, none⟩) 1 1)] ((⟨0, 0, ([(⟨22, 0, 0, 0, 0⟩ : Mins)] : List Mins)⟩ : Mfn) : Mfn)) 0 rfl (fun F h0 => h0)
          replace hm := (hm.els_cons 1 0 (by decide) rfl rfl).pick (L' := [els [(.int .i64 (0)), (.int .i64 (0)), (.slice (some ⟨b1_40, 0, none⟩) 1 1)] ([(⟨0, 0, ([(⟨22, 0, 0, 0, 0⟩ : Mins)] : List Mins)⟩ : Mfn)] : List Mfn), blk b1_41 [(.int .i64 (0)), (.int .i64 (0)), (.slice (some ⟨b1_40, 0, none⟩) 1 1)] 35, blk b1_39 [(.slice none 0 0)] 99, blk b0_1 [(.int .i64 (f.params)), (.int .i64 (f.slots)), (.slice p0_1 f.ins.length c0_1)] 35, junk w0 hz]) [1, 2, 3, 4, 5] (by decide) rfl
          replace hm := (hm.lit_els 1 0 (by decide) rfl rfl rfl rfl).pick (L' := [ow [(.slice (some ⟨b1_41, 0, none⟩) 1 1)] ([(⟨0, 0, ([(⟨22, 0, 0, 0, 0⟩ : Mins)] : List Mins)⟩ : Mfn)] : List Mfn), blk b1_39 [(.slice none 0 0)] 99, blk b0_1 [(.int .i64 (f.params)), (.int .i64 (f.slots)), (.slice p0_1 f.ins.length c0_1)] 35, junk w0 hz]) [1, 2, 3, 4] (by decide) rfl
          clear hS
          have hS : Mem w0 hz _ [blk b0_1 [(.int .i64 (f.params)), (.int .i64 (f.slots)), (.slice p0_1 f.ins.length c0_1)] 35, junk w0 hz] := hm.pick [2, 3] (by decide) rfl
          refine ⟨fun _ => hS, ?_⟩
          refine te_more ?_ ?_
          ·
            obtain ⟨hz1_31, hle1_31, hz_r1_16, hm⟩ := hm.freeze 0 rfl
            replace hm := hm.pick (L' := [blk b1_39 [(.slice none 0 0)] 99, blk b0_1 [(.int .i64 (f.params)), (.int .i64 (f.slots)), (.slice p0_1 f.ins.length c0_1)] 35, junk w0 hz]) [1, 2, 3] (by decide) rfl
            replace hz_r1_16 : GT.rep hz1_31 [(.slice (some ⟨b1_41, 0, none⟩) 1 1)] ([(⟨0, 0, ([(⟨22, 0, 0, 0, 0⟩ : Mins)] : List Mins)⟩ : Mfn)] : List Mfn) := fz_ow hz_r1_16
            refine td_ef hf rfl rfl rfl rfl (e_call hf rfl Tryd.call69 rfl (slices_Repeat_S_impl_Mfn_impl_Mfn_ok _ _ hm.lez ([(⟨0, 0, ([(⟨22, 0, 0, 0, 0⟩ : Mins)] : List Mins)⟩ : Mfn)] : List Mfn) (.slice (some ⟨b1_41, 0, none⟩) 1 1) hz_r1_16 xs0_1  _ hpb1_1)) ?_
            clear hf a; rintro v1_51 w1_97 a ho1_16 hf
            obtain ⟨_, hz1_32, rfl, hle1_32, hB⟩ := ho1_16
            replace hm := Mem.giveA hm hle1_32 hB; clear hB
            clear hS
            have hS : Mem w0 hz _ [blk b0_1 [(.int .i64 (f.params)), (.int .i64 (f.slots)), (.slice p0_1 f.ins.length c0_1)] 35, junk w0 hz] := (hm.thaw (Heap.le_trans hle1_31 hle1_32)).pick [2, 3] (by decide) rfl
            refine ⟨fun _ => hS, ?_⟩
            refine te_one ?_
            refine td_ef hf rfl rfl rfl rfl (e_build (vs := #[(0, (.agg #[(.int .i64 (f.params)), (.int .i64 (f.slots)), (.slice p0_1 f.ins.length c0_1)]))]) (cs := [(.int .i64 (f.params)), (.int .i64 (f.slots)), (.slice p0_1 f.ins.length c0_1)]) et_97 hf hm rfl rfl (by kernel_rfl) rfl rfl) ?_
            clear hf a; rintro _ w1_98 a ⟨b1_42, rfl, hm⟩ hf
            replace hm := hm.litSh (α := Mfn) (xs := [f]) 0 rfl (.cons (c := [(.int .i64 (f.params)), (.int .i64 (f.slots)), (.slice p0_1 f.ins.length c0_1)]) (x := (f : Mfn)) ⟨[(.int .i64 (f.params))], [(.int .i64 (f.slots)), (.slice p0_1 f.ins.length c0_1)], rfl, (Flat.rep_iff.2 rfl), ⟨[(.int .i64 (f.slots))], [(.slice p0_1 f.ins.length c0_1)], rfl, (Flat.rep_iff.2 rfl), (GT.mono (Heap.le_trans hle1_31 hle1_32) h1)⟩⟩ .nil) rfl rfl
            refine ⟨fun h => absurd h (by decide), ?_⟩
            refine te_one ?_
            obtain ⟨h1_21, h1_21e⟩ := appM_some.1 hpb1_2
            refine td_ef hf rfl rfl rfl rfl (e_appendSh (α := Mfn) (xs := pb1_1) (ys := ([f] : List Mfn)) 1 et_97 hf hm rfl (hm.ow_rep 0 rfl) rfl rfl rfl h1_21) ?_
            clear hf a; rintro v1_53 w1_99 a hm hf
            rw [h1_21e] at hm
            refine ⟨fun h => absurd h (by decide), ?_⟩
            obtain ⟨p1_21, c1_21, he, hl1_21⟩ := ro_slice (sh_read (Heap.le_trans (Heap.le_refl _) hm.lez) (hm.ow_rep 1 rfl))
            subst he
            refine td_p hf rfl rfl rfl rfl (fun w => y_build (vs := [(0, (.slice p1_21 pb1_2.length c1_21))]) (cs := #[(.slice p1_21 pb1_2.length c1_21)]) rfl rfl (by kernel_rfl)) ?_
            clear hf a; intro a hf
            refine te_one ?_
            refine td_ef0 hf rfl rfl rfl (e_storeN 2 hf hm rfl Tryd.sizeOf99 rfl rfl rfl (one_cons rfl one_nil) rfl rfl) ?_
            clear hf a; rintro _ w1_100 a hm hf
            refine ⟨fun h => absurd h (by decide), ?_⟩
            clear hS; refine td_end ?_
            refine x_then_n ?_
            obtain rfl := Option.some.inj hq0_1
            exact ⟨hz1_32, b1_39, (.slice p1_21 pb1_2.length c1_21), (Heap.le_trans hle1_31 hle1_32), hf.sub ⟨rfl, rfl, trivial⟩, hm.pick [3, 2, 1, 4] (by decide) rfl⟩
          refine te_one ?_
          refine td_ef hf rfl rfl rfl rfl (e_build (vs := #[(0, (.agg #[(.int .i64 (f.params)), (.int .i64 (f.slots)), (.slice p0_1 f.ins.length c0_1)]))]) (cs := [(.int .i64 (f.params)), (.int .i64 (f.slots)), (.slice p0_1 f.ins.length c0_1)]) et_97 hf hm rfl rfl (by kernel_rfl) rfl rfl) ?_
          clear hf a; rintro _ w1_101 a ⟨b1_43, rfl, hm⟩ hf
          replace hm := hm.litSh (α := Mfn) (xs := [f]) 0 rfl (.cons (c := [(.int .i64 (f.params)), (.int .i64 (f.slots)), (.slice p0_1 f.ins.length c0_1)]) (x := (f : Mfn)) ⟨[(.int .i64 (f.params))], [(.int .i64 (f.slots)), (.slice p0_1 f.ins.length c0_1)], rfl, (Flat.rep_iff.2 rfl), ⟨[(.int .i64 (f.slots))], [(.slice p0_1 f.ins.length c0_1)], rfl, (Flat.rep_iff.2 rfl), h1⟩⟩ .nil) rfl rfl
          refine ⟨fun h => absurd h (by decide), ?_⟩
          refine te_one ?_
          obtain ⟨hz1_33, hle1_33, hz_r1_17, hm⟩ := hm.freeze 1 rfl
          replace hm := hm.pick (L' := [ow (α := List (Sh hz Mfn)) [(.slice (some ⟨b1_43, 0, none⟩) 1 1)] ([f] : List Mfn), blk b1_39 [(.slice none 0 0)] 99, blk b0_1 [(.int .i64 (f.params)), (.int .i64 (f.slots)), (.slice p0_1 f.ins.length c0_1)] 35, junk w0 hz]) [0, 2, 3, 4] (by decide) rfl
          replace hz_r1_17 : GT.rep hz1_33 [(.slice (some ⟨b1_41, 0, none⟩) 1 1)] ([(⟨0, 0, ([(⟨22, 0, 0, 0, 0⟩ : Mins)] : List Mins)⟩ : Mfn)] : List Mfn) := fz_ow hz_r1_17
          refine td_ef hf rfl rfl rfl rfl (e_call hf rfl Tryd.call69 rfl (slices_Repeat_S_impl_Mfn_impl_Mfn_ok _ _ hm.lez ([(⟨0, 0, ([(⟨22, 0, 0, 0, 0⟩ : Mins)] : List Mins)⟩ : Mfn)] : List Mfn) (.slice (some ⟨b1_41, 0, none⟩) 1 1) hz_r1_17 xs0_1  _ hpb1_1)) ?_
          clear hf a; rintro v1_54 w1_102 a ho1_17 hf
          obtain ⟨_, hz1_34, rfl, hle1_34, hB⟩ := ho1_17
          replace hm := Mem.giveA hm hle1_34 hB; clear hB
          clear hS
          have hS : Mem w0 hz _ [blk b0_1 [(.int .i64 (f.params)), (.int .i64 (f.slots)), (.slice p0_1 f.ins.length c0_1)] 35, junk w0 hz] := (hm.thaw (Heap.le_trans hle1_33 hle1_34)).pick [3, 4] (by decide) rfl
          refine ⟨fun _ => hS, ?_⟩
          refine te_one ?_
          obtain ⟨h1_22, h1_22e⟩ := appM_some.1 hpb1_2
          replace hm := hm.sh_up (Heap.le_trans hle1_33 hle1_34) 1 rfl
          refine td_ef hf rfl rfl rfl rfl (e_appendSh (α := Mfn) (xs := pb1_1) (ys := ([f] : List Mfn)) 0 et_97 hf hm rfl (hm.ow_rep 1 rfl) rfl rfl rfl h1_22) ?_
          clear hf a; rintro v1_56 w1_103 a hm hf
          rw [h1_22e] at hm
          refine ⟨fun h => absurd h (by decide), ?_⟩
          obtain ⟨p1_22, c1_22, he, hl1_22⟩ := ro_slice (sh_read (Heap.le_trans (Heap.le_refl _) hm.lez) (hm.ow_rep 0 rfl))
          subst he
          refine td_p hf rfl rfl rfl rfl (fun w => y_build (vs := [(0, (.slice p1_22 pb1_2.length c1_22))]) (cs := #[(.slice p1_22 pb1_2.length c1_22)]) rfl rfl (by kernel_rfl)) ?_
          clear hf a; intro a hf
          refine te_one ?_
          refine td_ef0 hf rfl rfl rfl (e_storeN 2 hf hm rfl Tryd.sizeOf99 rfl rfl rfl (one_cons rfl one_nil) rfl rfl) ?_
          clear hf a; rintro _ w1_104 a hm hf
          refine ⟨fun h => absurd h (by decide), ?_⟩
          clear hS; refine td_end ?_
          refine x_then_n ?_
          obtain rfl := Option.some.inj hq0_1
          exact ⟨hz1_34, b1_39, (.slice p1_22 pb1_2.length c1_22), (Heap.le_trans hle1_33 hle1_34), hf.sub ⟨rfl, rfl, trivial⟩, hm.pick [3, 2, 0, 4] (by decide) rfl⟩
        refine te_one ?_
        refine td_ef hf rfl rfl rfl rfl (e_build (vs := #[(0, (.agg #[(.int .i64 (f.params)), (.int .i64 (f.slots)), (.slice p0_1 f.ins.length c0_1)]))]) (cs := [(.int .i64 (f.params)), (.int .i64 (f.slots)), (.slice p0_1 f.ins.length c0_1)]) et_97 hf hm rfl rfl (by kernel_rfl) rfl rfl) ?_
        clear hf a; rintro _ w1_105 a ⟨b1_44, rfl, hm⟩ hf
        replace hm := hm.litSh (α := Mfn) (xs := [f]) 0 rfl (.cons (c := [(.int .i64 (f.params)), (.int .i64 (f.slots)), (.slice p0_1 f.ins.length c0_1)]) (x := (f : Mfn)) ⟨[(.int .i64 (f.params))], [(.int .i64 (f.slots)), (.slice p0_1 f.ins.length c0_1)], rfl, (Flat.rep_iff.2 rfl), ⟨[(.int .i64 (f.slots))], [(.slice p0_1 f.ins.length c0_1)], rfl, (Flat.rep_iff.2 rfl), h1⟩⟩ .nil) rfl rfl
        refine ⟨fun h => absurd h (by decide), ?_⟩
        refine te_one ?_
        refine td_ef hf rfl rfl rfl rfl (e_build (vs := #[(0, (.agg #[(.int .i64 (0)), (.int .i64 (0)), (.slice (some ⟨b1_40, 0, none⟩) 1 1)]))]) (cs := [(.int .i64 (0)), (.int .i64 (0)), (.slice (some ⟨b1_40, 0, none⟩) 1 1)]) et_97 hf hm rfl rfl (by kernel_rfl) rfl rfl) ?_
        clear hf a; rintro _ w1_106 a ⟨b1_45, rfl, hm⟩ hf
        replace hm := hm.els_nil (α := Mfn)
        replace hm := hm.own0 (c := [(.int .i64 (0))]) (x := (0 : Int)) (fun h => Flat.own_iff.2 rfl)
        replace hm := hm.own0 (c := [(.int .i64 (0))]) (x := (0 : Int)) (fun h => Flat.own_iff.2 rfl)
        replace hm := (hm.pair (x := (0 : Int)) (y := (([(⟨22, 0, 0, 0, 0⟩ : Mins)] : List Mins) : List Mins)) 0 5 (by decide) rfl rfl).pick (L' := [ow [(.int .i64 (0)), (.slice (some ⟨b1_40, 0, none⟩) 1 1)] ((0, ([(⟨22, 0, 0, 0, 0⟩ : Mins)] : List Mins)) : Int × (List Mins)), ow [(.int .i64 (0))] (0 : Int), els [] ([] : List Mfn), blk b1_45 [(.int .i64 (0)), (.int .i64 (0)), (.slice (some ⟨b1_40, 0, none⟩) 1 1)] 35, ow (α := List (Sh hz Mfn)) [(.slice (some ⟨b1_44, 0, none⟩) 1 1)] ([f] : List Mfn), blk b1_39 [(.slice none 0 0)] 99, blk b0_1 [(.int .i64 (f.params)), (.int .i64 (f.slots)), (.slice p0_1 f.ins.length c0_1)] 35, junk w0 hz]) [0, 1, 2, 3, 4, 6, 7, 8] (by decide) rfl
        replace hm := (hm.pair (x := (0 : Int)) (y := ((0, ([(⟨22, 0, 0, 0, 0⟩ : Mins)] : List Mins)) : Int × (List Mins))) 1 0 (by decide) rfl rfl).pick (L' := [ow [(.int .i64 (0)), (.int .i64 (0)), (.slice (some ⟨b1_40, 0, none⟩) 1 1)] ((0, (0, ([(⟨22, 0, 0, 0, 0⟩ : Mins)] : List Mins))) : Int × Int × (List Mins)), els [] ([] : List Mfn), blk b1_45 [(.int .i64 (0)), (.int .i64 (0)), (.slice (some ⟨b1_40, 0, none⟩) 1 1)] 35, ow (α := List (Sh hz Mfn)) [(.slice (some ⟨b1_44, 0, none⟩) 1 1)] ([f] : List Mfn), blk b1_39 [(.slice none 0 0)] 99, blk b0_1 [(.int .i64 (f.params)), (.int .i64 (f.slots)), (.slice p0_1 f.ins.length c0_1)] 35, junk w0 hz]) [1, 2, 3, 4, 5, 6, 7] (by decide) rfl
        replace hm := hm.imp (c' := ow [(.int .i64 (0)), (.int .i64 (0)), (.slice (some ⟨b1_40, 0, none⟩) 1 1)] ((⟨0, 0, ([(⟨22, 0, 0, 0, 0⟩ : Mins)] : List Mins)⟩ : Mfn) : Mfn)) 0 rfl (fun F h0 => h0)
        replace hm := (hm.els_cons 1 0 (by decide) rfl rfl).pick (L' := [els [(.int .i64 (0)), (.int .i64 (0)), (.slice (some ⟨b1_40, 0, none⟩) 1 1)] ([(⟨0, 0, ([(⟨22, 0, 0, 0, 0⟩ : Mins)] : List Mins)⟩ : Mfn)] : List Mfn), blk b1_45 [(.int .i64 (0)), (.int .i64 (0)), (.slice (some ⟨b1_40, 0, none⟩) 1 1)] 35, ow (α := List (Sh hz Mfn)) [(.slice (some ⟨b1_44, 0, none⟩) 1 1)] ([f] : List Mfn), blk b1_39 [(.slice none 0 0)] 99, blk b0_1 [(.int .i64 (f.params)), (.int .i64 (f.slots)), (.slice p0_1 f.ins.length c0_1)] 35, junk w0 hz]) [1, 2, 3, 4, 5, 6] (by decide) rfl
        replace hm := (hm.lit_els 1 0 (by decide) rfl rfl rfl rfl).pick (L' := [ow [(.slice (some ⟨b1_45, 0, none⟩) 1 1)] ([(⟨0, 0, ([(⟨22, 0, 0, 0, 0⟩ : Mins)] : List Mins)⟩ : Mfn)] : List Mfn), ow (α := List (Sh hz Mfn)) [(.slice (some ⟨b1_44, 0, none⟩) 1 1)] ([f] : List Mfn), blk b1_39 [(.slice none 0 0)] 99, blk b0_1 [(.int .i64 (f.params)), (.int .i64 (f.slots)), (.slice p0_1 f.ins.length c0_1)] 35, junk w0 hz]) [1, 2, 3, 4, 5] (by decide) rfl
        clear hS
        have hS : Mem w0 hz _ [blk b0_1 [(.int .i64 (f.params)), (.int .i64 (f.slots)), (.slice p0_1 f.ins.length c0_1)] 35, junk w0 hz] := hm.pick [3, 4] (by decide) rfl
        refine ⟨fun _ => hS, ?_⟩
        refine te_one ?_
        obtain ⟨hz1_35, hle1_35, hz_r1_18, hm⟩ := hm.freeze 0 rfl
        replace hm := hm.pick (L' := [ow (α := List (Sh hz Mfn)) [(.slice (some ⟨b1_44, 0, none⟩) 1 1)] ([f] : List Mfn), blk b1_39 [(.slice none 0 0)] 99, blk b0_1 [(.int .i64 (f.params)), (.int .i64 (f.slots)), (.slice p0_1 f.ins.length c0_1)] 35, junk w0 hz]) [1, 2, 3, 4] (by decide) rfl
        replace hz_r1_18 : GT.rep hz1_35 [(.slice (some ⟨b1_45, 0, none⟩) 1 1)] ([(⟨0, 0, ([(⟨22, 0, 0, 0, 0⟩ : Mins)] : List Mins)⟩ : Mfn)] : List Mfn) := fz_ow hz_r1_18
        refine td_ef hf rfl rfl rfl rfl (e_call hf rfl Tryd.call69 rfl (slices_Repeat_S_impl_Mfn_impl_Mfn_ok _ _ hm.lez ([(⟨0, 0, ([(⟨22, 0, 0, 0, 0⟩ : Mins)] : List Mins)⟩ : Mfn)] : List Mfn) (.slice (some ⟨b1_45, 0, none⟩) 1 1) hz_r1_18 xs0_1  _ hpb1_1)) ?_
        clear hf a; rintro v1_57 w1_107 a ho1_18 hf
        obtain ⟨_, hz1_36, rfl, hle1_36, hB⟩ := ho1_18
        replace hm := Mem.giveA hm hle1_36 hB; clear hB
        clear hS
        have hS : Mem w0 hz _ [blk b0_1 [(.int .i64 (f.params)), (.int .i64 (f.slots)), (.slice p0_1 f.ins.length c0_1)] 35, junk w0 hz] := (hm.thaw (Heap.le_trans hle1_35 hle1_36)).pick [3, 4] (by decide) rfl
        refine ⟨fun _ => hS, ?_⟩
        refine te_one ?_
        obtain ⟨h1_23, h1_23e⟩ := appM_some.1 hpb1_2
        replace hm := hm.sh_up (Heap.le_trans hle1_35 hle1_36) 1 rfl
        refine td_ef hf rfl rfl rfl rfl (e_appendSh (α := Mfn) (xs := pb1_1) (ys := ([f] : List Mfn)) 0 et_97 hf hm rfl (hm.ow_rep 1 rfl) rfl rfl rfl h1_23) ?_
        clear hf a; rintro v1_59 w1_108 a hm hf
        rw [h1_23e] at hm
        refine ⟨fun h => absurd h (by decide), ?_⟩
        obtain ⟨p1_23, c1_23, he, hl1_23⟩ := ro_slice (sh_read (Heap.le_trans (Heap.le_refl _) hm.lez) (hm.ow_rep 0 rfl))
        subst he
        refine td_p hf rfl rfl rfl rfl (fun w => y_build (vs := [(0, (.slice p1_23 pb1_2.length c1_23))]) (cs := #[(.slice p1_23 pb1_2.length c1_23)]) rfl rfl (by kernel_rfl)) ?_
        clear hf a; intro a hf
        refine te_one ?_
        refine td_ef0 hf rfl rfl rfl (e_storeN 2 hf hm rfl Tryd.sizeOf99 rfl rfl rfl (one_cons rfl one_nil) rfl rfl) ?_
        clear hf a; rintro _ w1_109 a hm hf
        refine ⟨fun h => absurd h (by decide), ?_⟩
        clear hS; refine td_end ?_
        refine x_then_n ?_
        obtain rfl := Option.some.inj hq0_1
        exact ⟨hz1_36, b1_39, (.slice p1_23 pb1_2.length c1_23), (Heap.le_trans hle1_35 hle1_36), hf.sub ⟨rfl, rfl, trivial⟩, hm.pick [3, 2, 0, 4] (by decide) rfl⟩
      refine te_one ?_
      refine td_ef hf rfl rfl rfl rfl (e_build (vs := #[(0, (.agg #[(.int .i64 (f.params)), (.int .i64 (f.slots)), (.slice p0_1 f.ins.length c0_1)]))]) (cs := [(.int .i64 (f.params)), (.int .i64 (f.slots)), (.slice p0_1 f.ins.length c0_1)]) et_97 hf hm rfl rfl (by kernel_rfl) rfl rfl) ?_
      clear hf a; rintro _ w1_110 a ⟨b1_46, rfl, hm⟩ hf
      replace hm := hm.litSh (α := Mfn) (xs := [f]) 0 rfl (.cons (c := [(.int .i64 (f.params)), (.int .i64 (f.slots)), (.slice p0_1 f.ins.length c0_1)]) (x := (f : Mfn)) ⟨[(.int .i64 (f.params))], [(.int .i64 (f.slots)), (.slice p0_1 f.ins.length c0_1)], rfl, (Flat.rep_iff.2 rfl), ⟨[(.int .i64 (f.slots))], [(.slice p0_1 f.ins.length c0_1)], rfl, (Flat.rep_iff.2 rfl), h1⟩⟩ .nil) rfl rfl
      refine ⟨fun h => absurd h (by decide), ?_⟩
      refine te_one ?_
      refine td_ef hf rfl rfl rfl rfl (e_build (vs := #[(0, (.agg #[(.int .i64 (22)), (.int .i64 (0)), (.int .i64 (0)), (.int .i64 (0)), (.int .i64 (0))]))]) (cs := [(.int .i64 (22)), (.int .i64 (0)), (.int .i64 (0)), (.int .i64 (0)), (.int .i64 (0))]) et_33 hf hm rfl rfl (by kernel_rfl) rfl rfl) ?_
      clear hf a; rintro _ w1_111 a ⟨b1_47, rfl, hm⟩ hf
      replace hm := hm.lit (xs := ([(⟨22, 0, 0, 0, 0⟩ : Mins)] : List Mins)) 0 rfl rfl rfl rfl
      clear hS
      have hS : Mem w0 hz _ [blk b0_1 [(.int .i64 (f.params)), (.int .i64 (f.slots)), (.slice p0_1 f.ins.length c0_1)] 35, junk w0 hz] := hm.pick [3, 4] (by decide) rfl
      refine ⟨fun _ => hS, ?_⟩
      refine td_p hf rfl rfl rfl rfl (fun w => y_build (vs := [(2, (.slice (some ⟨b1_47, 0, none⟩) 1 1))]) (cs := #[(.int .i64 (0)), (.int .i64 (0)), (.slice (some ⟨b1_47, 0, none⟩) 1 1)]) rfl rfl (by kernel_rfl)) ?_
      clear hf a; intro a hf
      refine te_one ?_
      refine td_ef hf rfl rfl rfl rfl (e_build (vs := #[(0, (.agg #[(.int .i64 (0)), (.int .i64 (0)), (.slice (some ⟨b1_47, 0, none⟩) 1 1)]))]) (cs := [(.int .i64 (0)), (.int .i64 (0)), (.slice (some ⟨b1_47, 0, none⟩) 1 1)]) et_97 hf hm rfl rfl (by kernel_rfl) rfl rfl) ?_
      clear hf a; rintro _ w1_112 a ⟨b1_48, rfl, hm⟩ hf
      replace hm := hm.els_nil (α := Mfn)
      replace hm := hm.own0 (c := [(.int .i64 (0))]) (x := (0 : Int)) (fun h => Flat.own_iff.2 rfl)
      replace hm := hm.own0 (c := [(.int .i64 (0))]) (x := (0 : Int)) (fun h => Flat.own_iff.2 rfl)
      replace hm := (hm.pair (x := (0 : Int)) (y := (([(⟨22, 0, 0, 0, 0⟩ : Mins)] : List Mins) : List Mins)) 0 4 (by decide) rfl rfl).pick (L' := [ow [(.int .i64 (0)), (.slice (some ⟨b1_47, 0, none⟩) 1 1)] ((0, ([(⟨22, 0, 0, 0, 0⟩ : Mins)] : List Mins)) : Int × (List Mins)), ow [(.int .i64 (0))] (0 : Int), els [] ([] : List Mfn), blk b1_48 [(.int .i64 (0)), (.int .i64 (0)), (.slice (some ⟨b1_47, 0, none⟩) 1 1)] 35, ow (α := List (Sh hz Mfn)) [(.slice (some ⟨b1_46, 0, none⟩) 1 1)] ([f] : List Mfn), blk b1_39 [(.slice none 0 0)] 99, blk b0_1 [(.int .i64 (f.params)), (.int .i64 (f.slots)), (.slice p0_1 f.ins.length c0_1)] 35, junk w0 hz]) [0, 1, 2, 3, 5, 6, 7, 8] (by decide) rfl
      replace hm := (hm.pair (x := (0 : Int)) (y := ((0, ([(⟨22, 0, 0, 0, 0⟩ : Mins)] : List Mins)) : Int × (List Mins))) 1 0 (by decide) rfl rfl).pick (L' := [ow [(.int .i64 (0)), (.int .i64 (0)), (.slice (some ⟨b1_47, 0, none⟩) 1 1)] ((0, (0, ([(⟨22, 0, 0, 0, 0⟩ : Mins)] : List Mins))) : Int × Int × (List Mins)), els [] ([] : List Mfn), blk b1_48 [(.int .i64 (0)), (.int .i64 (0)), (.slice (some ⟨b1_47, 0, none⟩) 1 1)] 35, ow (α := List (Sh hz Mfn)) [(.slice (some ⟨b1_46, 0, none⟩) 1 1)] ([f] : List Mfn), blk b1_39 [(.slice none 0 0)] 99, blk b0_1 [(.int .i64 (f.params)), (.int .i64 (f.slots)), (.slice p0_1 f.ins.length c0_1)] 35, junk w0 hz]) [1, 2, 3, 4, 5, 6, 7] (by decide) rfl
      replace hm := hm.imp (c' := ow [(.int .i64 (0)), (.int .i64 (0)), (.slice (some ⟨b1_47, 0, none⟩) 1 1)] ((⟨0, 0, ([(⟨22, 0, 0, 0, 0⟩ : Mins)] : List Mins)⟩ : Mfn) : Mfn)) 0 rfl (fun F h0 => h0)
      replace hm := (hm.els_cons 1 0 (by decide) rfl rfl).pick (L' := [els [(.int .i64 (0)), (.int .i64 (0)), (.slice (some ⟨b1_47, 0, none⟩) 1 1)] ([(⟨0, 0, ([(⟨22, 0, 0, 0, 0⟩ : Mins)] : List Mins)⟩ : Mfn)] : List Mfn), blk b1_48 [(.int .i64 (0)), (.int .i64 (0)), (.slice (some ⟨b1_47, 0, none⟩) 1 1)] 35, ow (α := List (Sh hz Mfn)) [(.slice (some ⟨b1_46, 0, none⟩) 1 1)] ([f] : List Mfn), blk b1_39 [(.slice none 0 0)] 99, blk b0_1 [(.int .i64 (f.params)), (.int .i64 (f.slots)), (.slice p0_1 f.ins.length c0_1)] 35, junk w0 hz]) [1, 2, 3, 4, 5, 6] (by decide) rfl
      replace hm := (hm.lit_els 1 0 (by decide) rfl rfl rfl rfl).pick (L' := [ow [(.slice (some ⟨b1_48, 0, none⟩) 1 1)] ([(⟨0, 0, ([(⟨22, 0, 0, 0, 0⟩ : Mins)] : List Mins)⟩ : Mfn)] : List Mfn), ow (α := List (Sh hz Mfn)) [(.slice (some ⟨b1_46, 0, none⟩) 1 1)] ([f] : List Mfn), blk b1_39 [(.slice none 0 0)] 99, blk b0_1 [(.int .i64 (f.params)), (.int .i64 (f.slots)), (.slice p0_1 f.ins.length c0_1)] 35, junk w0 hz]) [1, 2, 3, 4, 5] (by decide) rfl
      clear hS
      have hS : Mem w0 hz _ [blk b0_1 [(.int .i64 (f.params)), (.int .i64 (f.slots)), (.slice p0_1 f.ins.length c0_1)] 35, junk w0 hz] := hm.pick [3, 4] (by decide) rfl
      refine ⟨fun _ => hS, ?_⟩
      refine te_one ?_
      obtain ⟨hz1_37, hle1_37, hz_r1_19, hm⟩ := hm.freeze 0 rfl
      replace hm := hm.pick (L' := [ow (α := List (Sh hz Mfn)) [(.slice (some ⟨b1_46, 0, none⟩) 1 1)] ([f] : List Mfn), blk b1_39 [(.slice none 0 0)] 99, blk b0_1 [(.int .i64 (f.params)), (.int .i64 (f.slots)), (.slice p0_1 f.ins.length c0_1)] 35, junk w0 hz]) [1, 2, 3, 4] (by decide) rfl
      replace hz_r1_19 : GT.rep hz1_37 [(.slice (some ⟨b1_48, 0, none⟩) 1 1)] ([(⟨0, 0, ([(⟨22, 0, 0, 0, 0⟩ : Mins)] : List Mins)⟩ : Mfn)] : List Mfn) := fz_ow hz_r1_19
      refine td_ef hf rfl rfl rfl rfl (e_call hf rfl Tryd.call69 rfl (slices_Repeat_S_impl_Mfn_impl_Mfn_ok _ _ hm.lez ([(⟨0, 0, ([(⟨22, 0, 0, 0, 0⟩ : Mins)] : List Mins)⟩ : Mfn)] : List Mfn) (.slice (some ⟨b1_48, 0, none⟩) 1 1) hz_r1_19 xs0_1  _ hpb1_1)) ?_
      clear hf a; rintro v1_60 w1_113 a ho1_19 hf
      obtain ⟨_, hz1_38, rfl, hle1_38, hB⟩ := ho1_19
      replace hm := Mem.giveA hm hle1_38 hB; clear hB
      clear hS
      have hS : Mem w0 hz _ [blk b0_1 [(.int .i64 (f.params)), (.int .i64 (f.slots)), (.slice p0_1 f.ins.length c0_1)] 35, junk w0 hz] := (hm.thaw (Heap.le_trans hle1_37 hle1_38)).pick [3, 4] (by decide) rfl
      refine ⟨fun _ => hS, ?_⟩
      refine te_one ?_
      obtain ⟨h1_24, h1_24e⟩ := appM_some.1 hpb1_2
      replace hm := hm.sh_up (Heap.le_trans hle1_37 hle1_38) 1 rfl
      refine td_ef hf rfl rfl rfl rfl (e_appendSh (α := Mfn) (xs := pb1_1) (ys := ([f] : List Mfn)) 0 et_97 hf hm rfl (hm.ow_rep 1 rfl) rfl rfl rfl h1_24) ?_
      clear hf a; rintro v1_62 w1_114 a hm hf
      rw [h1_24e] at hm
      refine ⟨fun h => absurd h (by decide), ?_⟩
      obtain ⟨p1_24, c1_24, he, hl1_24⟩ := ro_slice (sh_read (Heap.le_trans (Heap.le_refl _) hm.lez) (hm.ow_rep 0 rfl))
      subst he
      refine td_p hf rfl rfl rfl rfl (fun w => y_build (vs := [(0, (.slice p1_24 pb1_2.length c1_24))]) (cs := #[(.slice p1_24 pb1_2.length c1_24)]) rfl rfl (by kernel_rfl)) ?_
      clear hf a; intro a hf
      refine te_one ?_
      refine td_ef0 hf rfl rfl rfl (e_storeN 2 hf hm rfl Tryd.sizeOf99 rfl rfl rfl (one_cons rfl one_nil) rfl rfl) ?_
      clear hf a; rintro _ w1_115 a hm hf
      refine ⟨fun h => absurd h (by decide), ?_⟩
      clear hS; refine td_end ?_
      refine x_then_n ?_
      obtain rfl := Option.some.inj hq0_1
      exact ⟨hz1_38, b1_39, (.slice p1_24 pb1_2.length c1_24), (Heap.le_trans hle1_37 hle1_38), hf.sub ⟨rfl, rfl, trivial⟩, hm.pick [3, 2, 0, 4] (by decide) rfl⟩
    ·
      clear hf hm
      rintro a w ⟨hz0_1, b0_2, v0_1, hle0_1, hf, hm⟩
      refine x_then_n ?_
      refine wp_seq ?_
      refine wp_seq ?_
      refine wp_region_lit ?_
      refine st_y hf rfl rfl rfl (y_loadN (cs := [v0_1]) Tryd.isAgg99 Tryd.sizeOf99 rfl rfl (hm.blk_at 1 rfl)) ?_
      clear hf a; intro a hf
      obtain ⟨r0_2, hx0_1, hq⟩ := bnd hq
      refine st_ef hf rfl rfl rfl (e_call hf rfl Tryd.call70 rfl (impl_MachValid_ok _ (⟨s0_1⟩ : Mach) v0_1 (sh_read (Heap.le_trans (Heap.le_refl _) hm.lez) (hm.ow_rep 2 rfl)) (hm.now (GT.mono hle0_1 hG0)) _ hx0_1)) ?_
      clear hf a; rintro v0_2 w0_2 a ho0_2 hf
      obtain ⟨rfl, hB⟩ := ho0_2
      replace hm := hm.below' hB; clear hB
      refine st_y hf rfl rfl rfl (y_not rfl rfl) ?_
      clear hf a; intro a hf
      refine st_end ?_
      refine x_then_n ?_
      rcases bcases (!(r0_2)) with h0_1 | h0_1
      ·
        replace hq := (ite_t h0_1).symm.trans hq
        have h0_2 := bnot_t' h0_1
        refine cond_t hf rfl h0_1 ?_
        refine wp_seq ?_
        refine wp_region_lit ?_
        refine st_y hf rfl rfl rfl (y_assign rfl rfl) ?_
        clear hf a; intro a hf
        refine st_end ?_
        refine x_then_n ?_
        refine wp_ret ?_
        refine x_then_ret ?_
        obtain rfl := Option.some.inj hq
        refine ret_tmp hf Tryd.results47 rfl ?_
        exact .inl ⟨rfl, rfl, Mem.belowA (M := []) hle0 hle0_1 (hm.pick [3] (by decide) rfl)⟩
      ·
        replace hq := (ite_f h0_1).symm.trans hq
        have h0_3 := bnot_f' h0_1
        refine cond_f hf rfl h0_1 ?_
        refine wp_skip ?_
        refine x_then_n ?_
        refine wp_seq ?_
        refine wp_tree (.p 1 (.q 0 (.e 2 (.p 3 (.e 4 (.p 5 (.e 6 (.p 7 .fin) .nil)) .nil)) .nil))) [2, 4] [1, 3, 5, 7] (fun w => Mem w0 hz0_1 w [blk b0_1 [(.int .i64 (f.params)), (.int .i64 (f.slots)), (.slice p0_1 f.ins.length c0_1)] 35, blk b0_2 [v0_1] 99, ow (α := List (Sh hz0_1 Mfn)) [v0_1] s0_1, junk w0 hz]) (by kernel_rfl) (by kernel_rfl) (fun _ _ _ h => h.2) ?_
        replace hm := hm.drew
        have hS : Mem w0 hz0_1 _ [blk b0_1 [(.int .i64 (f.params)), (.int .i64 (f.slots)), (.slice p0_1 f.ins.length c0_1)] 35, blk b0_2 [v0_1] 99, ow (α := List (Sh hz0_1 Mfn)) [v0_1] s0_1, junk w0 hz] := hm.pick [0, 1, 2, 3] (by decide) rfl
        refine td_p hf rfl rfl rfl rfl (fun w => y_fieldAddr fo_35_2 rfl rfl) ?_
        clear hf a; intro a hf
        refine td_y hf rfl rfl rfl rfl hS (fun w hm => y_loadN (cs := [(.int .i64 (f.params)), (.int .i64 (f.slots)), (.slice p0_1 f.ins.length c0_1)]) Tryd.isAgg35 Tryd.sizeOf35 rfl rfl (hm.blk_at 0 rfl)) ?_
        clear hf a; intro a hf
        refine te_one ?_
        refine td_ef hf rfl rfl rfl rfl (ef_y hf (y_load1 Tryd.isAgg33 rfl rfl (hm.blk_cell 0 rfl rfl))) ?_
        clear hf a; rintro _ _ a ⟨rfl, rfl⟩ hf
        refine ⟨fun _ => hS, ?_⟩
        refine td_p hf rfl rfl rfl rfl (fun w => y_len_slice st_33.und rfl rfl) ?_
        clear hf a; intro a hf
        refine te_one ?_
        obtain ⟨ys0_1, hx0_2, hq⟩ := bnd hq
        obtain ⟨⟨h0_41, h0_42⟩, h0_4e⟩ := makeM_some.1 hx0_2
        refine td_ef hf rfl rfl rfl rfl (e_make (x0 := (false : Bool)) et_68 (fun _ => (Flat.own_iff.2 rfl)) hf hm rfl rfl rfl h0_41 (Int.le_refl _) h0_42) ?_
        clear hf a; rintro v0_3 w0_3 a hm hf
        rw [h0_4e] at hm
        have h0_4l : (ys0_1.length : Int) = (f.ins.length : Int) := by rw [← h0_4e]; simp only [List.length_replicate]; omega
        clear hS
        have hS : Mem w0 hz0_1 _ [blk b0_1 [(.int .i64 (f.params)), (.int .i64 (f.slots)), (.slice p0_1 f.ins.length c0_1)] 35, blk b0_2 [v0_1] 99, ow (α := List (Sh hz0_1 Mfn)) [v0_1] s0_1, junk w0 hz] := hm.pick [1, 2, 3, 4] (by decide) rfl
        refine ⟨fun _ => hS, ?_⟩
        obtain ⟨p0_2, c0_2, he, hl0_3⟩ := ro_slice (hm.ow_rep 0 rfl)
        subst he
        refine td_p hf rfl rfl rfl rfl (fun w => y_build (vs := [(0, (.agg #[(.int .i64 (f.params)), (.int .i64 (f.slots)), (.slice p0_1 f.ins.length c0_1)])), (1, (.slice p0_2 ys0_1.length c0_2))]) (cs := #[(.int .i64 (f.params)), (.int .i64 (f.slots)), (.slice p0_1 f.ins.length c0_1), (.slice p0_2 ys0_1.length c0_2), (.slice none 0 0), (.slice none 0 0), (.int .i64 (0))]) rfl rfl (by kernel_rfl)) ?_
        clear hf a; intro a hf
        refine te_one ?_
        refine td_ef hf rfl rfl rfl rfl (e_box hf hm rfl rfl rfl) ?_
        clear hf a; rintro _ w0_4 a ⟨b0_3, rfl, hm⟩ hf
        refine ⟨fun h => absurd h (by decide), ?_⟩
        refine td_p hf rfl rfl rfl rfl (fun w => y_assign rfl rfl) ?_
        clear hf a; intro a hf
        clear hS; refine td_end ?_
        refine x_then_n ?_
        refine wp_seq ?_
        refine wp_seq ?_
        refine wp_region_lit ?_
        refine st_y hf rfl rfl rfl (y_assign rfl rfl) ?_
        clear hf a; intro a hf
        refine st_end ?_
        refine x_then_n ?_
        obtain ⟨s0_2, hq0_2, hq⟩ := bnd hq
        refine code_cut (K := fun a w => ∃ (v0_4 : Value) (v0_5 : Value) (v0_6 : Value), Fr 92 [(7, (.pointer (some ⟨b0_3, 0, none⟩)))] a ∧ Mem w0 hz0_1 w [blk b0_3 [(.int .i64 (s0_2.1)), (.int .i64 (s0_2.2.1)), (.slice p0_1 f.ins.length c0_1), v0_4, v0_5, v0_6, (.int .i64 (s0_2.2.2.2.2.2))] 70, ow [v0_4] s0_2.2.2.1, ow [v0_5] s0_2.2.2.2.1, ow [v0_6] s0_2.2.2.2.2.1, junk w0 hz]) ?_ ?_
        ·
          refine wp_block ?_
          obtain ⟨r1_1, hl1_25, hq0_2⟩ := bnd hq0_2
          refine wp_loopM _ (fun xs2_1 a w => ∃ (v2_1 : Value) (v2_2 : Value) (v2_3 : Value), Fr 92 [(1, (.pointer (some ⟨b0_1, 0, none⟩))), (7, (.pointer (some ⟨b0_3, 0, none⟩))), (8, (.bool (xs2_1.2.2.2.2.2.2)))] a ∧ Mem w0 hz0_1 w [blk b0_1 [(.int .i64 (f.params)), (.int .i64 (f.slots)), (.slice p0_1 f.ins.length c0_1)] 35, blk b0_3 [(.int .i64 (xs2_1.1)), (.int .i64 (xs2_1.2.1)), (.slice p0_1 f.ins.length c0_1), v2_1, v2_2, v2_3, (.int .i64 (xs2_1.2.2.2.2.2.1))] 70, ow [v2_1] xs2_1.2.2.1, ow [v2_2] xs2_1.2.2.2.1, ow [v2_3] xs2_1.2.2.2.2.1, junk w0 hz]) hl1_25 ?_ ?_
          ·
            have hm := hm.nilow (α := Int)
            have hm := hm.nilow (α := Int)
            exact ⟨(.slice p0_2 ys0_1.length c0_2), (.slice none 0 0), (.slice none 0 0), hf.sub ⟨rfl, rfl, rfl, trivial⟩, hm.pick [4, 2, 3, 1, 0, 7] (by decide) rfl⟩
          ·
            clear hf hm
            rintro xs2_1 a w q1_1 ⟨v2_1, v2_2, v2_3, hf, hm⟩ hb1_1 ho1_20
            refine wp_seq ?_
            refine wp_seq ?_
            refine wp_region_lit ?_
            refine st_y hf rfl rfl rfl (y_move rfl rfl) ?_
            clear hf a; intro a hf
            refine st_end ?_
            refine x_then_n ?_
            rcases bcases (xs2_1.2.2.2.2.2.2) with h2_2 | h2_2
            ·
              replace hb1_1 := (ite_t h2_2).symm.trans hb1_1
              refine cond_t hf rfl h2_2 ?_
              refine wp_skip ?_
              refine x_then_n ?_
              refine wp_block ?_
              refine wp_seq ?_
              refine wp_region_lit ?_
              refine st_y hf rfl rfl rfl (y_assign rfl rfl) ?_
              clear hf a; intro a hf
              refine st_end ?_
              refine x_then_n ?_
              refine wp_seq ?_
              refine wp_region_lit ?_
              refine st_y hf rfl rfl rfl (y_move rfl rfl) ?_
              clear hf a; intro a hf
              obtain ⟨r2_1, hx2_3, hb1_1⟩ := bnd hb1_1
              obtain ⟨hz2_1, hle, hm1, hsub, hk2_1⟩ := hm.take2 (L1 := [blk b0_3 [(.int .i64 (xs2_1.1)), (.int .i64 (xs2_1.2.1)), (.slice p0_1 f.ins.length c0_1), v2_1, v2_2, v2_3, (.int .i64 (xs2_1.2.2.2.2.2.1))] 70, ow [v2_1] xs2_1.2.2.1, ow [v2_2] xs2_1.2.2.2.1, ow [v2_3] xs2_1.2.2.2.2.1]) (L2 := [blk b0_1 [(.int .i64 (f.params)), (.int .i64 (f.slots)), (.slice p0_1 f.ins.length c0_1)] 35, junk w0 hz]) [1, 2, 3, 4] [0, 5] (by decide) rfl rfl
              refine st_ef hf rfl rfl rfl (e_call hf rfl Tryd.call71 rfl (pimpl_layout__settle_ok _ hz2_1 (⟨(⟨xs2_1.1, xs2_1.2.1, f.ins⟩ : Mfn), xs2_1.2.2.1, xs2_1.2.2.2.1, xs2_1.2.2.2.2.1, xs2_1.2.2.2.2.2.1⟩ : layout) b0_3 (.slice p0_1 f.ins.length c0_1) (GT.mono hle (GT.mono hle0_1 h1)) v2_1 v2_2 v2_3 hm1  _ hx2_3)) ?_
              clear hf a; rintro v2_4 w2_3 a ho2_1 hf
              obtain ⟨v2_5, v2_6, v2_7, rfl, hB⟩ := ho2_1
              replace hm := hk2_1 _ _ hB; clear hB
              refine st_end ?_
              refine x_then_n ?_
              refine wp_seq ?_
              refine wp_region_lit ?_
              refine st_y hf rfl rfl rfl (y_fieldAddr fo_35_2 rfl rfl) ?_
              clear hf a; intro a hf
              refine st_y hf rfl rfl rfl (y_load1 Tryd.isAgg33 rfl rfl (hm.blk_cell 4 rfl rfl)) ?_
              clear hf a; intro a hf
              refine st_y hf rfl rfl rfl (y_len_slice st_33.und rfl rfl) ?_
              clear hf a; intro a hf
              refine st_y hf rfl rfl rfl (y_move rfl rfl) ?_
              clear hf a; intro a hf
              refine st_end ?_
              refine x_then_n ?_
              obtain ⟨p2_1, c2_2, he, hl2_1⟩ := ro_slice (hm.ow_rep 1 rfl)
              subst he
              obtain ⟨p2_2, c2_3, he, hl2_2⟩ := ro_slice (hm.ow_rep 2 rfl)
              subst he
              obtain ⟨p2_3, c2_4, he, hl2_3⟩ := ro_slice (hm.ow_rep 3 rfl)
              subst he
              refine wp_block ?_
              obtain ⟨r2_2, hl2_4, hb1_1⟩ := bnd hb1_1
              refine wp_forN _ (fun i3_1 xs3_1 a w => Fr 92 [(1, (.pointer (some ⟨b0_1, 0, none⟩))), (7, (.pointer (some ⟨b0_3, 0, none⟩))), (8, (.bool (xs3_1.2))), (52, (.slice p0_1 f.ins.length c0_1)), (53, (.int .i64 ((f.ins.length : Int)))), (54, (.int .i64 (i3_1)))] a ∧ Mem w0 hz0_1 w [blk b0_1 [(.int .i64 (f.params)), (.int .i64 (f.slots)), (.slice p0_1 f.ins.length c0_1)] 35, blk b0_3 [(.int .i64 (r2_1.f.params)), (.int .i64 (r2_1.f.slots)), (.slice p0_1 f.ins.length c0_1), (.slice p2_1 r2_1.long.length c2_2), (.slice p2_2 r2_1.sizes.length c2_3), (.slice p2_3 r2_1.places.length c2_4), (.int .i64 (r2_1.size))] 70, ow [(.slice p2_1 r2_1.long.length c2_2)] xs3_1.1, ow [(.slice p2_2 r2_1.sizes.length c2_3)] r2_1.sizes, ow [(.slice p2_3 r2_1.places.length c2_4)] r2_1.places, junk w0 hz]) (0) ((f.ins.length : Int)) hl2_4 ?_ ?_ ?_
              ·
                exact ⟨hf.sub ⟨rfl, rfl, rfl, rfl, rfl, rfl, trivial⟩, hm.pick [4, 0, 1, 2, 3, 5] (by decide) rfl⟩
              ·
                clear hf hm
                rintro i3_1 xs3_1 a w ⟨hf, hm⟩ hi3_1 hi3_2 q2_1 hb2_1 ho2_2
                refine wp_seq ?_
                refine wp_region_lit ?_
                refine st_y hf rfl rfl rfl (y_lss rfl rfl rfl) ?_
                clear hf a; intro a hf
                refine st_end ?_
                refine x_then_n ?_
                refine wp_seq ?_
                refine cond_t hf rfl (decide_eq_true (by omega)) ?_
                refine wp_skip ?_
                refine x_then_n ?_
                refine wp_seq ?_
                obtain ⟨s3_1, hq3_1, hb2_1⟩ := bnd hb2_1
                refine code_cut (K := fun a w => Fr 92 [(1, (.pointer (some ⟨b0_1, 0, none⟩))), (7, (.pointer (some ⟨b0_3, 0, none⟩))), (8, (.bool (s3_1.2))), (52, (.slice p0_1 f.ins.length c0_1)), (53, (.int .i64 ((f.ins.length : Int)))), (54, (.int .i64 (i3_1)))] a ∧ Mem w0 hz0_1 w [blk b0_1 [(.int .i64 (f.params)), (.int .i64 (f.slots)), (.slice p0_1 f.ins.length c0_1)] 35, blk b0_3 [(.int .i64 (r2_1.f.params)), (.int .i64 (r2_1.f.slots)), (.slice p0_1 f.ins.length c0_1), (.slice p2_1 r2_1.long.length c2_2), (.slice p2_2 r2_1.sizes.length c2_3), (.slice p2_3 r2_1.places.length c2_4), (.int .i64 (r2_1.size))] 70, ow [(.slice p2_1 r2_1.long.length c2_2)] s3_1.1, ow [(.slice p2_2 r2_1.sizes.length c2_3)] r2_1.sizes, ow [(.slice p2_3 r2_1.places.length c2_4)] r2_1.places, junk w0 hz]) ?_ ?_
                ·
                  refine wp_block ?_
                  refine wp_seq ?_
                  refine wp_region_lit ?_
                  refine st_y hf rfl rfl rfl (y_move rfl rfl) ?_
                  clear hf a; intro a hf
                  obtain ⟨x4_1, hx4_1, hq3_1⟩ := bnd hq3_1
                  obtain ⟨h4_1, hx4_2⟩ := getI_some.1 hx4_1
                  obtain ⟨b4_1, o4_1, c4_1, he⟩ := idx_form h1 hx4_2
                  simp only [Value.slice.injEq, Option.some.injEq] at he; obtain ⟨rfl, _, rfl⟩ := he
                  refine st_y hf rfl rfl rfl (y_indexAddr st_33 rfl rfl rfl h4_1 (idx_lt hx4_2)) ?_
                  clear hf a; intro a hf
                  refine st_y hf rfl rfl rfl (y_loadN (cs := [(.int .i64 (x4_1.op)), (.int .i64 (x4_1.a_)), (.int .i64 (x4_1.b)), (.int .i64 (x4_1.c)), (.int .i64 (x4_1.n_))]) Tryd.isAgg27 Tryd.sizeOf27 rfl rfl (flat_cells (cs := [(.int .i64 (x4_1.op)), (.int .i64 (x4_1.a_)), (.int .i64 (x4_1.b)), (.int .i64 (x4_1.c)), (.int .i64 (x4_1.n_))]) (hm.now (GT.mono hle0_1 h1)) hx4_2 rfl)) ?_
                  clear hf a; intro a hf
                  refine st_ef hf rfl rfl rfl (e_alloc hm Tryd.zeroValue27 rfl rfl) ?_
                  clear hf a; rintro _ w4_1 a ⟨b4_2, rfl, hm⟩ hf
                  refine st_y hf rfl rfl rfl (y_assign rfl rfl) ?_
                  clear hf a; intro a hf
                  refine st_ef0 hf rfl rfl (e_storeN 0 hf hm rfl Tryd.sizeOf27 rfl rfl rfl (one_cons rfl (one_cons rfl (one_cons rfl (one_cons rfl (one_cons rfl one_nil))))) rfl rfl) ?_
                  clear hf a; rintro _ w4_2 a hm hf
                  refine st_end ?_
                  refine x_then_n ?_
                  refine wp_seq ?_
                  obtain ⟨s4_1, hq4_1, hq3_1⟩ := bnd hq3_1
                  refine code_cut (K := fun a w => Fr 92 [(1, (.pointer (some ⟨b0_1, 0, none⟩))), (7, (.pointer (some ⟨b0_3, 0, none⟩))), (8, (.bool (xs3_1.2))), (9, (.int .i64 (i3_1))), (52, (.slice (some ⟨b4_1, o4_1, none⟩) f.ins.length c0_1)), (53, (.int .i64 ((f.ins.length : Int)))), (54, (.int .i64 (i3_1))), (78, (.bool (s4_1)))] a ∧ Mem w0 hz0_1 w [blk b0_1 [(.int .i64 (f.params)), (.int .i64 (f.slots)), (.slice (some ⟨b4_1, o4_1, none⟩) f.ins.length c0_1)] 35, blk b0_3 [(.int .i64 (r2_1.f.params)), (.int .i64 (r2_1.f.slots)), (.slice (some ⟨b4_1, o4_1, none⟩) f.ins.length c0_1), (.slice p2_1 r2_1.long.length c2_2), (.slice p2_2 r2_1.sizes.length c2_3), (.slice p2_3 r2_1.places.length c2_4), (.int .i64 (r2_1.size))] 70, ow [(.slice p2_1 r2_1.long.length c2_2)] xs3_1.1, ow [(.slice p2_2 r2_1.sizes.length c2_3)] r2_1.sizes, ow [(.slice p2_3 r2_1.places.length c2_4)] r2_1.places, junk w0 hz]) ?_ ?_
                  ·
                    refine wp_region_lit ?_
                    refine st_y hf rfl rfl rfl (y_fieldAddr fo_27_0 rfl rfl) ?_
                    clear hf a; intro a hf
                    refine st_y hf rfl rfl rfl (y_load1 Tryd.isAgg3 rfl rfl (hm.blk_cell 0 rfl rfl)) ?_
                    clear hf a; intro a hf
                    obtain ⟨r5_1, hx5_1, hq4_1⟩ := bnd hq4_1
                    refine st_ef hf rfl rfl rfl (e_call hf rfl Tryd.call42 rfl (impl_jumpOp_ok _ x4_1.op _ hx5_1)) ?_
                    clear hf a; rintro v5_1 w5_1 a ho5_1 hf
                    obtain ⟨rfl, hB⟩ := ho5_1
                    replace hm := hm.below' hB; clear hB
                    refine st_y hf rfl rfl rfl (y_move rfl rfl) ?_
                    clear hf a; intro a hf
                    rcases bcases (r5_1) with h5_1 | h5_1
                    ·
                      replace hq4_1 := (ite_t h5_1).symm.trans hq4_1
                      refine st_yg hf rfl rfl (lk_b rfl h5_1) rfl rfl (y_move rfl rfl) ?_
                      clear hf a; intro a hf
                      refine st_yg hf rfl rfl (lk_b rfl h5_1) rfl rfl (y_nilptr rfl rfl) ?_
                      clear hf a; intro a hf
                      refine st_yg hf rfl rfl (lk_b rfl h5_1) rfl rfl (y_fieldAddr fo_70_1 rfl rfl) ?_
                      clear hf a; intro a hf
                      refine st_yg hf rfl rfl (lk_b rfl h5_1) rfl rfl (y_load1 Tryd.isAgg68 rfl rfl (hm.blk_cell 2 rfl rfl)) ?_
                      clear hf a; intro a hf
                      refine st_yg hf rfl rfl (lk_b rfl h5_1) rfl rfl (y_move rfl rfl) ?_
                      clear hf a; intro a hf
                      obtain ⟨x5_1, hx5_2, hq4_1⟩ := bnd hq4_1
                      obtain ⟨h5_2, hx5_3⟩ := getI_some.1 hx5_2
                      obtain ⟨b5_1, o5_1, c5_1, he⟩ := idx_form (hm.ow_rep 3 rfl) hx5_3
                      simp only [Value.slice.injEq, Option.some.injEq] at he; obtain ⟨rfl, _, rfl⟩ := he
                      have hL5_1 := rep_slice_len (hm.ow_rep 3 rfl)
                      refine st_yg hf rfl rfl (lk_b rfl h5_1) rfl rfl (y_indexAddr st_68 rfl rfl rfl h5_2 (idx_lt2 hx5_3 hL5_1)) ?_
                      clear hf a; intro a hf
                      refine st_yg hf rfl rfl (lk_b rfl h5_1) rfl rfl (y_load1 Tryd.isAgg4 rfl rfl ((flat_cells (cs := [(.bool (x5_1))]) (hm.ow_rep 3 rfl) hx5_3 rfl).cell (j := 0) rfl)) ?_
                      clear hf a; intro a hf
                      refine st_yg hf rfl rfl (lk_b rfl h5_1) rfl rfl (y_not rfl rfl) ?_
                      clear hf a; intro a hf
                      refine st_y hf rfl rfl rfl (y_pick_t rfl (ev_b rfl h5_1) rfl) ?_
                      clear hf a; intro a hf
                      refine st_y hf rfl rfl rfl (y_move rfl rfl) ?_
                      clear hf a; intro a hf
                      rcases bcases (!(x5_1)) with h5_3 | h5_3
                      ·
                        replace hq4_1 := (ite_t h5_3).symm.trans hq4_1
                        have h5_4 := bnot_t' h5_3
                        refine st_yg hf rfl rfl (lk_b rfl h5_3) rfl rfl (y_move rfl rfl) ?_
                        clear hf a; intro a hf
                        refine st_yg hf rfl rfl (lk_b rfl h5_3) rfl rfl (y_move rfl rfl) ?_
                        clear hf a; intro a hf
                        obtain ⟨r5_2, hx5_4, hq4_1⟩ := bnd hq4_1
                        refine st_efg hf rfl rfl (lk_b rfl h5_3) rfl rfl (e_call hf rfl Tryd.call48 rfl (pimpl_layout__offset_ok _ (⟨(⟨r2_1.f.params, r2_1.f.slots, f.ins⟩ : Mfn), xs3_1.1, r2_1.sizes, r2_1.places, r2_1.size⟩ : layout) b0_3 (.slice (some ⟨b4_1, o4_1, none⟩) f.ins.length c0_1) (hm.now (GT.mono hle0_1 h1)) (.slice (some ⟨b5_1, o5_1, none⟩) r2_1.long.length c2_2) (hm.ow_rep 3 rfl) (.slice p2_2 r2_1.sizes.length c2_3) (hm.ow_rep 4 rfl) (.slice p2_3 r2_1.places.length c2_4) (hm.ow_rep 5 rfl) (hm.blk_cells 2 rfl).1 i3_1 _ hx5_4)) ?_
                        clear hf a; rintro v5_2 w5_2 a ho5_2 hf
                        obtain ⟨rfl, hB⟩ := ho5_2
                        replace hm := hm.below' hB; clear hB
                        obtain ⟨r5_3, hx5_5, hq4_1⟩ := bnd hq4_1
                        refine st_efg hf rfl rfl (lk_b rfl h5_3) rfl rfl (e_call hf rfl Tryd.call43 rfl (impl_within_ok _ r5_2 (-128) 127 _ hx5_5)) ?_
                        clear hf a; rintro v5_3 w5_3 a ho5_3 hf
                        obtain ⟨rfl, hB⟩ := ho5_3
                        replace hm := hm.below' hB; clear hB
                        refine st_yg hf rfl rfl (lk_b rfl h5_3) rfl rfl (y_not rfl rfl) ?_
                        clear hf a; intro a hf
                        refine st_y hf rfl rfl rfl (y_pick_t rfl (ev_b rfl h5_3) rfl) ?_
                        clear hf a; intro a hf
                        refine st_end ?_
                        refine x_then_n ?_
                        obtain rfl := Option.some.inj hq4_1
                        exact ⟨hf.sub ⟨rfl, rfl, rfl, rfl, rfl, rfl, rfl, rfl, trivial⟩, hm.pick [1, 2, 3, 4, 5, 6] (by decide) rfl⟩
                      ·
                        replace hq4_1 := (ite_f h5_3).symm.trans hq4_1
                        have h5_5 := bnot_f' h5_3
                        refine st_no hf rfl rfl (lk_b rfl h5_3) rfl rfl rfl ?_
                        clear hf a; intro a hf
                        refine st_no hf rfl rfl (lk_b rfl h5_3) rfl rfl rfl ?_
                        clear hf a; intro a hf
                        refine st_no hf rfl rfl (lk_b rfl h5_3) rfl rfl rfl ?_
                        clear hf a; intro a hf
                        refine st_no hf rfl rfl (lk_b rfl h5_3) rfl rfl rfl ?_
                        clear hf a; intro a hf
                        refine st_no hf rfl rfl (lk_b rfl h5_3) rfl rfl rfl ?_
                        clear hf a; intro a hf
                        refine st_y hf rfl rfl rfl (y_pick_f rfl (ev_b rfl h5_3) rfl) ?_
                        clear hf a; intro a hf
                        refine st_end ?_
                        refine x_then_n ?_
                        obtain rfl := Option.some.inj hq4_1
                        exact ⟨hf.sub ⟨rfl, rfl, rfl, rfl, rfl, rfl, rfl, rfl, trivial⟩, hm.pick [1, 2, 3, 4, 5, 6] (by decide) rfl⟩
                    ·
                      replace hq4_1 := (ite_f h5_1).symm.trans hq4_1
                      refine st_no hf rfl rfl (lk_b rfl h5_1) rfl rfl rfl ?_
                      clear hf a; intro a hf
                      refine st_no hf rfl rfl (lk_b rfl h5_1) rfl rfl rfl ?_
                      clear hf a; intro a hf
                      refine st_no hf rfl rfl (lk_b rfl h5_1) rfl rfl rfl ?_
                      clear hf a; intro a hf
                      refine st_no hf rfl rfl (lk_b rfl h5_1) rfl rfl rfl ?_
                      clear hf a; intro a hf
                      refine st_no hf rfl rfl (lk_b rfl h5_1) rfl rfl rfl ?_
                      clear hf a; intro a hf
                      refine st_no hf rfl rfl (lk_b rfl h5_1) rfl rfl rfl ?_
                      clear hf a; intro a hf
                      refine st_no hf rfl rfl (lk_b rfl h5_1) rfl rfl rfl ?_
                      clear hf a; intro a hf
                      refine st_no hf rfl rfl (lk_b rfl h5_1) rfl rfl rfl ?_
                      clear hf a; intro a hf
                      refine st_y hf rfl rfl rfl (y_pick_f rfl (ev_b rfl h5_1) rfl) ?_
                      clear hf a; intro a hf
                      refine st_y hf rfl rfl rfl (y_move rfl rfl) ?_
                      clear hf a; intro a hf
                      refine st_no hf rfl rfl (lk_b rfl rfl) rfl rfl rfl ?_
                      clear hf a; intro a hf
                      refine st_no hf rfl rfl (lk_b rfl rfl) rfl rfl rfl ?_
                      clear hf a; intro a hf
                      refine st_no hf rfl rfl (lk_b rfl rfl) rfl rfl rfl ?_
                      clear hf a; intro a hf
                      refine st_no hf rfl rfl (lk_b rfl rfl) rfl rfl rfl ?_
                      clear hf a; intro a hf
                      refine st_no hf rfl rfl (lk_b rfl rfl) rfl rfl rfl ?_
                      clear hf a; intro a hf
                      refine st_y hf rfl rfl rfl (y_pick_f rfl (ev_b rfl rfl) rfl) ?_
                      clear hf a; intro a hf
                      refine st_end ?_
                      refine x_then_n ?_
                      obtain rfl := Option.some.inj hq4_1
                      exact ⟨hf.sub ⟨rfl, rfl, rfl, rfl, rfl, rfl, rfl, rfl, trivial⟩, hm.pick [1, 2, 3, 4, 5, 6] (by decide) rfl⟩
                  ·
                    clear hf hm
                    rintro a w ⟨hf, hm⟩
                    refine x_then_n ?_
                    obtain ⟨s4_2, hq4_2, hq3_1⟩ := bnd hq3_1
                    refine code_cut (K := fun a w => Fr 92 [(1, (.pointer (some ⟨b0_1, 0, none⟩))), (7, (.pointer (some ⟨b0_3, 0, none⟩))), (8, (.bool (s4_2.2))), (52, (.slice (some ⟨b4_1, o4_1, none⟩) f.ins.length c0_1)), (53, (.int .i64 ((f.ins.length : Int)))), (54, (.int .i64 (i3_1)))] a ∧ Mem w0 hz0_1 w [blk b0_1 [(.int .i64 (f.params)), (.int .i64 (f.slots)), (.slice (some ⟨b4_1, o4_1, none⟩) f.ins.length c0_1)] 35, blk b0_3 [(.int .i64 (r2_1.f.params)), (.int .i64 (r2_1.f.slots)), (.slice (some ⟨b4_1, o4_1, none⟩) f.ins.length c0_1), (.slice p2_1 r2_1.long.length c2_2), (.slice p2_2 r2_1.sizes.length c2_3), (.slice p2_3 r2_1.places.length c2_4), (.int .i64 (r2_1.size))] 70, ow [(.slice p2_1 r2_1.long.length c2_2)] s4_2.1, ow [(.slice p2_2 r2_1.sizes.length c2_3)] r2_1.sizes, ow [(.slice p2_3 r2_1.places.length c2_4)] r2_1.places, junk w0 hz]) ?_ ?_
                    ·
                      rcases bcases (s4_1) with h5_6 | h5_6
                      ·
                        replace hq4_2 := (ite_t h5_6).symm.trans hq4_2
                        refine cond_t hf rfl h5_6 ?_
                        refine wp_region_lit ?_
                        refine st_y hf rfl rfl rfl (y_move rfl rfl) ?_
                        clear hf a; intro a hf
                        refine st_y hf rfl rfl rfl (y_nilptr rfl rfl) ?_
                        clear hf a; intro a hf
                        refine st_y hf rfl rfl rfl (y_fieldAddr fo_70_1 rfl rfl) ?_
                        clear hf a; intro a hf
                        refine st_y hf rfl rfl rfl (y_load1 Tryd.isAgg68 rfl rfl (hm.blk_cell 1 rfl rfl)) ?_
                        clear hf a; intro a hf
                        refine st_y hf rfl rfl rfl (y_move rfl rfl) ?_
                        clear hf a; intro a hf
                        obtain ⟨x5_2, hx5_6, hq4_2⟩ := bnd hq4_2
                        obtain ⟨h5_7, hx5_7⟩ := getI_some.1 hx5_6
                        obtain ⟨b5_2, o5_2, c5_2, he⟩ := idx_form (hm.ow_rep 2 rfl) hx5_7
                        simp only [Value.slice.injEq, Option.some.injEq] at he; obtain ⟨rfl, _, rfl⟩ := he
                        have hL5_2 := rep_slice_len (hm.ow_rep 2 rfl)
                        refine st_y hf rfl rfl rfl (y_indexAddr st_68 rfl rfl rfl h5_7 (idx_lt2 hx5_7 hL5_2)) ?_
                        clear hf a; intro a hf
                        refine st_ef0 hf rfl rfl (e_setElem (x1 := true) (j := 0) (vs := [(.bool (true))]) 2 hf hm rfl hx5_7 rfl Tryd.sizeOf4 rfl rfl rfl (one_cons rfl one_nil) rfl rfl) ?_
                        clear hf a; rintro _ w5_4 a hm hf
                        have hx5_8 := List.getElem?_set_self (a := true) (idx_lt hx5_7)
                        refine st_y hf rfl rfl rfl (y_assign rfl rfl) ?_
                        clear hf a; intro a hf
                        refine st_end ?_
                        refine x_then_n ?_
                        obtain rfl := Option.some.inj hq4_2
                        exact ⟨hf.sub ⟨rfl, rfl, rfl, rfl, rfl, rfl, trivial⟩, hm.pick [0, 1, 2, 3, 4, 5] (by decide) rfl⟩
                      ·
                        replace hq4_2 := (ite_f h5_6).symm.trans hq4_2
                        refine cond_f hf rfl h5_6 ?_
                        refine wp_skip ?_
                        refine x_then_n ?_
                        obtain rfl := Option.some.inj hq4_2
                        exact ⟨hf.sub ⟨rfl, rfl, rfl, rfl, rfl, rfl, trivial⟩, hm.pick [0, 1, 2, 3, 4, 5] (by decide) rfl⟩
                    ·
                      clear hf hm
                      rintro a w ⟨hf, hm⟩
                      refine x_blk_n ?_
                      refine x_then_n ?_
                      obtain rfl := Option.some.inj hq3_1
                      exact ⟨hf.sub ⟨rfl, rfl, rfl, rfl, rfl, rfl, trivial⟩, hm.pick [0, 1, 2, 3, 4, 5] (by decide) rfl⟩
                ·
                  clear hf hm
                  rintro a w ⟨hf, hm⟩
                  refine x_then_n ?_
                  refine wp_region_lit ?_
                  refine st_y hf rfl rfl rfl (y_add64 rfl rfl rfl (by omega) (by omega)) ?_
                  clear hf a; intro a hf
                  refine st_y hf rfl rfl rfl (y_move rfl rfl) ?_
                  clear hf a; intro a hf
                  refine st_end ?_
                  refine x_then_n ?_
                  obtain rfl := Option.some.inj hb2_1
                  exact ⟨_, rfl, hf.sub ⟨rfl, rfl, rfl, rfl, rfl, rfl, trivial⟩, hm.pick [0, 1, 2, 3, 4, 5] (by decide) rfl⟩
              ·
                clear hf hm
                rintro i2_2 xs2_2 a w ⟨hf, hm⟩ hi2_1 hi2_2 rfl
                replace hb1_1 := sum_l hb1_1
                refine wp_seq ?_
                refine wp_region_lit ?_
                refine st_y hf rfl rfl rfl (y_lss rfl rfl rfl) ?_
                clear hf a; intro a hf
                refine st_end ?_
                refine x_then_n ?_
                refine wp_seq ?_
                refine cond_f hf rfl (decide_eq_false (by omega)) ?_
                refine wp_exit ?_
                refine x_then_exit ?_
                refine x_then_exit ?_
                refine x_blk_hit ?_
                refine x_blk_n ?_
                refine x_then_n ?_
                obtain rfl := Option.some.inj hb1_1
                exact ⟨_, rfl, (.slice p2_1 r2_1.long.length c2_2), (.slice p2_2 r2_1.sizes.length c2_3), (.slice p2_3 r2_1.places.length c2_4), hf.sub ⟨rfl, rfl, rfl, trivial⟩, hm.pick [0, 1, 2, 3, 4, 5] (by decide) rfl⟩
            ·
              replace hb1_1 := (ite_f h2_2).symm.trans hb1_1
              refine cond_f hf rfl h2_2 ?_
              refine wp_exit ?_
              refine x_then_exit ?_
              refine x_then_exit ?_
              refine x_blk_hit ?_
              refine x_then_n ?_
              obtain rfl := Option.some.inj hb1_1
              obtain rfl := ho1_20 _ rfl
              obtain rfl := Option.some.inj hq0_2
              exact ⟨v2_1, v2_2, v2_3, hf.sub ⟨rfl, trivial⟩, hm.pick [1, 2, 3, 4, 5] (by decide) rfl⟩
        ·
          clear hf hm
          rintro a w ⟨v0_4, v0_5, v0_6, hf, hm⟩
          refine x_then_n ?_
          refine wp_seq ?_
          refine wp_seq ?_
          refine wp_region_lit ?_
          refine st_y hf rfl rfl rfl (y_move rfl rfl) ?_
          clear hf a; intro a hf
          refine st_y hf rfl rfl rfl (y_nilptr rfl rfl) ?_
          clear hf a; intro a hf
          refine st_y hf rfl rfl rfl (y_fieldAddr fo_70_4 rfl rfl) ?_
          clear hf a; intro a hf
          refine st_y hf rfl rfl rfl (y_load1 Tryd.isAgg3 rfl rfl (hm.blk_cell 0 rfl rfl)) ?_
          clear hf a; intro a hf
          refine st_y hf rfl rfl rfl (y_gtr rfl rfl rfl) ?_
          clear hf a; intro a hf
          refine st_end ?_
          refine x_then_n ?_
          rcases bcases (decide (8000 < s0_2.2.2.2.2.2)) with h0_5 | h0_5
          ·
            replace hq := (ite_t h0_5).symm.trans hq
            have h0_6 := of_decide_eq_true h0_5
            refine cond_t hf rfl h0_5 ?_
            refine wp_seq ?_
            refine wp_region_lit ?_
            refine st_y hf rfl rfl rfl (y_assign rfl rfl) ?_
            clear hf a; intro a hf
            refine st_end ?_
            refine x_then_n ?_
            refine wp_ret ?_
            refine x_then_ret ?_
            obtain rfl := Option.some.inj hq
            refine ret_tmp hf Tryd.results47 rfl ?_
            exact .inl ⟨rfl, rfl, Mem.belowA (M := []) hle0 hle0_1 (hm.pick [4] (by decide) rfl)⟩
          ·
            replace hq := (ite_f h0_5).symm.trans hq
            have h0_7 := of_decide_eq_false h0_5
            refine cond_f hf rfl h0_5 ?_
            refine wp_skip ?_
            refine x_then_n ?_
            refine wp_seq ?_
            refine wp_region_lit ?_
            refine st_y hf rfl rfl rfl (y_move rfl rfl) ?_
            clear hf a; intro a hf
            refine st_y hf rfl rfl rfl (y_assign rfl rfl) ?_
            clear hf a; intro a hf
            refine st_end ?_
            refine x_then_n ?_
            refine wp_ret ?_
            obtain rfl := Option.some.inj hq
            refine ret_tmp hf Tryd.results47 rfl ?_
            exact .inr ⟨_, rfl, ⟨b0_3, (.slice p0_1 f.ins.length c0_1), v0_4, v0_5, v0_6, hz0_1, rfl, hle0_1, (GT.mono hle0_1 h1), hm.pick [4, 0, 1, 2, 3] (by decide) rfl⟩⟩

theorem impl_EncodeFn_ok (w0 : World) (f : Mfn) (v1 : Value) (h1 : GT.rep (hp w0) [v1] f.ins) (hG0 : GT.rep (hp w0) [.slice (some ⟨0, 0, none⟩) 23 23] glob_impl_forms) (r : (List UInt8) × Bool) (hq : impl_EncodeFn f = some r) :
    Con Tryd.prog 17 [(.agg #[(.int .i64 (f.params)), (.int .i64 (f.slots)), v1])] w0 (fun v w' => ∃ (x1 : Value), v = (.tuple #[x1, (.bool (r.2))]) ∧ Mem w0 (hp w0) w' [ow [x1] r.1]) := by
  unfold impl_EncodeFn at hq
  refine con_body (l := [(0, (.agg #[(.int .i64 (f.params)), (.int .i64 (f.slots)), v1]))]) Tryd.func17 rfl Tryd.ntmps17 (Args.get ⟨rfl, trivial⟩) rfl ?_
  intro a hf
  have hm := Mem.start w0
  refine wp_seq ?_
  refine wp_region_lit ?_
  refine st_ef hf rfl rfl rfl (e_box hf hm rfl rfl rfl) ?_
  clear hf a; rintro _ w0_1 a ⟨b0_1, rfl, hm⟩ hf
  refine st_y hf rfl rfl rfl (y_assign rfl rfl) ?_
  clear hf a; intro a hf
  refine st_y hf rfl rfl rfl (y_assign rfl rfl) ?_
  clear hf a; intro a hf
  refine st_end ?_
  refine x_then_n ?_
  refine wp_seq ?_
  refine wp_region_lit ?_
  refine st_y hf rfl rfl rfl (y_loadN (cs := [(.int .i64 (f.params)), (.int .i64 (f.slots)), v1]) Tryd.isAgg35 Tryd.sizeOf35 rfl rfl (hm.blk_at 0 rfl)) ?_
  clear hf a; intro a hf
  obtain ⟨r0_1, hx0_1, hq⟩ := bnd hq
  refine st_ef hf rfl rfl rfl (e_call hf rfl Tryd.call47 rfl (impl_layoutOf_ok _ _ hm.lez f v1 h1 hG0 _ hx0_1)) ?_
  clear hf a; rintro rv0_1 w0_2 a ho0_1 hf
  rcases ho0_1 with ⟨rfl, rfl, hB⟩ | ⟨q0_1, rfl, ho0_1⟩
  ·
    replace hq := opt_n hq
    replace hm := hm.below' hB; clear hB
    refine st_y hf rfl rfl rfl (y_assign rfl rfl) ?_
    clear hf a; intro a hf
    refine st_end ?_
    refine x_then_n ?_
    refine wp_seq ?_
    refine wp_seq ?_
    refine wp_region_lit ?_
    refine st_y hf rfl rfl rfl (y_move rfl rfl) ?_
    clear hf a; intro a hf
    refine st_y hf rfl rfl rfl (y_eqlp Tryd.underlying66 rfl rfl rfl) ?_
    clear hf a; intro a hf
    refine st_end ?_
    refine x_then_n ?_
    refine cond_t hf rfl rfl ?_
    refine wp_seq ?_
    refine wp_region_lit ?_
    refine st_y hf rfl rfl rfl (y_assign rfl rfl) ?_
    clear hf a; intro a hf
    refine st_y hf rfl rfl rfl (y_assign rfl rfl) ?_
    clear hf a; intro a hf
    refine st_end ?_
    refine x_then_n ?_
    refine wp_ret ?_
    refine x_then_ret ?_
    obtain rfl := Option.some.inj hq
    have hm := hm.nilow (α := UInt8)
    refine ret_tmp2 hf Tryd.results17 rfl rfl ?_
    exact ⟨(.slice none 0 0), rfl, hm.pick [0] (by decide) rfl⟩
  ·
    replace hq := opt_s hq
    obtain ⟨b0_2, v0_1, v0_2, v0_3, v0_4, hz0_1, rfl, hle0_1, h0_1, hB⟩ := ho0_1
    replace hm := Mem.giveA hm hle0_1 hB; clear hB
    refine st_y hf rfl rfl rfl (y_assign rfl rfl) ?_
    clear hf a; intro a hf
    refine st_end ?_
    refine x_then_n ?_
    refine wp_seq ?_
    refine wp_seq ?_
    refine wp_region_lit ?_
    refine st_y hf rfl rfl rfl (y_move rfl rfl) ?_
    clear hf a; intro a hf
    refine st_y hf rfl rfl rfl (y_eqlp Tryd.underlying66 rfl rfl rfl) ?_
    clear hf a; intro a hf
    refine st_end ?_
    refine x_then_n ?_
    refine cond_f hf rfl rfl ?_
    refine wp_skip ?_
    refine x_then_n ?_
    refine wp_seq ?_
    refine wp_region_lit ?_
    refine st_y hf rfl rfl rfl (y_assign rfl rfl) ?_
    clear hf a; intro a hf
    refine st_end ?_
    refine x_then_n ?_
    refine wp_seq ?_
    refine wp_seq ?_
    refine wp_region_lit ?_
    refine st_y hf rfl rfl rfl (y_fieldAddr fo_35_2 rfl rfl) ?_
    clear hf a; intro a hf
    refine st_y hf rfl rfl rfl (y_load1 Tryd.isAgg33 rfl rfl (hm.blk_cell 4 rfl rfl)) ?_
    clear hf a; intro a hf
    obtain ⟨p0_1, c0_1, he, hl0_1⟩ := ro_slice h1
    subst he
    refine st_y hf rfl rfl rfl (y_len_slice st_33.und rfl rfl) ?_
    clear hf a; intro a hf
    refine st_y hf rfl rfl rfl (y_move rfl rfl) ?_
    clear hf a; intro a hf
    refine st_end ?_
    refine x_then_n ?_
    obtain ⟨p0_2, c0_2, he, hl0_2⟩ := ro_slice (hm.ow_rep 1 rfl)
    subst he
    obtain ⟨p0_3, c0_3, he, hl0_3⟩ := ro_slice (hm.ow_rep 2 rfl)
    subst he
    obtain ⟨p0_4, c0_4, he, hl0_4⟩ := ro_slice (hm.ow_rep 3 rfl)
    subst he
    refine wp_block ?_
    obtain ⟨r0_2, hl0_5, hq⟩ := bnd hq
    refine wp_forN _ (fun i1_1 xs1_1 a w => ∃ (v1_1 : Value), Fr 88 [(4, (.pointer (some ⟨b0_2, 0, none⟩))), (5, v1_1), (15, (.slice p0_1 f.ins.length c0_1)), (16, (.int .i64 ((f.ins.length : Int)))), (17, (.int .i64 (i1_1)))] a ∧ Mem w0 hz0_1 w [blk b0_2 [(.int .i64 (q0_1.f.params)), (.int .i64 (q0_1.f.slots)), v0_1, (.slice p0_2 q0_1.long.length c0_2), (.slice p0_3 q0_1.sizes.length c0_3), (.slice p0_4 q0_1.places.length c0_4), (.int .i64 (q0_1.size))] 70, ow [(.slice p0_2 q0_1.long.length c0_2)] q0_1.long, ow [(.slice p0_3 q0_1.sizes.length c0_3)] q0_1.sizes, ow [(.slice p0_4 q0_1.places.length c0_4)] q0_1.places, ow [v1_1] xs1_1]) (0) ((f.ins.length : Int)) hl0_5 ?_ ?_ ?_
    ·
      have hm := hm.nilow (α := UInt8)
      exact ⟨(.slice none 0 0), hf.sub ⟨rfl, rfl, rfl, rfl, rfl, trivial⟩, hm.pick [1, 2, 3, 4, 0] (by decide) rfl⟩
    ·
      clear hf hm
      rintro i1_1 xs1_1 a w ⟨v1_1, hf, hm⟩ hi1_1 hi1_2 q0_2 hb0_1 ho0_2
      refine wp_seq ?_
      refine wp_region_lit ?_
      refine st_y hf rfl rfl rfl (y_lss rfl rfl rfl) ?_
      clear hf a; intro a hf
      refine st_end ?_
      refine x_then_n ?_
      refine wp_seq ?_
      refine cond_t hf rfl (decide_eq_true (by omega)) ?_
      refine wp_skip ?_
      refine x_then_n ?_
      refine wp_seq ?_
      obtain ⟨s1_1, hq1_1, hb0_1⟩ := bnd hb0_1
      refine code_cut (K := fun a w => ∃ (v1_2 : Value), Fr 88 [(4, (.pointer (some ⟨b0_2, 0, none⟩))), (5, v1_2), (15, (.slice p0_1 f.ins.length c0_1)), (16, (.int .i64 ((f.ins.length : Int)))), (17, (.int .i64 (i1_1)))] a ∧ Mem w0 hz0_1 w [blk b0_2 [(.int .i64 (q0_1.f.params)), (.int .i64 (q0_1.f.slots)), v0_1, (.slice p0_2 q0_1.long.length c0_2), (.slice p0_3 q0_1.sizes.length c0_3), (.slice p0_4 q0_1.places.length c0_4), (.int .i64 (q0_1.size))] 70, ow [(.slice p0_2 q0_1.long.length c0_2)] q0_1.long, ow [(.slice p0_3 q0_1.sizes.length c0_3)] q0_1.sizes, ow [(.slice p0_4 q0_1.places.length c0_4)] q0_1.places, ow [v1_2] s1_1]) ?_ ?_
      ·
        refine wp_block ?_
        refine wp_seq ?_
        refine wp_region_lit ?_
        refine st_y hf rfl rfl rfl (y_move rfl rfl) ?_
        clear hf a; intro a hf
        obtain ⟨x2_1, hx2_1, hq1_1⟩ := bnd hq1_1
        obtain ⟨h2_1, hx2_2⟩ := getI_some.1 hx2_1
        obtain ⟨b2_1, o2_1, c2_1, he⟩ := idx_form h1 hx2_2
        simp only [Value.slice.injEq, Option.some.injEq] at he; obtain ⟨rfl, _, rfl⟩ := he
        refine st_y hf rfl rfl rfl (y_indexAddr st_33 rfl rfl rfl h2_1 (idx_lt hx2_2)) ?_
        clear hf a; intro a hf
        refine st_y hf rfl rfl rfl (y_loadN (cs := [(.int .i64 (x2_1.op)), (.int .i64 (x2_1.a_)), (.int .i64 (x2_1.b)), (.int .i64 (x2_1.c)), (.int .i64 (x2_1.n_))]) Tryd.isAgg27 Tryd.sizeOf27 rfl rfl (flat_cells (cs := [(.int .i64 (x2_1.op)), (.int .i64 (x2_1.a_)), (.int .i64 (x2_1.b)), (.int .i64 (x2_1.c)), (.int .i64 (x2_1.n_))]) (hm.now (GT.mono hle0_1 h1)) hx2_2 rfl)) ?_
        clear hf a; intro a hf
        refine st_ef hf rfl rfl rfl (e_alloc hm Tryd.zeroValue27 rfl rfl) ?_
        clear hf a; rintro _ w2_1 a ⟨b2_2, rfl, hm⟩ hf
        refine st_y hf rfl rfl rfl (y_assign rfl rfl) ?_
        clear hf a; intro a hf
        refine st_ef0 hf rfl rfl (e_storeN 0 hf hm rfl Tryd.sizeOf27 rfl rfl rfl (one_cons rfl (one_cons rfl (one_cons rfl (one_cons rfl (one_cons rfl one_nil))))) rfl rfl) ?_
        clear hf a; rintro _ w2_2 a hm hf
        refine st_end ?_
        refine x_then_n ?_
        refine wp_seq ?_
        refine wp_seq ?_
        refine wp_region_lit ?_
        refine st_y hf rfl rfl rfl (y_fieldAddr fo_27_0 rfl rfl) ?_
        clear hf a; intro a hf
        refine st_y hf rfl rfl rfl (y_load1 Tryd.isAgg3 rfl rfl (hm.blk_cell 0 rfl rfl)) ?_
        clear hf a; intro a hf
        obtain ⟨r2_1, hx2_3, hq1_1⟩ := bnd hq1_1
        refine st_ef hf rfl rfl rfl (e_call hf rfl Tryd.call42 rfl (impl_jumpOp_ok _ x2_1.op _ hx2_3)) ?_
        clear hf a; rintro v2_1 w2_3 a ho2_1 hf
        obtain ⟨rfl, hB⟩ := ho2_1
        replace hm := hm.below' hB; clear hB
        refine st_y hf rfl rfl rfl (y_not rfl rfl) ?_
        clear hf a; intro a hf
        refine st_end ?_
        refine x_then_n ?_
        rcases bcases (!(r2_1)) with h2_2 | h2_2
        ·
          replace hq1_1 := (ite_t h2_2).symm.trans hq1_1
          have h2_3 := bnot_t' h2_2
          refine cond_t hf rfl h2_2 ?_
          refine wp_seq ?_
          refine wp_region_lit ?_
          refine st_y hf rfl rfl rfl (y_move rfl rfl) ?_
          clear hf a; intro a hf
          refine st_y hf rfl rfl rfl (y_loadN (cs := [(.int .i64 (x2_1.op)), (.int .i64 (x2_1.a_)), (.int .i64 (x2_1.b)), (.int .i64 (x2_1.c)), (.int .i64 (x2_1.n_))]) Tryd.isAgg27 Tryd.sizeOf27 rfl rfl (hm.blk_at 0 rfl)) ?_
          clear hf a; intro a hf
          obtain ⟨r2_2, hx2_4, hq1_1⟩ := bnd hq1_1
          refine st_ef hf rfl rfl rfl (e_call hf rfl Tryd.call45 rfl (impl_encoded_ok _ x2_1 _ hx2_4)) ?_
          clear hf a; rintro v2_2 w2_4 a ho2_2 hf
          obtain ⟨_, rfl, hB⟩ := ho2_2
          replace hm := hm.give hB; clear hB
          obtain ⟨ys2_1, hx2_5, hq1_1⟩ := bnd hq1_1
          obtain ⟨h2_4, h2_4e⟩ := appM_some.1 hx2_5
          refine st_ef hf rfl rfl rfl (e_append 6 et_24 hf hm rfl (hm.ow_rep 0 rfl) rfl rfl rfl h2_4) ?_
          clear hf a; rintro v2_4 w2_5 a hm hf
          rw [h2_4e] at hm
          refine st_y hf rfl rfl rfl (y_assign rfl rfl) ?_
          clear hf a; intro a hf
          refine st_end ?_
          refine x_then_n ?_
          refine wp_exit ?_
          refine x_then_exit ?_
          refine x_blk_hit ?_
          refine x_then_n ?_
          obtain rfl := Option.some.inj hq1_1
          exact ⟨v2_4, hf.sub ⟨rfl, rfl, rfl, rfl, rfl, trivial⟩, hm.pick [2, 3, 4, 5, 6] (by decide) rfl⟩
        ·
          replace hq1_1 := (ite_f h2_2).symm.trans hq1_1
          have h2_5 := bnot_f' h2_2
          refine cond_f hf rfl h2_2 ?_
          refine wp_skip ?_
          refine x_then_n ?_
          refine wp_seq ?_
          refine wp_region_lit ?_
          refine st_y hf rfl rfl rfl (y_fieldAddr fo_27_0 rfl rfl) ?_
          clear hf a; intro a hf
          refine st_y hf rfl rfl rfl (y_load1 Tryd.isAgg3 rfl rfl (hm.blk_cell 0 rfl rfl)) ?_
          clear hf a; intro a hf
          refine st_y hf rfl rfl rfl (y_conv8 Tryd.underlying3 Tryd.underlying5 rfl rfl) ?_
          clear hf a; intro a hf
          refine st_y hf rfl rfl rfl (y_assign rfl rfl) ?_
          clear hf a; intro a hf
          refine st_end ?_
          refine x_then_n ?_
          refine wp_seq ?_
          refine wp_seq ?_
          refine wp_region_lit ?_
          refine st_y hf rfl rfl rfl (y_move rfl rfl) ?_
          clear hf a; intro a hf
          refine st_y hf rfl rfl rfl (y_nilptr rfl rfl) ?_
          clear hf a; intro a hf
          refine st_y hf rfl rfl rfl (y_fieldAddr fo_70_1 rfl rfl) ?_
          clear hf a; intro a hf
          refine st_y hf rfl rfl rfl (y_load1 Tryd.isAgg68 rfl rfl (hm.blk_cell 1 rfl rfl)) ?_
          clear hf a; intro a hf
          refine st_y hf rfl rfl rfl (y_move rfl rfl) ?_
          clear hf a; intro a hf
          obtain ⟨x2_2, hx2_6, hq1_1⟩ := bnd hq1_1
          obtain ⟨h2_6, hx2_7⟩ := getI_some.1 hx2_6
          obtain ⟨b2_3, o2_2, c2_2, he⟩ := idx_form (hm.ow_rep 2 rfl) hx2_7
          simp only [Value.slice.injEq, Option.some.injEq] at he; obtain ⟨rfl, _, rfl⟩ := he
          refine st_y hf rfl rfl rfl (y_indexAddr st_68 rfl rfl rfl h2_6 (idx_lt hx2_7)) ?_
          clear hf a; intro a hf
          refine st_y hf rfl rfl rfl (y_load1 Tryd.isAgg4 rfl rfl ((flat_cells (cs := [(.bool (x2_2))]) (hm.ow_rep 2 rfl) hx2_7 rfl).cell (j := 0) rfl)) ?_
          clear hf a; intro a hf
          refine st_end ?_
          refine x_then_n ?_
          obtain ⟨s2_1, hq2_1, hq1_1⟩ := bnd hq1_1
          refine code_cut (K := fun a w => Fr 88 [(4, (.pointer (some ⟨b0_2, 0, none⟩))), (5, v1_1), (6, (.int .i64 (i1_1))), (7, (.pointer (some ⟨b2_2, 0, none⟩))), (8, (.int .u8 ((s2_1).toNat : Int))), (15, (.slice (some ⟨b2_1, o2_1, none⟩) f.ins.length c0_1)), (16, (.int .i64 ((f.ins.length : Int)))), (17, (.int .i64 (i1_1)))] a ∧ Mem w0 hz0_1 w [blk b0_2 [(.int .i64 (q0_1.f.params)), (.int .i64 (q0_1.f.slots)), v0_1, (.slice (some ⟨b2_3, o2_2, none⟩) q0_1.long.length c0_2), (.slice p0_3 q0_1.sizes.length c0_3), (.slice p0_4 q0_1.places.length c0_4), (.int .i64 (q0_1.size))] 70, ow [(.slice (some ⟨b2_3, o2_2, none⟩) q0_1.long.length c0_2)] q0_1.long, ow [(.slice p0_3 q0_1.sizes.length c0_3)] q0_1.sizes, ow [(.slice p0_4 q0_1.places.length c0_4)] q0_1.places, ow [v1_1] xs1_1, blk b2_2 [(.int .i64 (x2_1.op)), (.int .i64 (x2_1.a_)), (.int .i64 (x2_1.b)), (.int .i64 (x2_1.c)), (.int .i64 (x2_1.n_))] 27]) ?_ ?_
          ·
            rcases bcases (x2_2) with h3_1 | h3_1
            ·
              replace hq2_1 := (ite_t h3_1).symm.trans hq2_1
              refine cond_t hf rfl h3_1 ?_
              refine wp_region_lit ?_
              refine st_y hf rfl rfl rfl (y_move rfl rfl) ?_
              clear hf a; intro a hf
              refine st_y hf rfl rfl rfl (y_add8 (b := (byteI x2_1.op)) (c := (128 : UInt8)) rfl rfl rfl) ?_
              clear hf a; intro a hf
              refine st_y hf rfl rfl rfl (y_assign rfl rfl) ?_
              clear hf a; intro a hf
              refine st_end ?_
              refine x_then_n ?_
              obtain rfl := Option.some.inj hq2_1
              exact ⟨hf.sub ⟨rfl, rfl, rfl, rfl, rfl, rfl, rfl, rfl, trivial⟩, hm.pick [1, 2, 3, 4, 5, 0] (by decide) rfl⟩
            ·
              replace hq2_1 := (ite_f h3_1).symm.trans hq2_1
              refine cond_f hf rfl h3_1 ?_
              refine wp_skip ?_
              refine x_then_n ?_
              obtain rfl := Option.some.inj hq2_1
              exact ⟨hf.sub ⟨rfl, rfl, rfl, rfl, rfl, rfl, rfl, rfl, trivial⟩, hm.pick [1, 2, 3, 4, 5, 0] (by decide) rfl⟩
          ·
            clear hf hm
            rintro a w ⟨hf, hm⟩
            refine x_then_n ?_
            refine wp_seq ?_
            refine wp_region_lit ?_
            refine st_y hf rfl rfl rfl (y_move rfl rfl) ?_
            clear hf a; intro a hf
            refine st_y hf rfl rfl rfl (y_move rfl rfl) ?_
            clear hf a; intro a hf
            refine st_ef hf rfl rfl rfl (e_build (vs := #[(0, (.int .u8 ((s2_1).toNat : Int)))]) (cs := [(.int .u8 ((s2_1).toNat : Int))]) et_24 hf hm rfl rfl (by kernel_rfl) rfl rfl) ?_
            clear hf a; rintro _ w2_6 a ⟨b2_4, rfl, hm⟩ hf
            replace hm := hm.lit (xs := ([s2_1] : List UInt8)) 0 rfl rfl rfl rfl
            obtain ⟨ys2_2, hx2_8, hq1_1⟩ := bnd hq1_1
            obtain ⟨h2_7, h2_7e⟩ := appM_some.1 hx2_8
            refine st_ef hf rfl rfl rfl (e_append 5 et_24 hf hm rfl (hm.ow_rep 0 rfl) rfl rfl rfl h2_7) ?_
            clear hf a; rintro v2_5 w2_7 a hm hf
            rw [h2_7e] at hm
            refine st_y hf rfl rfl rfl (y_assign rfl rfl) ?_
            clear hf a; intro a hf
            refine st_end ?_
            refine x_then_n ?_
            refine wp_seq ?_
            refine wp_seq ?_
            refine wp_region_lit ?_
            refine st_y hf rfl rfl rfl (y_fieldAddr fo_27_0 rfl rfl) ?_
            clear hf a; intro a hf
            refine st_y hf rfl rfl rfl (y_load1 Tryd.isAgg3 rfl rfl (hm.blk_cell 6 rfl rfl)) ?_
            clear hf a; intro a hf
            refine st_y hf rfl rfl rfl (y_eql rfl rfl rfl) ?_
            clear hf a; intro a hf
            refine st_end ?_
            refine x_then_n ?_
            obtain ⟨s2_2, hq2_2, hq1_1⟩ := bnd hq1_1
            refine code_cut (K := fun a w => ∃ (v2_6 : Value), Fr 88 [(4, (.pointer (some ⟨b0_2, 0, none⟩))), (5, v2_6), (6, (.int .i64 (i1_1))), (7, (.pointer (some ⟨b2_2, 0, none⟩))), (15, (.slice (some ⟨b2_1, o2_1, none⟩) f.ins.length c0_1)), (16, (.int .i64 ((f.ins.length : Int)))), (17, (.int .i64 (i1_1)))] a ∧ Mem w0 hz0_1 w [blk b0_2 [(.int .i64 (q0_1.f.params)), (.int .i64 (q0_1.f.slots)), v0_1, (.slice (some ⟨b2_3, o2_2, none⟩) q0_1.long.length c0_2), (.slice p0_3 q0_1.sizes.length c0_3), (.slice p0_4 q0_1.places.length c0_4), (.int .i64 (q0_1.size))] 70, ow [(.slice (some ⟨b2_3, o2_2, none⟩) q0_1.long.length c0_2)] q0_1.long, ow [(.slice p0_3 q0_1.sizes.length c0_3)] q0_1.sizes, ow [(.slice p0_4 q0_1.places.length c0_4)] q0_1.places, ow [v2_6] s2_2, blk b2_2 [(.int .i64 (x2_1.op)), (.int .i64 (x2_1.a_)), (.int .i64 (x2_1.b)), (.int .i64 (x2_1.c)), (.int .i64 (x2_1.n_))] 27]) ?_ ?_
            ·
              rcases bcases (decide (x2_1.op = 21)) with h3_2 | h3_2
              ·
                replace hq2_2 := (ite_t h3_2).symm.trans hq2_2
                have h3_3 := of_decide_eq_true h3_2
                refine cond_t hf rfl h3_2 ?_
                refine wp_region_lit ?_
                refine st_y hf rfl rfl rfl (y_move rfl rfl) ?_
                clear hf a; intro a hf
                refine st_y hf rfl rfl rfl (y_fieldAddr fo_27_1 rfl rfl) ?_
                clear hf a; intro a hf
                refine st_y hf rfl rfl rfl (y_load1 Tryd.isAgg3 rfl rfl (hm.blk_cell 6 rfl rfl)) ?_
                clear hf a; intro a hf
                refine st_y hf rfl rfl rfl (y_conv8 Tryd.underlying3 Tryd.underlying5 rfl rfl) ?_
                clear hf a; intro a hf
                refine st_ef hf rfl rfl rfl (e_build (vs := #[(0, (.int .u8 (((byteI x2_1.a_)).toNat : Int)))]) (cs := [(.int .u8 (((byteI x2_1.a_)).toNat : Int))]) et_24 hf hm rfl rfl (by kernel_rfl) rfl rfl) ?_
                clear hf a; rintro _ w3_1 a ⟨b3_1, rfl, hm⟩ hf
                replace hm := hm.lit (xs := ([(byteI x2_1.a_)] : List UInt8)) 0 rfl rfl rfl rfl
                obtain ⟨ys3_1, hx3_1, hq2_2⟩ := bnd hq2_2
                obtain ⟨h3_4, h3_4e⟩ := appM_some.1 hx3_1
                refine st_ef hf rfl rfl rfl (e_append 6 et_24 hf hm rfl (hm.ow_rep 0 rfl) rfl rfl rfl h3_4) ?_
                clear hf a; rintro v3_1 w3_2 a hm hf
                rw [h3_4e] at hm
                refine st_y hf rfl rfl rfl (y_assign rfl rfl) ?_
                clear hf a; intro a hf
                refine st_end ?_
                refine x_then_n ?_
                obtain rfl := Option.some.inj hq2_2
                exact ⟨v3_1, hf.sub ⟨rfl, rfl, rfl, rfl, rfl, rfl, rfl, trivial⟩, hm.pick [2, 3, 4, 5, 6, 7] (by decide) rfl⟩
              ·
                replace hq2_2 := (ite_f h3_2).symm.trans hq2_2
                have h3_5 := of_decide_eq_false h3_2
                refine cond_f hf rfl h3_2 ?_
                refine wp_skip ?_
                refine x_then_n ?_
                obtain rfl := Option.some.inj hq2_2
                exact ⟨v2_5, hf.sub ⟨rfl, rfl, rfl, rfl, rfl, rfl, rfl, trivial⟩, hm.pick [1, 2, 3, 4, 5, 6] (by decide) rfl⟩
            ·
              clear hf hm
              rintro a w ⟨v2_6, hf, hm⟩
              refine x_then_n ?_
              refine wp_seq ?_
              refine wp_tree (.p 0 (.p 1 (.p 2 (.p 4 (.q 3 (.e 5 (.p 6 (.e 7 (.p 8 .fin) .nil)) .nil)))))) [5] [0, 1, 2, 4, 6, 8] (fun w => Mem w0 hz0_1 w [blk b0_2 [(.int .i64 (q0_1.f.params)), (.int .i64 (q0_1.f.slots)), v0_1, (.slice (some ⟨b2_3, o2_2, none⟩) q0_1.long.length c0_2), (.slice p0_3 q0_1.sizes.length c0_3), (.slice p0_4 q0_1.places.length c0_4), (.int .i64 (q0_1.size))] 70, ow [(.slice (some ⟨b2_3, o2_2, none⟩) q0_1.long.length c0_2)] q0_1.long, ow [(.slice p0_3 q0_1.sizes.length c0_3)] q0_1.sizes, ow [(.slice p0_4 q0_1.places.length c0_4)] q0_1.places, ow [v2_6] s2_2, blk b2_2 [(.int .i64 (x2_1.op)), (.int .i64 (x2_1.a_)), (.int .i64 (x2_1.b)), (.int .i64 (x2_1.c)), (.int .i64 (x2_1.n_))] 27]) (by kernel_rfl) (by kernel_rfl) (fun _ _ _ h => h.2) ?_
              replace hm := hm.drew
              have hS : Mem w0 hz0_1 _ [blk b0_2 [(.int .i64 (q0_1.f.params)), (.int .i64 (q0_1.f.slots)), v0_1, (.slice (some ⟨b2_3, o2_2, none⟩) q0_1.long.length c0_2), (.slice p0_3 q0_1.sizes.length c0_3), (.slice p0_4 q0_1.places.length c0_4), (.int .i64 (q0_1.size))] 70, ow [(.slice (some ⟨b2_3, o2_2, none⟩) q0_1.long.length c0_2)] q0_1.long, ow [(.slice p0_3 q0_1.sizes.length c0_3)] q0_1.sizes, ow [(.slice p0_4 q0_1.places.length c0_4)] q0_1.places, ow [v2_6] s2_2, blk b2_2 [(.int .i64 (x2_1.op)), (.int .i64 (x2_1.a_)), (.int .i64 (x2_1.b)), (.int .i64 (x2_1.c)), (.int .i64 (x2_1.n_))] 27] := hm.pick [0, 1, 2, 3, 4, 5] (by decide) rfl
              refine td_p hf rfl rfl rfl rfl (fun w => y_move rfl rfl) ?_
              clear hf a; intro a hf
              refine td_p hf rfl rfl rfl rfl (fun w => y_nilptr rfl rfl) ?_
              clear hf a; intro a hf
              refine td_p hf rfl rfl rfl rfl (fun w => y_fieldAddr fo_70_3 rfl rfl) ?_
              clear hf a; intro a hf
              refine td_p hf rfl rfl rfl rfl (fun w => y_fieldAddr fo_27_4 rfl rfl) ?_
              clear hf a; intro a hf
              refine td_y hf rfl rfl rfl rfl hS (fun w hm => y_load1 Tryd.isAgg46 rfl rfl (hm.blk_cell 0 rfl rfl)) ?_
              clear hf a; intro a hf
              refine te_one ?_
              refine td_ef hf rfl rfl rfl rfl (ef_y hf (y_load1 Tryd.isAgg3 rfl rfl (hm.blk_cell 5 rfl rfl))) ?_
              clear hf a; rintro _ _ a ⟨rfl, rfl⟩ hf
              refine ⟨fun _ => hS, ?_⟩
              obtain ⟨x2_3, hx2_9, hq1_1⟩ := bnd hq1_1
              obtain ⟨h2_8, hx2_10⟩ := getI_some.1 hx2_9
              obtain ⟨b2_5, o2_3, c2_3, he⟩ := idx_form (hm.ow_rep 3 rfl) hx2_10
              simp only [Value.slice.injEq, Option.some.injEq] at he; obtain ⟨rfl, _, rfl⟩ := he
              refine td_p hf rfl rfl rfl rfl (fun w => y_indexAddr st_46 rfl rfl rfl h2_8 (idx_lt hx2_10)) ?_
              clear hf a; intro a hf
              refine te_one ?_
              refine td_ef hf rfl rfl rfl rfl (ef_y hf (y_load1 Tryd.isAgg3 rfl rfl ((flat_cells (cs := [(.int .i64 (x2_3))]) (hm.ow_rep 3 rfl) hx2_10 rfl).cell (j := 0) rfl))) ?_
              clear hf a; rintro _ _ a ⟨rfl, rfl⟩ hf
              refine ⟨fun h => absurd h (by decide), ?_⟩
              refine td_p hf rfl rfl rfl rfl (fun w => y_assign rfl rfl) ?_
              clear hf a; intro a hf
              clear hS; refine td_end ?_
              refine x_then_n ?_
              refine wp_seq ?_
              refine wp_region_lit ?_
              refine st_y hf rfl rfl rfl (y_move rfl rfl) ?_
              clear hf a; intro a hf
              refine st_y hf rfl rfl rfl (y_nilptr rfl rfl) ?_
              clear hf a; intro a hf
              refine st_y hf rfl rfl rfl (y_fieldAddr fo_70_1 rfl rfl) ?_
              clear hf a; intro a hf
              refine st_y hf rfl rfl rfl (y_load1 Tryd.isAgg68 rfl rfl (hm.blk_cell 0 rfl rfl)) ?_
              clear hf a; intro a hf
              refine st_y hf rfl rfl rfl (y_move rfl rfl) ?_
              clear hf a; intro a hf
              obtain ⟨x2_4, hx2_11, hq1_1⟩ := bnd hq1_1
              obtain ⟨h2_9, hx2_12⟩ := getI_some.1 hx2_11
              refine st_y hf rfl rfl rfl (y_indexAddr st_68 rfl rfl rfl h2_9 (idx_lt hx2_12)) ?_
              clear hf a; intro a hf
              refine st_y hf rfl rfl rfl (y_load1 Tryd.isAgg4 rfl rfl ((flat_cells (cs := [(.bool (x2_4))]) (hm.ow_rep 1 rfl) hx2_12 rfl).cell (j := 0) rfl)) ?_
              clear hf a; intro a hf
              refine st_end ?_
              refine x_then_n ?_
              obtain ⟨s2_3, hq2_3, hq1_1⟩ := bnd hq1_1
              refine code_cut (K := fun a w => ∃ (v2_7 : Value), Fr 88 [(4, (.pointer (some ⟨b0_2, 0, none⟩))), (5, v2_7), (15, (.slice (some ⟨b2_1, o2_1, none⟩) f.ins.length c0_1)), (16, (.int .i64 ((f.ins.length : Int)))), (17, (.int .i64 (i1_1)))] a ∧ Mem w0 hz0_1 w [blk b0_2 [(.int .i64 (q0_1.f.params)), (.int .i64 (q0_1.f.slots)), v0_1, (.slice (some ⟨b2_3, o2_2, none⟩) q0_1.long.length c0_2), (.slice p0_3 q0_1.sizes.length c0_3), (.slice (some ⟨b2_5, o2_3, none⟩) q0_1.places.length c0_4), (.int .i64 (q0_1.size))] 70, ow [(.slice (some ⟨b2_3, o2_2, none⟩) q0_1.long.length c0_2)] q0_1.long, ow [(.slice p0_3 q0_1.sizes.length c0_3)] q0_1.sizes, ow [(.slice (some ⟨b2_5, o2_3, none⟩) q0_1.places.length c0_4)] q0_1.places, ow [v2_7] s2_3]) ?_ ?_
              ·
                rcases bcases (x2_4) with h3_6 | h3_6
                ·
                  replace hq2_3 := (ite_t h3_6).symm.trans hq2_3
                  refine cond_t hf rfl h3_6 ?_
                  refine wp_region_lit ?_
                  refine st_y hf rfl rfl rfl (y_move rfl rfl) ?_
                  clear hf a; intro a hf
                  refine st_y hf rfl rfl rfl (y_move rfl rfl) ?_
                  clear hf a; intro a hf
                  refine st_y hf rfl rfl rfl (y_rem rfl rfl rfl (by decide)) ?_
                  clear hf a; intro a hf
                  refine st_y hf rfl rfl rfl (y_conv8 Tryd.underlying3 Tryd.underlying5 rfl rfl) ?_
                  clear hf a; intro a hf
                  refine st_y hf rfl rfl rfl (y_move rfl rfl) ?_
                  clear hf a; intro a hf
                  refine st_y hf rfl rfl rfl (y_quo rfl rfl rfl (by decide)) ?_
                  clear hf a; intro a hf
                  refine st_y hf rfl rfl rfl (y_conv8 Tryd.underlying3 Tryd.underlying5 rfl rfl) ?_
                  clear hf a; intro a hf
                  refine st_ef hf rfl rfl rfl (e_build (vs := #[(0, (.int .u8 (((byteI (x2_3.tmod 256))).toNat : Int))), (1, (.int .u8 (((byteI (w64 (x2_3.tdiv 256)))).toNat : Int)))]) (cs := [(.int .u8 (((byteI (x2_3.tmod 256))).toNat : Int)), (.int .u8 (((byteI (w64 (x2_3.tdiv 256)))).toNat : Int))]) et_24 hf hm rfl rfl (by kernel_rfl) rfl rfl) ?_
                  clear hf a; rintro _ w3_3 a ⟨b3_2, rfl, hm⟩ hf
                  replace hm := hm.lit (xs := ([(byteI (x2_3.tmod 256)), (byteI (w64 (x2_3.tdiv 256)))] : List UInt8)) 0 rfl rfl rfl rfl
                  obtain ⟨ys3_2, hx3_2, hq2_3⟩ := bnd hq2_3
                  obtain ⟨h3_7, h3_7e⟩ := appM_some.1 hx3_2
                  refine st_ef hf rfl rfl rfl (e_append 5 et_24 hf hm rfl (hm.ow_rep 0 rfl) rfl rfl rfl h3_7) ?_
                  clear hf a; rintro v3_2 w3_4 a hm hf
                  rw [h3_7e] at hm
                  refine st_y hf rfl rfl rfl (y_assign rfl rfl) ?_
                  clear hf a; intro a hf
                  refine st_end ?_
                  refine x_then_n ?_
                  obtain rfl := Option.some.inj hq2_3
                  exact ⟨v3_2, hf.sub ⟨rfl, rfl, rfl, rfl, rfl, trivial⟩, hm.pick [1, 2, 3, 4, 5] (by decide) rfl⟩
                ·
                  replace hq2_3 := (ite_f h3_6).symm.trans hq2_3
                  refine cond_f hf rfl h3_6 ?_
                  refine wp_region_lit ?_
                  refine st_y hf rfl rfl rfl (y_move rfl rfl) ?_
                  clear hf a; intro a hf
                  refine st_y hf rfl rfl rfl (y_move rfl rfl) ?_
                  clear hf a; intro a hf
                  refine st_y hf rfl rfl rfl (y_move rfl rfl) ?_
                  clear hf a; intro a hf
                  obtain ⟨r3_1, hx3_3, hq2_3⟩ := bnd hq2_3
                  refine st_ef hf rfl rfl rfl (e_call hf rfl Tryd.call48 rfl (pimpl_layout__offset_ok _ q0_1 b0_2 v0_1 (hm.now h0_1) (.slice (some ⟨b2_3, o2_2, none⟩) q0_1.long.length c0_2) (hm.ow_rep 1 rfl) (.slice p0_3 q0_1.sizes.length c0_3) (hm.ow_rep 2 rfl) (.slice (some ⟨b2_5, o2_3, none⟩) q0_1.places.length c0_4) (hm.ow_rep 3 rfl) (hm.blk_cells 0 rfl).1 i1_1 _ hx3_3)) ?_
                  clear hf a; rintro v3_3 w3_5 a ho3_1 hf
                  obtain ⟨rfl, hB⟩ := ho3_1
                  replace hm := hm.below' hB; clear hB
                  refine st_y hf rfl rfl rfl (y_conv8 Tryd.underlying3 Tryd.underlying5 rfl rfl) ?_
                  clear hf a; intro a hf
                  refine st_ef hf rfl rfl rfl (e_build (vs := #[(0, (.int .u8 (((byteI r3_1)).toNat : Int)))]) (cs := [(.int .u8 (((byteI r3_1)).toNat : Int))]) et_24 hf hm rfl rfl (by kernel_rfl) rfl rfl) ?_
                  clear hf a; rintro _ w3_6 a ⟨b3_3, rfl, hm⟩ hf
                  replace hm := hm.lit (xs := ([(byteI r3_1)] : List UInt8)) 0 rfl rfl rfl rfl
                  obtain ⟨ys3_3, hx3_4, hq2_3⟩ := bnd hq2_3
                  obtain ⟨h3_8, h3_8e⟩ := appM_some.1 hx3_4
                  refine st_ef hf rfl rfl rfl (e_append 5 et_24 hf hm rfl (hm.ow_rep 0 rfl) rfl rfl rfl h3_8) ?_
                  clear hf a; rintro v3_4 w3_7 a hm hf
                  rw [h3_8e] at hm
                  refine st_y hf rfl rfl rfl (y_assign rfl rfl) ?_
                  clear hf a; intro a hf
                  refine st_end ?_
                  refine x_then_n ?_
                  obtain rfl := Option.some.inj hq2_3
                  exact ⟨v3_4, hf.sub ⟨rfl, rfl, rfl, rfl, rfl, trivial⟩, hm.pick [1, 2, 3, 4, 5] (by decide) rfl⟩
              ·
                clear hf hm
                rintro a w ⟨v2_7, hf, hm⟩
                refine x_blk_n ?_
                refine x_then_n ?_
                obtain rfl := Option.some.inj hq1_1
                exact ⟨v2_7, hf.sub ⟨rfl, rfl, rfl, rfl, rfl, trivial⟩, hm.pick [0, 1, 2, 3, 4] (by decide) rfl⟩
      ·
        clear hf hm
        rintro a w ⟨v1_2, hf, hm⟩
        refine x_then_n ?_
        refine wp_region_lit ?_
        refine st_y hf rfl rfl rfl (y_add64 rfl rfl rfl (by omega) (by omega)) ?_
        clear hf a; intro a hf
        refine st_y hf rfl rfl rfl (y_move rfl rfl) ?_
        clear hf a; intro a hf
        refine st_end ?_
        refine x_then_n ?_
        obtain rfl := Option.some.inj hb0_1
        exact ⟨_, rfl, v1_2, hf.sub ⟨rfl, rfl, rfl, rfl, rfl, trivial⟩, hm.pick [0, 1, 2, 3, 4] (by decide) rfl⟩
    ·
      clear hf hm
      rintro i0_1 xs0_1 a w ⟨v0_5, hf, hm⟩ hi0_1 hi0_2 rfl
      replace hq := sum_l hq
      refine wp_seq ?_
      refine wp_region_lit ?_
      refine st_y hf rfl rfl rfl (y_lss rfl rfl rfl) ?_
      clear hf a; intro a hf
      refine st_end ?_
      refine x_then_n ?_
      refine wp_seq ?_
      refine cond_f hf rfl (decide_eq_false (by omega)) ?_
      refine wp_exit ?_
      refine x_then_exit ?_
      refine x_then_exit ?_
      refine x_blk_hit ?_
      refine x_then_n ?_
      refine wp_seq ?_
      refine wp_region_lit ?_
      refine st_y hf rfl rfl rfl (y_move rfl rfl) ?_
      clear hf a; intro a hf
      refine st_y hf rfl rfl rfl (y_assign rfl rfl) ?_
      clear hf a; intro a hf
      refine st_y hf rfl rfl rfl (y_assign rfl rfl) ?_
      clear hf a; intro a hf
      refine st_end ?_
      refine x_then_n ?_
      refine wp_ret ?_
      obtain rfl := Option.some.inj hq
      replace hm := hm.thaw hle0_1
      refine ret_tmp2 hf Tryd.results17 rfl rfl ?_
      exact ⟨v0_5, rfl, hm.pick [4] (by decide) rfl⟩

theorem laws_FnEncodeMins_ok (w0 : World) (code : List UInt8) (v1 : Value) (h1 : GT.rep (hp w0) [v1] code) (hG0 : GT.rep (hp w0) [.slice (some ⟨0, 0, none⟩) 23 23] glob_impl_forms) (r : Bool) (hq : laws_FnEncodeMins code = some r) :
    Con Tryd.prog 4 [v1] w0 (fun v w' => v = (.bool (r)) ∧ Below w0.heap.size w0 w') := by
  unfold laws_FnEncodeMins at hq
  refine con_body (l := [(0, v1)]) Tryd.func4 rfl Tryd.ntmps4 (Args.get ⟨rfl, trivial⟩) rfl ?_
  intro a hf
  have hm := Mem.start w0
  refine wp_seq ?_
  refine wp_region_lit ?_
  refine st_y hf rfl rfl rfl (y_assign rfl rfl) ?_
  clear hf a; intro a hf
  refine st_end ?_
  refine x_then_n ?_
  refine wp_seq ?_
  refine wp_seq ?_
  refine wp_region_lit ?_
  refine st_y hf rfl rfl rfl (y_move rfl rfl) ?_
  clear hf a; intro a hf
  obtain ⟨p0_1, c0_1, he, hl0_1⟩ := ro_slice h1
  subst he
  refine st_y hf rfl rfl rfl (y_len_slice st_24.und rfl rfl) ?_
  clear hf a; intro a hf
  refine st_y hf rfl rfl rfl (y_gtr rfl rfl rfl) ?_
  clear hf a; intro a hf
  refine st_end ?_
  refine x_then_n ?_
  rcases bcases (decide (1048576 < ((code.length : Int)))) with h0_1 | h0_1
  ·
    replace hq := (ite_t h0_1).symm.trans hq
    have h0_2 := of_decide_eq_true h0_1
    refine cond_t hf rfl h0_1 ?_
    refine wp_seq ?_
    refine wp_region_lit ?_
    refine st_y hf rfl rfl rfl (y_assign rfl rfl) ?_
    clear hf a; intro a hf
    refine st_end ?_
    refine x_then_n ?_
    refine wp_ret ?_
    refine x_then_ret ?_
    obtain rfl := Option.some.inj hq
    refine ret_tmp hf Tryd.results4 rfl ?_
    exact ⟨rfl, hm.below⟩
  ·
    replace hq := (ite_f h0_1).symm.trans hq
    have h0_3 := of_decide_eq_false h0_1
    refine cond_f hf rfl h0_1 ?_
    refine wp_skip ?_
    refine x_then_n ?_
    refine wp_seq ?_
    refine wp_region_lit ?_
    refine st_y hf rfl rfl rfl (y_move rfl rfl) ?_
    clear hf a; intro a hf
    obtain ⟨r0_1, hx0_1, hq⟩ := bnd hq
    refine st_ef hf rfl rfl rfl (e_call hf rfl Tryd.call16 rfl (spec_DrawEncodeMins_ok _ code (.slice p0_1 code.length c0_1) (hm.now h1) _ hx0_1)) ?_
    clear hf a; rintro v0_1 w0_1 a ho0_1 hf
    obtain ⟨rfl, hB⟩ := ho0_1
    replace hm := hm.below' hB; clear hB
    refine st_ef hf rfl rfl rfl (e_alloc hm Tryd.zeroValue27 rfl rfl) ?_
    clear hf a; rintro _ w0_2 a ⟨b0_1, rfl, hm⟩ hf
    refine st_ef0 hf rfl rfl (e_storeN 0 hf hm rfl Tryd.sizeOf27 rfl rfl rfl (one_cons rfl (one_cons rfl (one_cons rfl (one_cons rfl (one_cons rfl one_nil))))) rfl rfl) ?_
    clear hf a; rintro _ w0_3 a hm hf
    refine st_end ?_
    refine x_then_n ?_
    refine wp_seq ?_
    refine wp_region_lit ?_
    refine st_y hf rfl rfl rfl (y_loadN (cs := [(.int .i64 (r0_1.op)), (.int .i64 (r0_1.a_)), (.int .i64 (r0_1.b)), (.int .i64 (r0_1.c)), (.int .i64 (r0_1.n_))]) Tryd.isAgg27 Tryd.sizeOf27 rfl rfl (hm.blk_at 0 rfl)) ?_
    clear hf a; intro a hf
    obtain ⟨r0_2, hx0_2, hq⟩ := bnd hq
    refine st_ef hf rfl rfl rfl (e_call hf rfl Tryd.call12 rfl (impl_EncodeMins_ok _ r0_1 (hm.now hG0) _ hx0_2)) ?_
    clear hf a; rintro v0_2 w0_4 a ho0_2 hf
    obtain ⟨v0_3, rfl, hB⟩ := ho0_2
    replace hm := hm.give hB; clear hB
    refine st_y hf rfl rfl rfl (y_move rfl rfl) ?_
    clear hf a; intro a hf
    refine st_y hf rfl rfl rfl (y_extract rfl rfl rfl) ?_
    clear hf a; intro a hf
    refine st_y hf rfl rfl rfl (y_extract rfl rfl rfl) ?_
    clear hf a; intro a hf
    refine st_y hf rfl rfl rfl (y_assign rfl rfl) ?_
    clear hf a; intro a hf
    refine st_y hf rfl rfl rfl (y_assign rfl rfl) ?_
    clear hf a; intro a hf
    refine st_end ?_
    refine x_then_n ?_
    refine wp_seq ?_
    refine wp_region_lit ?_
    refine st_y hf rfl rfl rfl (y_loadN (cs := [(.int .i64 (r0_1.op)), (.int .i64 (r0_1.a_)), (.int .i64 (r0_1.b)), (.int .i64 (r0_1.c)), (.int .i64 (r0_1.n_))]) Tryd.isAgg27 Tryd.sizeOf27 rfl rfl (hm.blk_at 1 rfl)) ?_
    clear hf a; intro a hf
    obtain ⟨r0_3, hx0_3, hq⟩ := bnd hq
    refine st_ef hf rfl rfl rfl (e_call hf rfl Tryd.call10 rfl (spec_EncodeMins_ok _ r0_1 _ hx0_3)) ?_
    clear hf a; rintro v0_4 w0_5 a ho0_3 hf
    obtain ⟨v0_5, rfl, hB⟩ := ho0_3
    replace hm := hm.give hB; clear hB
    refine st_y hf rfl rfl rfl (y_move rfl rfl) ?_
    clear hf a; intro a hf
    refine st_y hf rfl rfl rfl (y_extract rfl rfl rfl) ?_
    clear hf a; intro a hf
    refine st_y hf rfl rfl rfl (y_extract rfl rfl rfl) ?_
    clear hf a; intro a hf
    refine st_y hf rfl rfl rfl (y_assign rfl rfl) ?_
    clear hf a; intro a hf
    refine st_y hf rfl rfl rfl (y_assign rfl rfl) ?_
    clear hf a; intro a hf
    refine st_end ?_
    refine x_then_n ?_
    refine wp_seq ?_
    refine wp_seq ?_
    obtain ⟨s0_1, hq0_1, hq⟩ := bnd hq
    refine code_cut (K := fun a w => Fr 73 [(3, (.pointer (some ⟨b0_1, 0, none⟩))), (4, v0_3), (5, (.bool (r0_2.2))), (6, v0_5), (7, (.bool (r0_3.2))), (39, (.bool (s0_1)))] a ∧ Mem w0 (hp w0) w [blk b0_1 [(.int .i64 (r0_1.op)), (.int .i64 (r0_1.a_)), (.int .i64 (r0_1.b)), (.int .i64 (r0_1.c)), (.int .i64 (r0_1.n_))] 27, ow [v0_3] r0_2.1, ow [v0_5] r0_3.1]) ?_ ?_
    ·
      refine wp_region_lit ?_
      refine st_y hf rfl rfl rfl (y_move rfl rfl) ?_
      clear hf a; intro a hf
      refine st_y hf rfl rfl rfl (y_move rfl rfl) ?_
      clear hf a; intro a hf
      refine st_y hf rfl rfl rfl (y_neqb Tryd.underlying4 rfl rfl rfl) ?_
      clear hf a; intro a hf
      refine st_y hf rfl rfl rfl (y_move rfl rfl) ?_
      clear hf a; intro a hf
      rcases bcases (decide (r0_2.2 ≠ r0_3.2)) with h1_1 | h1_1
      ·
        replace hq0_1 := (ite_t h1_1).symm.trans hq0_1
        have h1_2 := of_decide_eq_true h1_1
        refine st_no hf rfl rfl (lk_b rfl h1_1) rfl rfl rfl ?_
        clear hf a; intro a hf
        refine st_no hf rfl rfl (lk_b rfl h1_1) rfl rfl rfl ?_
        clear hf a; intro a hf
        refine st_no hf rfl rfl (lk_b rfl h1_1) rfl rfl rfl ?_
        clear hf a; intro a hf
        refine st_no hf rfl rfl (lk_b rfl h1_1) rfl rfl rfl ?_
        clear hf a; intro a hf
        refine st_no hf rfl rfl (lk_b rfl h1_1) rfl rfl rfl ?_
        clear hf a; intro a hf
        refine st_y hf rfl rfl rfl (y_pick_t rfl (ev_b rfl h1_1) rfl) ?_
        clear hf a; intro a hf
        refine st_y hf rfl rfl rfl (y_move rfl rfl) ?_
        clear hf a; intro a hf
        refine st_no hf rfl rfl (lk_b rfl rfl) rfl rfl rfl ?_
        clear hf a; intro a hf
        refine st_no hf rfl rfl (lk_b rfl rfl) rfl rfl rfl ?_
        clear hf a; intro a hf
        refine st_y hf rfl rfl rfl (y_pick_t rfl (ev_b rfl rfl) rfl) ?_
        clear hf a; intro a hf
        refine st_end ?_
        refine x_then_n ?_
        obtain rfl := Option.some.inj hq0_1
        exact ⟨hf.sub ⟨rfl, rfl, rfl, rfl, rfl, rfl, trivial⟩, hm.pick [2, 1, 0] (by decide) rfl⟩
      ·
        replace hq0_1 := (ite_f h1_1).symm.trans hq0_1
        have h1_3 := of_decide_eq_false h1_1
        refine st_yg hf rfl rfl (lk_b rfl h1_1) rfl rfl (y_move rfl rfl) ?_
        clear hf a; intro a hf
        refine st_yg hf rfl rfl (lk_b rfl h1_1) rfl rfl (y_bytesStr (xs := r0_2.1) Tryd.underlying24 Tryd.underlying5 Tryd.underlying9 rfl rfl (hm.ow_rep 1 rfl)) ?_
        clear hf a; intro a hf
        refine st_yg hf rfl rfl (lk_b rfl h1_1) rfl rfl (y_move rfl rfl) ?_
        clear hf a; intro a hf
        refine st_yg hf rfl rfl (lk_b rfl h1_1) rfl rfl (y_bytesStr (xs := r0_3.1) Tryd.underlying24 Tryd.underlying5 Tryd.underlying9 rfl rfl (hm.ow_rep 0 rfl)) ?_
        clear hf a; intro a hf
        refine st_yg hf rfl rfl (lk_b rfl h1_1) rfl rfl (y_neqs (p := (strL r0_2.1)) (q := (strL r0_3.1)) rfl rfl rfl) ?_
        clear hf a; intro a hf
        refine st_y hf rfl rfl rfl (y_pick_f rfl (ev_b rfl h1_1) rfl) ?_
        clear hf a; intro a hf
        refine st_y hf rfl rfl rfl (y_move rfl rfl) ?_
        clear hf a; intro a hf
        rcases bcases (decide ((strL r0_2.1) ≠ (strL r0_3.1))) with h1_4 | h1_4
        ·
          replace hq0_1 := (ite_t h1_4).symm.trans hq0_1
          have h1_5 := of_decide_eq_true h1_4
          refine st_no hf rfl rfl (lk_b rfl h1_4) rfl rfl rfl ?_
          clear hf a; intro a hf
          refine st_no hf rfl rfl (lk_b rfl h1_4) rfl rfl rfl ?_
          clear hf a; intro a hf
          refine st_y hf rfl rfl rfl (y_pick_t rfl (ev_b rfl h1_4) rfl) ?_
          clear hf a; intro a hf
          refine st_end ?_
          refine x_then_n ?_
          obtain rfl := Option.some.inj hq0_1
          exact ⟨hf.sub ⟨rfl, rfl, rfl, rfl, rfl, rfl, trivial⟩, hm.pick [2, 1, 0] (by decide) rfl⟩
        ·
          replace hq0_1 := (ite_f h1_4).symm.trans hq0_1
          have h1_6 := of_decide_eq_false h1_4
          refine st_yg hf rfl rfl (lk_b rfl h1_4) rfl rfl (y_move rfl rfl) ?_
          clear hf a; intro a hf
          refine st_yg hf rfl rfl (lk_b rfl h1_4) rfl rfl (y_not rfl rfl) ?_
          clear hf a; intro a hf
          refine st_y hf rfl rfl rfl (y_pick_f rfl (ev_b rfl h1_4) rfl) ?_
          clear hf a; intro a hf
          refine st_end ?_
          refine x_then_n ?_
          obtain rfl := Option.some.inj hq0_1
          exact ⟨hf.sub ⟨rfl, rfl, rfl, rfl, rfl, rfl, trivial⟩, hm.pick [2, 1, 0] (by decide) rfl⟩
    ·
      clear hf hm
      rintro a w ⟨hf, hm⟩
      refine x_then_n ?_
      rcases bcases (s0_1) with h0_4 | h0_4
      ·
        replace hq := (ite_t h0_4).symm.trans hq
        refine cond_t hf rfl h0_4 ?_
        refine wp_seq ?_
        obtain ⟨s0_2, hq0_2, hq⟩ := bnd hq
        refine code_cut (K := fun a w => Fr 73 [(2, (.bool (s0_2)))] a ∧ Mem w0 (hp w0) w []) ?_ ?_
        ·
          refine wp_region_lit ?_
          refine st_y hf rfl rfl rfl (y_move rfl rfl) ?_
          clear hf a; intro a hf
          refine st_y hf rfl rfl rfl (y_move rfl rfl) ?_
          clear hf a; intro a hf
          refine st_y hf rfl rfl rfl (y_eqlb Tryd.underlying4 rfl rfl rfl) ?_
          clear hf a; intro a hf
          refine st_y hf rfl rfl rfl (y_move rfl rfl) ?_
          clear hf a; intro a hf
          rcases bcases (decide (r0_2.2 = r0_3.2)) with h1_7 | h1_7
          ·
            replace hq0_2 := (ite_t h1_7).symm.trans hq0_2
            have h1_8 := of_decide_eq_true h1_7
            refine st_yg hf rfl rfl (lk_b rfl h1_7) rfl rfl (y_move rfl rfl) ?_
            clear hf a; intro a hf
            refine st_yg hf rfl rfl (lk_b rfl h1_7) rfl rfl (y_bytesStr (xs := r0_2.1) Tryd.underlying24 Tryd.underlying5 Tryd.underlying9 rfl rfl (hm.ow_rep 1 rfl)) ?_
            clear hf a; intro a hf
            refine st_yg hf rfl rfl (lk_b rfl h1_7) rfl rfl (y_move rfl rfl) ?_
            clear hf a; intro a hf
            refine st_yg hf rfl rfl (lk_b rfl h1_7) rfl rfl (y_bytesStr (xs := r0_3.1) Tryd.underlying24 Tryd.underlying5 Tryd.underlying9 rfl rfl (hm.ow_rep 2 rfl)) ?_
            clear hf a; intro a hf
            refine st_yg hf rfl rfl (lk_b rfl h1_7) rfl rfl (y_eqls (p := (strL r0_2.1)) (q := (strL r0_3.1)) rfl rfl rfl) ?_
            clear hf a; intro a hf
            refine st_y hf rfl rfl rfl (y_pick_t rfl (ev_b rfl h1_7) rfl) ?_
            clear hf a; intro a hf
            refine st_y hf rfl rfl rfl (y_assign rfl rfl) ?_
            clear hf a; intro a hf
            refine st_end ?_
            refine x_then_n ?_
            obtain rfl := Option.some.inj hq0_2
            exact ⟨hf.sub ⟨rfl, trivial⟩, hm.pick [] (by decide) rfl⟩
          ·
            replace hq0_2 := (ite_f h1_7).symm.trans hq0_2
            have h1_9 := of_decide_eq_false h1_7
            refine st_no hf rfl rfl (lk_b rfl h1_7) rfl rfl rfl ?_
            clear hf a; intro a hf
            refine st_no hf rfl rfl (lk_b rfl h1_7) rfl rfl rfl ?_
            clear hf a; intro a hf
            refine st_no hf rfl rfl (lk_b rfl h1_7) rfl rfl rfl ?_
            clear hf a; intro a hf
            refine st_no hf rfl rfl (lk_b rfl h1_7) rfl rfl rfl ?_
            clear hf a; intro a hf
            refine st_no hf rfl rfl (lk_b rfl h1_7) rfl rfl rfl ?_
            clear hf a; intro a hf
            refine st_y hf rfl rfl rfl (y_pick_f rfl (ev_b rfl h1_7) rfl) ?_
            clear hf a; intro a hf
            refine st_y hf rfl rfl rfl (y_assign rfl rfl) ?_
            clear hf a; intro a hf
            refine st_end ?_
            refine x_then_n ?_
            obtain rfl := Option.some.inj hq0_2
            exact ⟨hf.sub ⟨rfl, trivial⟩, hm.pick [] (by decide) rfl⟩
        ·
          clear hf hm
          rintro a w ⟨hf, hm⟩
          refine x_then_n ?_
          refine wp_ret ?_
          refine x_then_ret ?_
          obtain rfl := Option.some.inj hq
          refine ret_tmp hf Tryd.results4 rfl ?_
          exact ⟨rfl, hm.below⟩
      ·
        replace hq := (ite_f h0_4).symm.trans hq
        refine cond_f hf rfl h0_4 ?_
        refine wp_skip ?_
        refine x_then_n ?_
        refine wp_seq ?_
        refine wp_region_lit ?_
        refine st_y hf rfl rfl rfl (y_loadN (cs := [(.int .i64 (r0_1.op)), (.int .i64 (r0_1.a_)), (.int .i64 (r0_1.b)), (.int .i64 (r0_1.c)), (.int .i64 (r0_1.n_))]) Tryd.isAgg27 Tryd.sizeOf27 rfl rfl (hm.blk_at 0 rfl)) ?_
        clear hf a; intro a hf
        refine st_y hf rfl rfl rfl (y_loadN (cs := [(.int .i64 (r0_1.op)), (.int .i64 (r0_1.a_)), (.int .i64 (r0_1.b)), (.int .i64 (r0_1.c)), (.int .i64 (r0_1.n_))]) Tryd.isAgg27 Tryd.sizeOf27 rfl rfl (hm.blk_at 0 rfl)) ?_
        clear hf a; intro a hf
        refine st_y hf rfl rfl rfl (y_build (vs := [(0, (.int .i64 (22))), (1, (.int .i64 (3)))]) (cs := #[(.int .i64 (22)), (.int .i64 (3)), (.int .i64 (0)), (.int .i64 (0)), (.int .i64 (0))]) rfl rfl (by kernel_rfl)) ?_
        clear hf a; intro a hf
        refine st_ef hf rfl rfl rfl (e_build (vs := #[(0, (.agg #[(.int .i64 (r0_1.op)), (.int .i64 (r0_1.a_)), (.int .i64 (r0_1.b)), (.int .i64 (r0_1.c)), (.int .i64 (r0_1.n_))])), (1, (.agg #[(.int .i64 (r0_1.op)), (.int .i64 (r0_1.a_)), (.int .i64 (r0_1.b)), (.int .i64 (r0_1.c)), (.int .i64 (r0_1.n_))])), (2, (.agg #[(.int .i64 (22)), (.int .i64 (3)), (.int .i64 (0)), (.int .i64 (0)), (.int .i64 (0))]))]) (cs := [(.int .i64 (r0_1.op)), (.int .i64 (r0_1.a_)), (.int .i64 (r0_1.b)), (.int .i64 (r0_1.c)), (.int .i64 (r0_1.n_)), (.int .i64 (r0_1.op)), (.int .i64 (r0_1.a_)), (.int .i64 (r0_1.b)), (.int .i64 (r0_1.c)), (.int .i64 (r0_1.n_)), (.int .i64 (22)), (.int .i64 (3)), (.int .i64 (0)), (.int .i64 (0)), (.int .i64 (0))]) et_33 hf hm rfl rfl (by kernel_rfl) rfl rfl) ?_
        clear hf a; rintro _ w0_6 a ⟨b0_2, rfl, hm⟩ hf
        replace hm := hm.lit (xs := ([r0_1, r0_1, (⟨22, 3, 0, 0, 0⟩ : Mins)] : List Mins)) 0 rfl rfl rfl rfl
        refine st_y hf rfl rfl rfl (y_build (vs := [(0, (.int .i64 (3))), (1, (.int .i64 (64))), (2, (.slice (some ⟨b0_2, 0, none⟩) 3 3))]) (cs := #[(.int .i64 (3)), (.int .i64 (64)), (.slice (some ⟨b0_2, 0, none⟩) 3 3)]) rfl rfl (by kernel_rfl)) ?_
        clear hf a; intro a hf
        refine st_ef hf rfl rfl rfl (e_alloc hm Tryd.zeroValue35 rfl rfl) ?_
        clear hf a; rintro _ w0_7 a ⟨b0_3, rfl, hm⟩ hf
        refine st_ef0 hf rfl rfl (e_storeN 0 hf hm rfl Tryd.sizeOf35 rfl rfl rfl (one_cons rfl (one_cons rfl (one_cons rfl one_nil))) rfl rfl) ?_
        clear hf a; rintro _ w0_8 a hm hf
        refine st_end ?_
        refine x_then_n ?_
        refine wp_seq ?_
        refine wp_region_lit ?_
        refine st_y hf rfl rfl rfl (y_loadN (cs := [(.int .i64 (3)), (.int .i64 (64)), (.slice (some ⟨b0_2, 0, none⟩) 3 3)]) Tryd.isAgg35 Tryd.sizeOf35 rfl rfl (hm.blk_at 0 rfl)) ?_
        clear hf a; intro a hf
        obtain ⟨r0_4, hx0_4, hq⟩ := bnd hq
        refine st_ef hf rfl rfl rfl (e_call hf rfl Tryd.call17 rfl (impl_EncodeFn_ok _ (⟨3, 64, ([r0_1, r0_1, (⟨22, 3, 0, 0, 0⟩ : Mins)] : List Mins)⟩ : Mfn) (.slice (some ⟨b0_2, 0, none⟩) 3 3) (hm.ow_rep 1 rfl) (hm.now hG0) _ hx0_4)) ?_
        clear hf a; rintro v0_6 w0_9 a ho0_4 hf
        obtain ⟨v0_7, rfl, hB⟩ := ho0_4
        replace hm := hm.give hB; clear hB
        refine st_y hf rfl rfl rfl (y_move rfl rfl) ?_
        clear hf a; intro a hf
        refine st_y hf rfl rfl rfl (y_extract rfl rfl rfl) ?_
        clear hf a; intro a hf
        refine st_y hf rfl rfl rfl (y_extract rfl rfl rfl) ?_
        clear hf a; intro a hf
        refine st_y hf rfl rfl rfl (y_assign rfl rfl) ?_
        clear hf a; intro a hf
        refine st_y hf rfl rfl rfl (y_assign rfl rfl) ?_
        clear hf a; intro a hf
        refine st_end ?_
        refine x_then_n ?_
        refine wp_seq ?_
        obtain ⟨s0_3, hq0_3, hq⟩ := bnd hq
        refine code_cut (K := fun a w => Fr 73 [(2, (.bool (s0_3)))] a ∧ Mem w0 (hp w0) w []) ?_ ?_
        ·
          refine wp_region_lit ?_
          refine st_y hf rfl rfl rfl (y_move rfl rfl) ?_
          clear hf a; intro a hf
          refine st_y hf rfl rfl rfl (y_not rfl rfl) ?_
          clear hf a; intro a hf
          refine st_y hf rfl rfl rfl (y_move rfl rfl) ?_
          clear hf a; intro a hf
          rcases bcases (!(r0_4.2)) with h1_10 | h1_10
          ·
            replace hq0_3 := (ite_t h1_10).symm.trans hq0_3
            have h1_11 := bnot_t' h1_10
            refine st_no hf rfl rfl (lk_b rfl h1_10) rfl rfl rfl ?_
            clear hf a; intro a hf
            refine st_no hf rfl rfl (lk_b rfl h1_10) rfl rfl rfl ?_
            clear hf a; intro a hf
            refine st_no hf rfl rfl (lk_b rfl h1_10) rfl rfl rfl ?_
            clear hf a; intro a hf
            refine st_no hf rfl rfl (lk_b rfl h1_10) rfl rfl rfl ?_
            clear hf a; intro a hf
            refine st_no hf rfl rfl (lk_b rfl h1_10) rfl rfl rfl ?_
            clear hf a; intro a hf
            refine st_no hf rfl rfl (lk_b rfl h1_10) rfl rfl rfl ?_
            clear hf a; intro a hf
            refine st_no hf rfl rfl (lk_b rfl h1_10) rfl rfl rfl ?_
            clear hf a; intro a hf
            refine st_no hf rfl rfl (lk_b rfl h1_10) rfl rfl rfl ?_
            clear hf a; intro a hf
            refine st_no hf rfl rfl (lk_b rfl h1_10) rfl rfl rfl ?_
            clear hf a; intro a hf
            refine st_y hf rfl rfl rfl (y_pick_t rfl (ev_b rfl h1_10) rfl) ?_
            clear hf a; intro a hf
            refine st_y hf rfl rfl rfl (y_assign rfl rfl) ?_
            clear hf a; intro a hf
            refine st_end ?_
            refine x_then_n ?_
            obtain rfl := Option.some.inj hq0_3
            exact ⟨hf.sub ⟨rfl, trivial⟩, hm.pick [] (by decide) rfl⟩
          ·
            replace hq0_3 := (ite_f h1_10).symm.trans hq0_3
            have h1_12 := bnot_f' h1_10
            refine st_yg hf rfl rfl (lk_b rfl h1_10) rfl rfl (y_move rfl rfl) ?_
            clear hf a; intro a hf
            refine st_yg hf rfl rfl (lk_b rfl h1_10) rfl rfl (y_bytesStr (xs := r0_4.1) Tryd.underlying24 Tryd.underlying5 Tryd.underlying9 rfl rfl (hm.ow_rep 0 rfl)) ?_
            clear hf a; intro a hf
            refine st_yg hf rfl rfl (lk_b rfl h1_10) rfl rfl (y_move rfl rfl) ?_
            clear hf a; intro a hf
            refine st_yg hf rfl rfl (lk_b rfl h1_10) rfl rfl (y_bytesStr (xs := r0_2.1) Tryd.underlying24 Tryd.underlying5 Tryd.underlying9 rfl rfl (hm.ow_rep 4 rfl)) ?_
            clear hf a; intro a hf
            refine st_yg hf rfl rfl (lk_b rfl h1_10) rfl rfl (y_move rfl rfl) ?_
            clear hf a; intro a hf
            refine st_yg hf rfl rfl (lk_b rfl h1_10) rfl rfl (y_bytesStr (xs := r0_2.1) Tryd.underlying24 Tryd.underlying5 Tryd.underlying9 rfl rfl (hm.ow_rep 4 rfl)) ?_
            clear hf a; intro a hf
            obtain ⟨x1_1, hx1_1, hq0_3⟩ := bnd hq0_3
            have h1_13 := catS_some.1 hx1_1
            refine st_yg hf rfl rfl (lk_b rfl h1_10) rfl rfl (y_adds (p := (strL r0_2.1)) (q := (strL r0_2.1)) (u := x1_1) rfl rfl rfl h1_13) ?_
            clear hf a; intro a hf
            obtain ⟨x1_2, hx1_2, hq0_3⟩ := bnd hq0_3
            have h1_14 := catS_some.1 hx1_2
            refine st_yg hf rfl rfl (lk_b rfl h1_10) rfl rfl (y_adds (p := x1_1) (q := (mkS [22, 3])) (u := x1_2) rfl rfl rfl h1_14) ?_
            clear hf a; intro a hf
            refine st_yg hf rfl rfl (lk_b rfl h1_10) rfl rfl (y_eqls (p := (strL r0_4.1)) (q := x1_2) rfl rfl rfl) ?_
            clear hf a; intro a hf
            refine st_y hf rfl rfl rfl (y_pick_f rfl (ev_b rfl h1_10) rfl) ?_
            clear hf a; intro a hf
            refine st_y hf rfl rfl rfl (y_assign rfl rfl) ?_
            clear hf a; intro a hf
            refine st_end ?_
            refine x_then_n ?_
            obtain rfl := Option.some.inj hq0_3
            exact ⟨hf.sub ⟨rfl, trivial⟩, hm.pick [] (by decide) rfl⟩
        ·
          clear hf hm
          rintro a w ⟨hf, hm⟩
          refine x_then_n ?_
          refine wp_ret ?_
          obtain rfl := Option.some.inj hq
          refine ret_tmp hf Tryd.results4 rfl ?_
          exact ⟨rfl, hm.below⟩

end Go.Proofs.YtmhjfaoefcdelaaDoor
