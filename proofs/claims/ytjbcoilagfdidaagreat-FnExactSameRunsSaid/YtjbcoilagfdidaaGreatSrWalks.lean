/- A part of the proof of FnExactSameRunsSaid. -/
import Derived.Test.YtjbcoilagfdidaaGreatSrWalksC
namespace Go.Proofs.YtjbcoilagfdidaaGreat
open Go Go.Wk Go.RowKit
set_option maxRecDepth 4000
set_option maxHeartbeats 4000000

theorem run_endOf (e : Int) (w : World) : (Instr.typeAssert (.iface 97 (.int .i64 e)) 20 97 true).run Tryz.prog w = .ok (.tuple #[.int .i64 e, .bool true]) w := by kernel_rfl

theorem catch_panicking (p : Addr) (x e : Int) (older : List PanicEntry) (w : World) (hc : w.cell? p = some (.int .i64 x)) (hz : w.frozen? p = false) :
    CallsD Tryz.prog 63 #[.pointer (some p)] (.panicking ({ v := .iface 97 (.int .i64 e), recovered := false } :: older)) w fun r u' w' =>
      r = .returned (.tuple #[]) ∧ u' = .panicking ({ v := .iface 97 (.int .i64 e), recovered := true } :: older) ∧ w' = w.setCell p (.int .i64 e) := by
  refine callsD_of_wpS Tryz.func63 rfl fun c₀ cs hu => ?_
  apply wpS_seq
  apply wpS_region
  simp [wpOpsS, go_sem, recoverD, hu, Tryz.ntmps63, Exit.thenS]
  apply wpS_seq
  apply wpS_region
  simp [wpOpsS, go_sem, recoverD, hu, Tryz.ntmps63, Exit.thenS]
  refine wpS_cond (t := true) (by simp [Act.eval, Array.replicate]) ?_
  simp only [if_true]
  apply wpS_seq
  apply wpS_region
  simp [wpOpsS, go_sem, Exit.thenS, run_endOf]
  apply wpS_seq
  apply wpS_seq
  apply wpS_region
  simp [wpOpsS, go_sem, Exit.thenS]
  refine wpS_cond (t := false) (by simp [Act.eval, Array.replicate]) ?_
  simp only [Bool.false_eq_true, if_false]
  refine wpS_of_wp (wp_skip ?_)
  simp only [Exit.thenS]
  apply wpS_region
  simp [wpOpsS, go_sem, hc, hz, bodyPostS, results, Tryz.results63]

theorem catch_idle (p : Addr) (w : World) :
    CallsD Tryz.prog 63 #[.pointer (some p)] .returning w fun e u' w' => e = .returned (.tuple #[]) ∧ u' = .returning ∧ w' = w := by
  refine callsD_of_wpS Tryz.func63 rfl fun c₀ cs hu => ?_
  apply wpS_seq
  apply wpS_region
  simp [wpOpsS, go_sem, recoverD, hu, Tryz.ntmps63, Exit.thenS]
  apply wpS_seq
  apply wpS_region
  simp [wpOpsS, go_sem, recoverD, hu, Tryz.ntmps63, Exit.thenS]
  refine wpS_cond (t := false) (by simp [Act.eval, Array.replicate]) ?_
  simp only [Bool.false_eq_true, if_false]
  refine wpS_of_wp (wp_skip ?_)
  cases c₀
  simp_all [bodyPostS, results, Tryz.results63]

theorem caught_ok (w0 : World) (hz : Heap) (L : List Ch) (fid : Nat) (cs : List Value) (PR : List Ch → Prop) (PX : Int → List Ch → Prop)
    (hm0 : Mem w0 hz w0 L) (hcall : ∀ us w, (callFunc fid us).run Tryz.prog w = .ok (.enter fid us) w)
    (hrun : ∀ w1 hz1, Heap.le hz hz1 → Mem w1 hz1 w1 L → ConX Tryz.prog fid cs w1 (fun v w' => ∃ M, PR M ∧ Mem w1 hz1 w' M) (fun c w' => ∃ e M, PX e M ∧ c = pch 97 e ∧ Mem w1 hz1 w' M)) :
    Con Tryz.prog 46 [.func (.func fid) #[] cs.toArray] w0 (fun v w' => (∃ M, PR M ∧ v = .int .i64 0 ∧ Mem w0 hz w' M) ∨ (∃ e M, PX e M ∧ v = .int .i64 e ∧ Mem w0 hz w' M)) := by
  have hmf : ∀ (fn : Fn) (first cap : Array Value) (w : World), (Instr.makeFunc fn first cap).run Tryz.prog w = .ok (.func fn first cap) w := fun _ _ _ _ => rfl
  unfold Con
  go_enter_defers Tryz.func46, Tryz.ntmps46
  go_wp2
  have hm := hm0.alloc [.int .i64 0] 3
  obtain ⟨hz', hle, hm1, hk⟩ := hm.lent1
  refine Calls.mono (hrun _ hz' hle hm1) ?_
  intro e w' he
  cases e with
  | returned v =>
    obtain ⟨M, hP, hM⟩ := he
    have hm2 := hk _ _ hM
    have hkk : (M ++ [blk w0.heap.size [.int .i64 0] 3])[M.length]? = some (blk w0.heap.size [.int .i64 0] 3) := by simp
    have hb := (hm2.blk_cells M.length hkk).1
    have hc : w'.cell? ⟨w0.heap.size, 0, none⟩ = some (.int .i64 0) := by simp [World.cell?, hb]
    have hf : w'.frozen? ⟨w0.heap.size, 0, none⟩ = false := by simp [World.frozen?, hb]
    go_wp2
    have hc2 : (w'.setCell ⟨w0.heap.size, 0, none⟩ (.int .i64 0)).cell? ⟨w0.heap.size, 0, none⟩ = some (.int .i64 0) := World.cell?_setCell_same _ _ _ hc
    have hm3 : Mem w0 hz (w'.setCell ⟨w0.heap.size, 0, none⟩ (.int .i64 0)) M := by
      have h3 := hm2.blk_set (i := 0) (v := .int .i64 0) M.length hkk
      refine h3.pick (List.range M.length) List.nodup_range ?_
      apply List.ext_getElem?
      intro i
      by_cases hi : i < M.length
      · rw [List.getElem?_map, List.getElem?_range hi, List.getElem?_map, Option.map_some, List.getElem?_set_ne (by omega), List.getElem?_append_left hi, List.getElem?_eq_getElem hi]; rfl
      · simp [List.getElem?_map, List.getElem?_eq_none (show M.length ≤ i by omega), List.getElem?_eq_none (show (List.range M.length).length ≤ i by simp; omega)]
    refine leaves_cons (f := 63) (args := #[.pointer (some ⟨w0.heap.size, 0, none⟩)]) (by simp) (by simp [go_sem]) ?_
    refine (catch_idle ⟨w0.heap.size, 0, none⟩ _).mono ?_
    rintro e' u' w'' ⟨rfl, rfl, rfl⟩
    simp [Leaves, settle, results, Tryz.results46, go_sem, hc2]
    exact .inl ⟨M, hP, rfl, hm3⟩
  | panicked c =>
    obtain ⟨e, M, hP, rfl, hM⟩ := he
    have hm2 := hk _ _ hM
    have hkk : (M ++ [blk w0.heap.size [.int .i64 0] 3])[M.length]? = some (blk w0.heap.size [.int .i64 0] 3) := by simp
    have hb := (hm2.blk_cells M.length hkk).1
    have hc : w'.cell? ⟨w0.heap.size, 0, none⟩ = some (.int .i64 0) := by simp [World.cell?, hb]
    have hf : w'.frozen? ⟨w0.heap.size, 0, none⟩ = false := by simp [World.frozen?, hb]
    refine leaves_cons (f := 63) (args := #[.pointer (some ⟨w0.heap.size, 0, none⟩)]) (by simp) (by simp [go_sem]) ?_
    refine (catch_panicking ⟨w0.heap.size, 0, none⟩ 0 e [] _ hc hf).mono ?_
    rintro e' u' w'' ⟨rfl, rfl, rfl⟩
    have hc2 : (w'.setCell ⟨w0.heap.size, 0, none⟩ (.int .i64 e)).cell? ⟨w0.heap.size, 0, none⟩ = some (.int .i64 e) := World.cell?_setCell_same _ _ _ hc
    have hm3 : Mem w0 hz (w'.setCell ⟨w0.heap.size, 0, none⟩ (.int .i64 e)) M := by
      have h3 := hm2.blk_set (i := 0) (v := .int .i64 e) M.length hkk
      refine h3.pick (List.range M.length) List.nodup_range ?_
      apply List.ext_getElem?
      intro i
      by_cases hi : i < M.length
      · rw [List.getElem?_map, List.getElem?_range hi, List.getElem?_map, Option.map_some, List.getElem?_set_ne (by omega), List.getElem?_append_left hi, List.getElem?_eq_getElem hi]; rfl
      · simp [List.getElem?_map, List.getElem?_eq_none (show M.length ≤ i by omega), List.getElem?_eq_none (show (List.range M.length).length ≤ i by simp; omega)]
    simp [Leaves, settle, results, Tryz.results46, go_sem, hc2]
    exact .inr ⟨e, M, hP, rfl, hm3⟩
  | outgrown => exact he.elim

theorem caught_ok2 {w0 : World} (hz : Heap) (L : List Ch) (fid : Nat) (cs : List Value) (PR : List Ch → Prop) (PX : Int → List Ch → Prop) (post : World → Value → World → Prop)
    (hm0 : Mem w0 hz w0 L) (hcall : ∀ us w, (callFunc fid us).run Tryz.prog w = .ok (.enter fid us) w)
    (hrun : ∀ w1 hz1, Heap.le hz hz1 → Mem w1 hz1 w1 L → ConX Tryz.prog fid cs w1 (fun v w' => ∃ M, PR M ∧ Mem w1 hz1 w' M) (fun c w' => ∃ e M, PX e M ∧ c = pch 97 e ∧ Mem w1 hz1 w' M))
    (hp : ∀ w v w', ((∃ M, PR M ∧ v = .int .i64 0 ∧ Mem w hz w' M) ∨ (∃ e M, PX e M ∧ v = .int .i64 e ∧ Mem w hz w' M)) → post w v w') :
    Con Tryz.prog 46 [.func (.func fid) #[] cs.toArray] w0 (post w0) := Con.weak (caught_ok w0 hz L fid cs PR PX hm0 hcall hrun) (hp w0)

theorem impl_runUnit_ok (w0 : World) (hz : Heap) (hle0 : Heap.le hz (hp w0)) (u : Unit_) (v1 : Value) (h1 : GT.rep hz [v1] u.codes) (in_ : List Int) (v2 : Value) (h2 : GT.rep hz [v2] in_) (steps : Int) (r : Outcome_ × running) (hq : impl_runUnit u in_ steps = some r) :
    Con Tryz.prog 32 [(.agg #[v1]), v2, (.int .i64 (steps))] w0 (fun v w' => ∃ (x1 : Value) (x2 : Value) (b3 : Nat) (x4 : Value) (x6 : Value) (hz2 : Heap), v = (.tuple #[(.agg #[x1, (.int .i64 (r.1.end_)), (.int .i64 (r.1.value)), x2]), (.pointer (some ⟨b3, 0, none⟩))]) ∧ Heap.le hz hz2 ∧ GT.rep hz2 [x4] r.2.u.codes ∧ Mem w0 hz2 w' [junk w0 hz, blk b3 [x4, (.int .i64 (r.2.steps)), (.int .i64 (r.2.used)), x1, (.int .i64 ((r.2.cells.getD 0 0))), (.int .i64 ((r.2.cells.getD 1 0))), (.int .i64 ((r.2.cells.getD 2 0))), (.int .i64 ((r.2.cells.getD 3 0))), (.int .i64 ((r.2.cells.getD 4 0))), (.int .i64 ((r.2.cells.getD 5 0))), (.int .i64 ((r.2.cells.getD 6 0))), (.int .i64 ((r.2.cells.getD 7 0))), (.int .i64 ((r.2.cells.getD 8 0))), (.int .i64 ((r.2.cells.getD 9 0))), (.int .i64 ((r.2.cells.getD 10 0))), (.int .i64 ((r.2.cells.getD 11 0))), (.int .i64 ((r.2.cells.getD 12 0))), (.int .i64 ((r.2.cells.getD 13 0))), (.int .i64 ((r.2.cells.getD 14 0))), (.int .i64 ((r.2.cells.getD 15 0))), x6] 61, ow [x1] r.1.said, ow [x2] r.1.cells, ow [x6] r.2.trace]) := by
  unfold impl_runUnit at hq
  refine con_body (l := [(0, (.agg #[v1])), (1, v2), (2, (.int .i64 (steps)))]) Tryz.func32 rfl Tryz.ntmps32 (Args.get ⟨rfl, rfl, rfl, trivial⟩) rfl ?_
  intro a hf
  have hm := Mem.startA hle0
  refine wp_seq (wp_region_lit (st_ef hf rfl rfl rfl (e_box hf hm rfl rfl rfl) ?_))
  clear hf a; rintro _ w0_1 a ⟨b0_1, rfl, hm⟩ hf
  obtain ⟨p0_1, c0_1, he, hl0_1⟩ := ro_slice h2
  subst he
  refine st_ef hf rfl rfl rfl (e_box hf hm rfl rfl rfl) ?_
  clear hf a; rintro _ w0_2 a ⟨b0_2, rfl, hm⟩ hf
  refine st_ef hf rfl rfl rfl (e_alloc hm Tryz.zeroValue41 rfl rfl) ?_
  clear hf a; rintro _ w0_3 a ⟨b0_3, rfl, hm⟩ hf
  refine st_y hf rfl rfl rfl (y_assign rfl rfl) fun a hf => st_end (x_then_n (wp_seq (wp_region_lit (st_y hf rfl rfl rfl (y_loadN (cs := [v1]) Tryz.isAgg30 Tryz.sizeOf30 rfl rfl (hm.blk_at 2 rfl)) fun a hf => st_y hf rfl rfl rfl (y_move rfl rfl) fun a hf => ?_))))
  obtain ⟨p0_2, c0_2, he, hl0_2⟩ := ro_slice h1
  subst he
  refine st_y hf rfl rfl rfl (y_build (vs := [(0, (.agg #[(.slice p0_2 u.codes.length c0_2)])), (1, (.int .i64 (steps)))]) (cs := #[(.slice p0_2 u.codes.length c0_2), (.int .i64 (steps)), (.int .i64 (0)), (.slice none 0 0), (.int .i64 (0)), (.int .i64 (0)), (.int .i64 (0)), (.int .i64 (0)), (.int .i64 (0)), (.int .i64 (0)), (.int .i64 (0)), (.int .i64 (0)), (.int .i64 (0)), (.int .i64 (0)), (.int .i64 (0)), (.int .i64 (0)), (.int .i64 (0)), (.int .i64 (0)), (.int .i64 (0)), (.int .i64 (0)), (.slice none 0 0)]) rfl rfl (by kernel_rfl)) fun a hf => st_ef hf rfl rfl rfl (e_box hf hm rfl rfl rfl) ?_
  clear hf a; rintro _ w0_4 a ⟨b0_4, rfl, hm⟩ hf
  refine st_ef hf rfl rfl rfl (e_alloc hm Tryz.zeroValue56 rfl rfl) ?_
  clear hf a; rintro _ w0_5 a ⟨b0_5, rfl, hm⟩ hf
  refine st_ef0 hf rfl rfl (e_store1 0 hf hm rfl Tryz.sizeOf56 rfl rfl rfl rfl rfl) ?_
  clear hf a; rintro _ w0_6 a hm hf
  refine st_end (x_then_n (wp_seq (wp_region_lit (st_ef hf rfl rfl rfl (e_alloc hm Tryz.zeroValue41 rfl rfl) ?_))))
  clear hf a; rintro _ w0_7 a ⟨b0_6, rfl, hm⟩ hf
  refine st_end (x_then_n (wp_seq (wp_region_lit (st_y hf rfl rfl rfl (y_makeFunc rfl rfl) fun a hf => ?_))))
  have hm := hm.nilow (α := Int)
  have hm := hm.nilow (α := Int)
  have hm := hm.nilow (α := Int)
  have hm := hm.nilow (α := Int)
  obtain ⟨r0_1, hx0_1, hq⟩ := bnd hq
  obtain ⟨hz0_1, hle, hm1, hsub, hk0_1⟩ := hm.take2 (L1 := [blk b0_4 [(.slice p0_2 u.codes.length c0_2), (.int .i64 (steps)), (.int .i64 (0)), (.slice none 0 0), (.int .i64 (0)), (.int .i64 (0)), (.int .i64 (0)), (.int .i64 (0)), (.int .i64 (0)), (.int .i64 (0)), (.int .i64 (0)), (.int .i64 (0)), (.int .i64 (0)), (.int .i64 (0)), (.int .i64 (0)), (.int .i64 (0)), (.int .i64 (0)), (.int .i64 (0)), (.int .i64 (0)), (.int .i64 (0)), (.slice none 0 0)] 61, ow [(.slice none 0 0)] ([] : List Int), ow [(.slice none 0 0)] ([] : List Int), blk b0_6 [(.slice none 0 0), (.int .i64 (0)), (.int .i64 (0)), (.slice none 0 0)] 41, ow [(.slice none 0 0)] ([] : List Int), ow [(.slice none 0 0)] ([] : List Int)]) (L2 := [blk b0_5 [(.pointer (some ⟨b0_4, 0, none⟩))] 56, blk b0_3 [(.slice none 0 0), (.int .i64 (0)), (.int .i64 (0)), (.slice none 0 0)] 41, blk b0_2 [(.slice p0_1 in_.length c0_1)] 25, blk b0_1 [(.slice p0_2 u.codes.length c0_2)] 30, junk w0 hz]) [6, 3, 2, 4, 1, 0] [5, 7, 8, 9, 10] (by decide) rfl rfl
  have hcc0_1 := caught_ok2 hz0_1 [blk b0_4 [(.slice p0_2 u.codes.length c0_2), (.int .i64 (steps)), (.int .i64 (0)), (.slice none 0 0), (.int .i64 (0)), (.int .i64 (0)), (.int .i64 (0)), (.int .i64 (0)), (.int .i64 (0)), (.int .i64 (0)), (.int .i64 (0)), (.int .i64 (0)), (.int .i64 (0)), (.int .i64 (0)), (.int .i64 (0)), (.int .i64 (0)), (.int .i64 (0)), (.int .i64 (0)), (.int .i64 (0)), (.int .i64 (0)), (.slice none 0 0)] 61, ow [(.slice none 0 0)] ([] : List Int), ow [(.slice none 0 0)] ([] : List Int), blk b0_6 [(.slice none 0 0), (.int .i64 (0)), (.int .i64 (0)), (.slice none 0 0)] 41, ow [(.slice none 0 0)] ([] : List Int), ow [(.slice none 0 0)] ([] : List Int)] 47 [(.pointer (some ⟨b0_5, 0, none⟩)), (.pointer (some ⟨b0_1, 0, none⟩)), (.pointer (some ⟨b0_2, 0, none⟩)), (.pointer (some ⟨b0_6, 0, none⟩))] (fun M => ∃ q, r0_1 = .inl q ∧ ∃ (x2 : Value) (x3 : Value) (x4 : Value) (x5 : Value), M = [blk b0_4 [(.slice p0_2 u.codes.length c0_2), (.int .i64 (q.1.steps)), (.int .i64 (q.1.used)), x2, (.int .i64 ((q.1.cells.getD 0 0))), (.int .i64 ((q.1.cells.getD 1 0))), (.int .i64 ((q.1.cells.getD 2 0))), (.int .i64 ((q.1.cells.getD 3 0))), (.int .i64 ((q.1.cells.getD 4 0))), (.int .i64 ((q.1.cells.getD 5 0))), (.int .i64 ((q.1.cells.getD 6 0))), (.int .i64 ((q.1.cells.getD 7 0))), (.int .i64 ((q.1.cells.getD 8 0))), (.int .i64 ((q.1.cells.getD 9 0))), (.int .i64 ((q.1.cells.getD 10 0))), (.int .i64 ((q.1.cells.getD 11 0))), (.int .i64 ((q.1.cells.getD 12 0))), (.int .i64 ((q.1.cells.getD 13 0))), (.int .i64 ((q.1.cells.getD 14 0))), (.int .i64 ((q.1.cells.getD 15 0))), x3] 61, blk b0_6 [x4, (.int .i64 (q.2.end_)), (.int .i64 (q.2.value)), x5] 41, ow [x2] q.1.said, ow [x3] q.1.trace, ow [x4] q.2.said, ow [x5] q.2.cells]) (fun e M => ∃ q, r0_1 = .inr q ∧ ∃ (x2 : Value) (x3 : Value) (x4 : Value) (x5 : Value), e = q.1 ∧ M = [blk b0_4 [(.slice p0_2 u.codes.length c0_2), (.int .i64 (q.2.1.steps)), (.int .i64 (q.2.1.used)), x2, (.int .i64 ((q.2.1.cells.getD 0 0))), (.int .i64 ((q.2.1.cells.getD 1 0))), (.int .i64 ((q.2.1.cells.getD 2 0))), (.int .i64 ((q.2.1.cells.getD 3 0))), (.int .i64 ((q.2.1.cells.getD 4 0))), (.int .i64 ((q.2.1.cells.getD 5 0))), (.int .i64 ((q.2.1.cells.getD 6 0))), (.int .i64 ((q.2.1.cells.getD 7 0))), (.int .i64 ((q.2.1.cells.getD 8 0))), (.int .i64 ((q.2.1.cells.getD 9 0))), (.int .i64 ((q.2.1.cells.getD 10 0))), (.int .i64 ((q.2.1.cells.getD 11 0))), (.int .i64 ((q.2.1.cells.getD 12 0))), (.int .i64 ((q.2.1.cells.getD 13 0))), (.int .i64 ((q.2.1.cells.getD 14 0))), (.int .i64 ((q.2.1.cells.getD 15 0))), x3] 61, blk b0_6 [x4, (.int .i64 (q.2.2.end_)), (.int .i64 (q.2.2.value)), x5] 41, ow [x2] q.2.1.said, ow [x3] q.2.1.trace, ow [x4] q.2.2.said, ow [x5] q.2.2.cells]) (fun w v w' => ∃ (x2 : Value) (x3 : Value) (x4 : Value) (x5 : Value), v = (.int .i64 ((caughtM r0_1).1)) ∧ Mem w hz0_1 w' [blk b0_4 [(.slice p0_2 u.codes.length c0_2), (.int .i64 ((caughtM r0_1).2.1.steps)), (.int .i64 ((caughtM r0_1).2.1.used)), x2, (.int .i64 ((((caughtM r0_1).2.1.cells).getD 0 0))), (.int .i64 ((((caughtM r0_1).2.1.cells).getD 1 0))), (.int .i64 ((((caughtM r0_1).2.1.cells).getD 2 0))), (.int .i64 ((((caughtM r0_1).2.1.cells).getD 3 0))), (.int .i64 ((((caughtM r0_1).2.1.cells).getD 4 0))), (.int .i64 ((((caughtM r0_1).2.1.cells).getD 5 0))), (.int .i64 ((((caughtM r0_1).2.1.cells).getD 6 0))), (.int .i64 ((((caughtM r0_1).2.1.cells).getD 7 0))), (.int .i64 ((((caughtM r0_1).2.1.cells).getD 8 0))), (.int .i64 ((((caughtM r0_1).2.1.cells).getD 9 0))), (.int .i64 ((((caughtM r0_1).2.1.cells).getD 10 0))), (.int .i64 ((((caughtM r0_1).2.1.cells).getD 11 0))), (.int .i64 ((((caughtM r0_1).2.1.cells).getD 12 0))), (.int .i64 ((((caughtM r0_1).2.1.cells).getD 13 0))), (.int .i64 ((((caughtM r0_1).2.1.cells).getD 14 0))), (.int .i64 ((((caughtM r0_1).2.1.cells).getD 15 0))), x3] 61, blk b0_6 [x4, (.int .i64 ((caughtM r0_1).2.2.end_)), (.int .i64 ((caughtM r0_1).2.2.value)), x5] 41, ow [x2] ((caughtM r0_1).2.1.said), ow [x3] ((caughtM r0_1).2.1.trace), ow [x4] ((caughtM r0_1).2.2.said), ow [x5] ((caughtM r0_1).2.2.cells)]) hm1 Tryz.call47 (fun w1 hz1 hle1 hm2 => ConX.mono (impl_runUnit_1_ok w1 hz1 (⟨u, steps, 0, ([] : List Int), (List.replicate 16 0), ([] : List Int)⟩ : running) b0_5 b0_4 (.slice p0_2 u.codes.length c0_2) (GT.mono hle1 (GT.mono hle h1)) (.slice none 0 0) (.slice none 0 0) (hle1 _ _ (fz_blk (hsub 0 _ rfl))) u b0_1 (.slice p0_2 u.codes.length c0_2) (GT.mono hle1 (GT.mono hle h1)) (hle1 _ _ (fz_blk (hsub 3 _ rfl))) in_ b0_2 (.slice p0_1 in_.length c0_1) (GT.mono hle1 (GT.mono hle h2)) (hle1 _ _ (fz_blk (hsub 2 _ rfl))) (⟨([] : List Int), 0, 0, ([] : List Int)⟩ : Outcome_) b0_6 (.slice none 0 0) (.slice none 0 0) hm2  r0_1 hx0_1) (by rintro v w' ⟨q, hr, x2, x3, x4, x5, rfl, hB⟩; exact ⟨_, ⟨q, hr, x2, x3, x4, x5, rfl⟩, hB⟩) (by rintro c w' ⟨q, hr, x2, x3, x4, x5, rfl, hB⟩; exact ⟨_, _, ⟨q, hr, x2, x3, x4, x5, rfl, rfl⟩, rfl, hB⟩)) (by rintro w v w' (⟨M, ⟨q, rfl, x2, x3, x4, x5, rfl⟩, rfl, hB⟩ | ⟨e, M, ⟨q, rfl, x2, x3, x4, x5, rfl, rfl⟩, rfl, hB⟩) <;> exact ⟨x2, x3, x4, x5, rfl, hB⟩)
  refine st_ef hf rfl rfl rfl (e_call hf rfl Tryz.call46 rfl hcc0_1) ?_
  clear hf a; rintro v0_1 w0_8 a ho0_1 hf
  obtain ⟨v0_2, v0_3, v0_4, v0_5, rfl, hB⟩ := ho0_1
  replace hm := hk0_1 _ _ hB; clear hB
  refine st_y hf rfl rfl rfl (y_fieldAddr fo_41_1 rfl rfl) fun a hf => st_ef0 hf rfl rfl (e_store1 1 hf hm rfl Tryz.sizeOf3 rfl rfl rfl rfl rfl) ?_
  clear hf a; rintro _ w0_9 a hm hf
  refine st_end (x_then_n (wp_seq ?_))
  refine wp_tree (.q 0 (.p 1 (.p 2 (.q 3 (.p 9 (.e 4 (.p 5 (.p 6 (.p 7 (.e 8 (.e 10 (.p 11 (.e 12 .fin .nil)) .nil) .nil)))) .nil)))))) [4, 8] [1, 2, 5, 6, 7, 9, 11] (fun w => Mem w0 hz w [blk b0_4 [(.slice p0_2 u.codes.length c0_2), (.int .i64 ((caughtM r0_1).2.1.steps)), (.int .i64 ((caughtM r0_1).2.1.used)), v0_2, (.int .i64 ((((caughtM r0_1).2.1.cells).getD 0 0))), (.int .i64 ((((caughtM r0_1).2.1.cells).getD 1 0))), (.int .i64 ((((caughtM r0_1).2.1.cells).getD 2 0))), (.int .i64 ((((caughtM r0_1).2.1.cells).getD 3 0))), (.int .i64 ((((caughtM r0_1).2.1.cells).getD 4 0))), (.int .i64 ((((caughtM r0_1).2.1.cells).getD 5 0))), (.int .i64 ((((caughtM r0_1).2.1.cells).getD 6 0))), (.int .i64 ((((caughtM r0_1).2.1.cells).getD 7 0))), (.int .i64 ((((caughtM r0_1).2.1.cells).getD 8 0))), (.int .i64 ((((caughtM r0_1).2.1.cells).getD 9 0))), (.int .i64 ((((caughtM r0_1).2.1.cells).getD 10 0))), (.int .i64 ((((caughtM r0_1).2.1.cells).getD 11 0))), (.int .i64 ((((caughtM r0_1).2.1.cells).getD 12 0))), (.int .i64 ((((caughtM r0_1).2.1.cells).getD 13 0))), (.int .i64 ((((caughtM r0_1).2.1.cells).getD 14 0))), (.int .i64 ((((caughtM r0_1).2.1.cells).getD 15 0))), v0_3] 61, blk b0_6 [v0_4, (.int .i64 ((caughtM r0_1).1)), (.int .i64 ((caughtM r0_1).2.2.value)), v0_5] 41, ow [v0_2] ((caughtM r0_1).2.1.said), ow [v0_3] ((caughtM r0_1).2.1.trace), ow [v0_4] ((caughtM r0_1).2.2.said), ow [v0_5] ((caughtM r0_1).2.2.cells), blk b0_5 [(.pointer (some ⟨b0_4, 0, none⟩))] 56, blk b0_3 [(.slice none 0 0), (.int .i64 (0)), (.int .i64 (0)), (.slice none 0 0)] 41, blk b0_2 [(.slice p0_1 in_.length c0_1)] 25, blk b0_1 [(.slice p0_2 u.codes.length c0_2)] 30, junk w0 hz]) (by kernel_rfl) (by kernel_rfl) (fun _ _ _ h => h.2) ?_
  replace hm := hm.drew
  have hS : Mem w0 hz _ [blk b0_4 [(.slice p0_2 u.codes.length c0_2), (.int .i64 ((caughtM r0_1).2.1.steps)), (.int .i64 ((caughtM r0_1).2.1.used)), v0_2, (.int .i64 ((((caughtM r0_1).2.1.cells).getD 0 0))), (.int .i64 ((((caughtM r0_1).2.1.cells).getD 1 0))), (.int .i64 ((((caughtM r0_1).2.1.cells).getD 2 0))), (.int .i64 ((((caughtM r0_1).2.1.cells).getD 3 0))), (.int .i64 ((((caughtM r0_1).2.1.cells).getD 4 0))), (.int .i64 ((((caughtM r0_1).2.1.cells).getD 5 0))), (.int .i64 ((((caughtM r0_1).2.1.cells).getD 6 0))), (.int .i64 ((((caughtM r0_1).2.1.cells).getD 7 0))), (.int .i64 ((((caughtM r0_1).2.1.cells).getD 8 0))), (.int .i64 ((((caughtM r0_1).2.1.cells).getD 9 0))), (.int .i64 ((((caughtM r0_1).2.1.cells).getD 10 0))), (.int .i64 ((((caughtM r0_1).2.1.cells).getD 11 0))), (.int .i64 ((((caughtM r0_1).2.1.cells).getD 12 0))), (.int .i64 ((((caughtM r0_1).2.1.cells).getD 13 0))), (.int .i64 ((((caughtM r0_1).2.1.cells).getD 14 0))), (.int .i64 ((((caughtM r0_1).2.1.cells).getD 15 0))), v0_3] 61, blk b0_6 [v0_4, (.int .i64 ((caughtM r0_1).1)), (.int .i64 ((caughtM r0_1).2.2.value)), v0_5] 41, ow [v0_2] ((caughtM r0_1).2.1.said), ow [v0_3] ((caughtM r0_1).2.1.trace), ow [v0_4] ((caughtM r0_1).2.2.said), ow [v0_5] ((caughtM r0_1).2.2.cells), blk b0_5 [(.pointer (some ⟨b0_4, 0, none⟩))] 56, blk b0_3 [(.slice none 0 0), (.int .i64 (0)), (.int .i64 (0)), (.slice none 0 0)] 41, blk b0_2 [(.slice p0_1 in_.length c0_1)] 25, blk b0_1 [(.slice p0_2 u.codes.length c0_2)] 30, junk w0 hz] := hm.pick [0, 1, 2, 3, 4, 5, 6, 7, 8, 9, 10] (by decide) rfl
  refine td_y hf rfl rfl rfl rfl hS (fun w hm => y_load1 Tryz.isAgg56 rfl rfl (hm.blk_cell 6 rfl rfl)) fun a hf => td_p hf rfl rfl rfl rfl (fun w => y_nilptr rfl rfl) fun a hf => td_p hf rfl rfl rfl rfl (fun w => y_fieldAddr fo_61_3 rfl rfl) fun a hf => td_y hf rfl rfl rfl rfl hS (fun w hm => y_load1 Tryz.isAgg25 rfl rfl (hm.blk_cell 0 rfl rfl)) fun a hf => td_p hf rfl rfl rfl rfl (fun w => y_fieldAddr fo_41_0 rfl rfl) fun a hf => te_one (td_ef hf rfl rfl rfl rfl (ef_y hf (y_load1 Tryz.isAgg56 rfl rfl (hm.blk_cell 6 rfl rfl))) ?_)
  clear hf a; rintro _ _ a ⟨rfl, rfl⟩ hf
  refine ⟨fun _ => hS, ?_⟩
  refine td_p hf rfl rfl rfl rfl (fun w => y_nilptr rfl rfl) fun a hf => td_p hf rfl rfl rfl rfl (fun w => y_fieldAddr fo_61_4 rfl rfl) fun a hf => td_p hf rfl rfl rfl rfl (fun w => y_slcArr (n := 16) Tryz.underlying59 rfl rfl Tryz.sizeOf3) fun a hf => te_one ?_
  obtain ⟨r0_2, hx0_2, hq⟩ := bnd hq
  refine td_ef hf rfl rfl rfl rfl (e_call hf rfl Tryz.call49 rfl (slices_Clone_S_int_int_ok _ (normA 16 ((caughtM r0_1).2.1.cells)) (.slice (some ⟨b0_4, 4, none⟩) 16 16) (hm.arr_rep (pre := [(.slice p0_2 u.codes.length c0_2), (.int .i64 ((caughtM r0_1).2.1.steps)), (.int .i64 ((caughtM r0_1).2.1.used)), v0_2]) (post := [v0_3]) (arr := ((caughtM r0_1).2.1.cells)) (n := 16) 0 rfl (by decide)) _ hx0_2)) ?_
  clear hf a; rintro v0_6 w0_10 a ho0_2 hf
  obtain ⟨_, rfl, hB⟩ := ho0_2
  replace hm := hm.give hB; clear hB
  clear hS
  have hS : Mem w0 hz _ [blk b0_4 [(.slice p0_2 u.codes.length c0_2), (.int .i64 ((caughtM r0_1).2.1.steps)), (.int .i64 ((caughtM r0_1).2.1.used)), v0_2, (.int .i64 ((((caughtM r0_1).2.1.cells).getD 0 0))), (.int .i64 ((((caughtM r0_1).2.1.cells).getD 1 0))), (.int .i64 ((((caughtM r0_1).2.1.cells).getD 2 0))), (.int .i64 ((((caughtM r0_1).2.1.cells).getD 3 0))), (.int .i64 ((((caughtM r0_1).2.1.cells).getD 4 0))), (.int .i64 ((((caughtM r0_1).2.1.cells).getD 5 0))), (.int .i64 ((((caughtM r0_1).2.1.cells).getD 6 0))), (.int .i64 ((((caughtM r0_1).2.1.cells).getD 7 0))), (.int .i64 ((((caughtM r0_1).2.1.cells).getD 8 0))), (.int .i64 ((((caughtM r0_1).2.1.cells).getD 9 0))), (.int .i64 ((((caughtM r0_1).2.1.cells).getD 10 0))), (.int .i64 ((((caughtM r0_1).2.1.cells).getD 11 0))), (.int .i64 ((((caughtM r0_1).2.1.cells).getD 12 0))), (.int .i64 ((((caughtM r0_1).2.1.cells).getD 13 0))), (.int .i64 ((((caughtM r0_1).2.1.cells).getD 14 0))), (.int .i64 ((((caughtM r0_1).2.1.cells).getD 15 0))), v0_3] 61, blk b0_6 [v0_4, (.int .i64 ((caughtM r0_1).1)), (.int .i64 ((caughtM r0_1).2.2.value)), v0_5] 41, ow [v0_2] ((caughtM r0_1).2.1.said), ow [v0_3] ((caughtM r0_1).2.1.trace), ow [v0_4] ((caughtM r0_1).2.2.said), ow [v0_5] ((caughtM r0_1).2.2.cells), blk b0_5 [(.pointer (some ⟨b0_4, 0, none⟩))] 56, blk b0_3 [(.slice none 0 0), (.int .i64 (0)), (.int .i64 (0)), (.slice none 0 0)] 41, blk b0_2 [(.slice p0_1 in_.length c0_1)] 25, blk b0_1 [(.slice p0_2 u.codes.length c0_2)] 30, junk w0 hz] := hm.pick [1, 2, 3, 4, 5, 6, 7, 8, 9, 10, 11] (by decide) rfl
  refine ⟨fun _ => hS, ?_⟩
  refine te_one (td_ef0 hf rfl rfl rfl (e_store1 2 hf hm rfl Tryz.sizeOf25 rfl rfl rfl (rep_one (hm.ow_rep 3 rfl)) rfl) ?_)
  clear hf a; rintro _ w0_11 a hm hf
  refine ⟨fun h => absurd h (by decide), ?_⟩
  refine td_p hf rfl rfl rfl rfl (fun w => y_fieldAddr fo_41_3 rfl rfl) fun a hf => te_one (td_ef0 hf rfl rfl rfl (e_store1 2 hf hm rfl Tryz.sizeOf25 rfl rfl rfl (rep_one (hm.ow_rep 0 rfl)) rfl) ?_)
  clear hf a; rintro _ w0_12 a hm hf
  refine ⟨fun h => absurd h (by decide), ?_⟩
  clear hS; refine td_end ?_
  refine x_then_n (wp_seq ?_)
  refine wp_tree (.q 0 (.q 1 (.e 2 (.p 3 .fin) .nil))) [0, 1, 2] [3] (fun w => Mem w0 hz w [ow [v0_6] r0_2, blk b0_4 [(.slice p0_2 u.codes.length c0_2), (.int .i64 ((caughtM r0_1).2.1.steps)), (.int .i64 ((caughtM r0_1).2.1.used)), v0_2, (.int .i64 ((((caughtM r0_1).2.1.cells).getD 0 0))), (.int .i64 ((((caughtM r0_1).2.1.cells).getD 1 0))), (.int .i64 ((((caughtM r0_1).2.1.cells).getD 2 0))), (.int .i64 ((((caughtM r0_1).2.1.cells).getD 3 0))), (.int .i64 ((((caughtM r0_1).2.1.cells).getD 4 0))), (.int .i64 ((((caughtM r0_1).2.1.cells).getD 5 0))), (.int .i64 ((((caughtM r0_1).2.1.cells).getD 6 0))), (.int .i64 ((((caughtM r0_1).2.1.cells).getD 7 0))), (.int .i64 ((((caughtM r0_1).2.1.cells).getD 8 0))), (.int .i64 ((((caughtM r0_1).2.1.cells).getD 9 0))), (.int .i64 ((((caughtM r0_1).2.1.cells).getD 10 0))), (.int .i64 ((((caughtM r0_1).2.1.cells).getD 11 0))), (.int .i64 ((((caughtM r0_1).2.1.cells).getD 12 0))), (.int .i64 ((((caughtM r0_1).2.1.cells).getD 13 0))), (.int .i64 ((((caughtM r0_1).2.1.cells).getD 14 0))), (.int .i64 ((((caughtM r0_1).2.1.cells).getD 15 0))), v0_3] 61, blk b0_6 [v0_2, (.int .i64 ((caughtM r0_1).1)), (.int .i64 ((caughtM r0_1).2.2.value)), v0_6] 41, ow [v0_2] ((caughtM r0_1).2.1.said), ow [v0_3] ((caughtM r0_1).2.1.trace), ow [v0_4] ((caughtM r0_1).2.2.said), ow [v0_5] ((caughtM r0_1).2.2.cells), blk b0_5 [(.pointer (some ⟨b0_4, 0, none⟩))] 56, blk b0_2 [(.slice p0_1 in_.length c0_1)] 25, blk b0_1 [(.slice p0_2 u.codes.length c0_2)] 30, junk w0 hz]) (by kernel_rfl) (by kernel_rfl) (fun _ _ _ h => h.2) ?_
  replace hm := hm.drew
  have hS : Mem w0 hz _ [ow [v0_6] r0_2, blk b0_4 [(.slice p0_2 u.codes.length c0_2), (.int .i64 ((caughtM r0_1).2.1.steps)), (.int .i64 ((caughtM r0_1).2.1.used)), v0_2, (.int .i64 ((((caughtM r0_1).2.1.cells).getD 0 0))), (.int .i64 ((((caughtM r0_1).2.1.cells).getD 1 0))), (.int .i64 ((((caughtM r0_1).2.1.cells).getD 2 0))), (.int .i64 ((((caughtM r0_1).2.1.cells).getD 3 0))), (.int .i64 ((((caughtM r0_1).2.1.cells).getD 4 0))), (.int .i64 ((((caughtM r0_1).2.1.cells).getD 5 0))), (.int .i64 ((((caughtM r0_1).2.1.cells).getD 6 0))), (.int .i64 ((((caughtM r0_1).2.1.cells).getD 7 0))), (.int .i64 ((((caughtM r0_1).2.1.cells).getD 8 0))), (.int .i64 ((((caughtM r0_1).2.1.cells).getD 9 0))), (.int .i64 ((((caughtM r0_1).2.1.cells).getD 10 0))), (.int .i64 ((((caughtM r0_1).2.1.cells).getD 11 0))), (.int .i64 ((((caughtM r0_1).2.1.cells).getD 12 0))), (.int .i64 ((((caughtM r0_1).2.1.cells).getD 13 0))), (.int .i64 ((((caughtM r0_1).2.1.cells).getD 14 0))), (.int .i64 ((((caughtM r0_1).2.1.cells).getD 15 0))), v0_3] 61, blk b0_6 [v0_2, (.int .i64 ((caughtM r0_1).1)), (.int .i64 ((caughtM r0_1).2.2.value)), v0_6] 41, ow [v0_2] ((caughtM r0_1).2.1.said), ow [v0_3] ((caughtM r0_1).2.1.trace), ow [v0_4] ((caughtM r0_1).2.2.said), ow [v0_5] ((caughtM r0_1).2.2.cells), blk b0_5 [(.pointer (some ⟨b0_4, 0, none⟩))] 56, blk b0_2 [(.slice p0_1 in_.length c0_1)] 25, blk b0_1 [(.slice p0_2 u.codes.length c0_2)] 30, junk w0 hz] := hm.pick [0, 1, 2, 3, 4, 5, 6, 7, 9, 10, 11] (by decide) rfl
  refine td_y hf rfl rfl rfl rfl hS (fun w hm => y_loadN (cs := [v0_2, (.int .i64 ((caughtM r0_1).1)), (.int .i64 ((caughtM r0_1).2.2.value)), v0_6]) Tryz.isAgg41 Tryz.sizeOf41 rfl rfl (hm.blk_at 2 rfl)) fun a hf => td_y hf rfl rfl rfl rfl hS (fun w hm => y_load1 Tryz.isAgg56 rfl rfl (hm.blk_cell 7 rfl rfl)) fun a hf => te_one (td_ef0 hf rfl rfl rfl (e_storeN 8 hf hm rfl Tryz.sizeOf41 rfl rfl rfl (one_cons (rep_one (hm.ow_rep 3 rfl)) (one_cons rfl (one_cons rfl (one_cons (rep_one (hm.ow_rep 0 rfl)) one_nil)))) rfl rfl) ?_)
  clear hf a; rintro _ w0_13 a hm hf
  clear hS
  have hS : Mem w0 hz _ [ow [v0_6] r0_2, blk b0_4 [(.slice p0_2 u.codes.length c0_2), (.int .i64 ((caughtM r0_1).2.1.steps)), (.int .i64 ((caughtM r0_1).2.1.used)), v0_2, (.int .i64 ((((caughtM r0_1).2.1.cells).getD 0 0))), (.int .i64 ((((caughtM r0_1).2.1.cells).getD 1 0))), (.int .i64 ((((caughtM r0_1).2.1.cells).getD 2 0))), (.int .i64 ((((caughtM r0_1).2.1.cells).getD 3 0))), (.int .i64 ((((caughtM r0_1).2.1.cells).getD 4 0))), (.int .i64 ((((caughtM r0_1).2.1.cells).getD 5 0))), (.int .i64 ((((caughtM r0_1).2.1.cells).getD 6 0))), (.int .i64 ((((caughtM r0_1).2.1.cells).getD 7 0))), (.int .i64 ((((caughtM r0_1).2.1.cells).getD 8 0))), (.int .i64 ((((caughtM r0_1).2.1.cells).getD 9 0))), (.int .i64 ((((caughtM r0_1).2.1.cells).getD 10 0))), (.int .i64 ((((caughtM r0_1).2.1.cells).getD 11 0))), (.int .i64 ((((caughtM r0_1).2.1.cells).getD 12 0))), (.int .i64 ((((caughtM r0_1).2.1.cells).getD 13 0))), (.int .i64 ((((caughtM r0_1).2.1.cells).getD 14 0))), (.int .i64 ((((caughtM r0_1).2.1.cells).getD 15 0))), v0_3] 61, blk b0_6 [v0_2, (.int .i64 ((caughtM r0_1).1)), (.int .i64 ((caughtM r0_1).2.2.value)), v0_6] 41, ow [v0_2] ((caughtM r0_1).2.1.said), ow [v0_3] ((caughtM r0_1).2.1.trace), ow [v0_4] ((caughtM r0_1).2.2.said), ow [v0_5] ((caughtM r0_1).2.2.cells), blk b0_5 [(.pointer (some ⟨b0_4, 0, none⟩))] 56, blk b0_2 [(.slice p0_1 in_.length c0_1)] 25, blk b0_1 [(.slice p0_2 u.codes.length c0_2)] 30, junk w0 hz] := hm.pick [0, 1, 2, 3, 4, 5, 6, 7, 9, 10, 11] (by decide) rfl
  refine ⟨fun _ => hS, ?_⟩
  refine td_p hf rfl rfl rfl rfl (fun w => y_assign rfl rfl) fun a hf => ?_
  clear hS; refine td_end ?_
  refine x_then_n (wp_ret ?_)
  obtain rfl := Option.some.inj hq
  refine ret_cell_tmp 8 hf Tryz.results32 hm rfl rfl Tryz.isAgg41 Tryz.sizeOf41 rfl ?_
  exact ⟨v0_2, v0_6, b0_4, (.slice p0_2 u.codes.length c0_2), v0_3, hz, rfl, (Heap.le_refl _), h1, hm.pick [11, 1, 3, 0, 4] (by decide) rfl⟩

theorem impl_RunUnit_ok (w0 : World) (u : Unit_) (v1 : Value) (h1 : GT.rep (hp w0) [v1] u.codes) (in_ : List Int) (v2 : Value) (h2 : GT.rep (hp w0) [v2] in_) (steps : Int) (r : Outcome_ × Bool) (hq : impl_RunUnit u in_ steps = some r) :
    Con Tryz.prog 19 [(.agg #[v1]), v2, (.int .i64 (steps))] w0 (fun v w' => ∃ (x1 : Value) (x2 : Value), v = (.tuple #[(.agg #[x1, (.int .i64 (r.1.end_)), (.int .i64 (r.1.value)), x2]), (.bool (r.2))]) ∧ Mem w0 (hp w0) w' [ow [x1] r.1.said, ow [x2] r.1.cells]) := by
  unfold impl_RunUnit at hq
  refine con_body (l := [(0, (.agg #[v1])), (1, v2), (2, (.int .i64 (steps)))]) Tryz.func19 rfl Tryz.ntmps19 (Args.get ⟨rfl, rfl, rfl, trivial⟩) rfl ?_
  intro a hf
  have hm := Mem.start w0
  refine wp_seq (wp_region_lit (st_ef hf rfl rfl rfl (e_box hf hm rfl rfl rfl) ?_))
  clear hf a; rintro _ w0_1 a ⟨b0_1, rfl, hm⟩ hf
  refine st_ef hf rfl rfl rfl (e_alloc hm Tryz.zeroValue41 rfl rfl) ?_
  clear hf a; rintro _ w0_2 a ⟨b0_2, rfl, hm⟩ hf
  refine st_y hf rfl rfl rfl (y_assign rfl rfl) fun a hf => st_end (x_then_n (wp_seq (wp_seq (wp_region_lit (st_y hf rfl rfl rfl (y_loadN (cs := [v1]) Tryz.isAgg30 Tryz.sizeOf30 rfl rfl (hm.blk_at 1 rfl)) fun a hf => st_y hf rfl rfl rfl (y_move rfl rfl) fun a hf => st_y hf rfl rfl rfl (y_move rfl rfl) fun a hf => ?_)))))
  obtain ⟨r0_1, hx0_1, hq⟩ := bnd hq
  refine st_ef hf rfl rfl rfl (e_call hf rfl Tryz.call31 rfl (impl_unitRuns_ok _ u v1 (hm.now h1) in_ v2 (hm.now h2) steps _ hx0_1)) ?_
  clear hf a; rintro v0_1 w0_3 a ho0_1 hf
  obtain ⟨rfl, hB⟩ := ho0_1
  replace hm := hm.below' hB; clear hB
  refine st_y hf rfl rfl rfl (y_not rfl rfl) fun a hf => st_end (x_then_n ?_)
  rcases bcases (!(r0_1)) with h0_1 | h0_1
  ·
   replace hq := (ite_t h0_1).symm.trans hq
   have h0_2 := bnot_t' h0_1
   refine cond_t hf rfl h0_1 (wp_seq (wp_region_lit (st_y hf rfl rfl rfl (y_build (vs := []) (cs := #[(.slice none 0 0), (.int .i64 (0)), (.int .i64 (0)), (.slice none 0 0)]) rfl rfl (by kernel_rfl)) fun a hf => st_ef0 hf rfl rfl (e_storeN 0 hf hm rfl Tryz.sizeOf41 rfl rfl rfl (one_cons rfl (one_cons rfl (one_cons rfl (one_cons rfl one_nil)))) rfl rfl) ?_)))
   clear hf a; rintro _ w0_4 a hm hf
   refine st_y hf rfl rfl rfl (y_assign rfl rfl) fun a hf => st_end (x_then_n (wp_ret (x_then_ret ?_)))
   obtain rfl := Option.some.inj hq
   have hm := hm.nilow (α := Int)
   have hm := hm.nilow (α := Int)
   refine ret_cell_tmp 2 hf Tryz.results19 hm rfl rfl Tryz.isAgg41 Tryz.sizeOf41 rfl ?_
   exact ⟨(.slice none 0 0), (.slice none 0 0), rfl, hm.pick [1, 0] (by decide) rfl⟩
  ·
   replace hq := (ite_f h0_1).symm.trans hq
   have h0_3 := bnot_f' h0_1
   refine cond_f hf rfl h0_1 (wp_skip (x_then_n (wp_seq (wp_region_lit (st_y hf rfl rfl rfl (y_loadN (cs := [v1]) Tryz.isAgg30 Tryz.sizeOf30 rfl rfl (hm.blk_at 1 rfl)) fun a hf => st_y hf rfl rfl rfl (y_move rfl rfl) fun a hf => st_y hf rfl rfl rfl (y_move rfl rfl) fun a hf => ?_)))))
   obtain ⟨r0_2, hx0_2, hq⟩ := bnd hq
   refine st_ef hf rfl rfl rfl (e_call hf rfl Tryz.call32 rfl (impl_runUnit_ok _ _ hm.lez u v1 h1 in_ v2 h2 steps  _ hx0_2)) ?_
   clear hf a; rintro v0_2 w0_5 a ho0_2 hf
   obtain ⟨v0_3, v0_4, b0_3, v0_5, v0_6, hz0_1, rfl, hle0_1, h0_4, hB⟩ := ho0_2
   replace hm := Mem.giveA hm hle0_1 hB; clear hB
   refine st_y hf rfl rfl rfl (y_move rfl rfl) fun a hf => st_y hf rfl rfl rfl (y_extract rfl rfl rfl) fun a hf => st_y hf rfl rfl rfl (y_extract rfl rfl rfl) fun a hf => st_ef hf rfl rfl rfl (e_alloc hm Tryz.zeroValue41 rfl rfl) ?_
   clear hf a; rintro _ w0_6 a ⟨b0_4, rfl, hm⟩ hf
   refine st_ef0 hf rfl rfl (e_storeN 0 hf hm rfl Tryz.sizeOf41 rfl rfl rfl (one_cons (rep_one (hm.ow_rep 2 rfl)) (one_cons rfl (one_cons rfl (one_cons (rep_one (hm.ow_rep 3 rfl)) one_nil)))) rfl rfl) ?_
   clear hf a; rintro _ w0_7 a hm hf
   refine st_y hf rfl rfl rfl (y_assign rfl rfl) fun a hf => st_end (x_then_n (wp_seq (wp_region_lit (st_y hf rfl rfl rfl (y_loadN (cs := [v0_3, (.int .i64 (r0_2.1.end_)), (.int .i64 (r0_2.1.value)), v0_4]) Tryz.isAgg41 Tryz.sizeOf41 rfl rfl (hm.blk_at 0 rfl)) fun a hf => st_ef0 hf rfl rfl (e_storeN 5 hf hm rfl Tryz.sizeOf41 rfl rfl rfl (one_cons (rep_one (hm.ow_rep 2 rfl)) (one_cons rfl (one_cons rfl (one_cons (rep_one (hm.ow_rep 3 rfl)) one_nil)))) rfl rfl) ?_))))
   clear hf a; rintro _ w0_8 a hm hf
   refine st_y hf rfl rfl rfl (y_assign rfl rfl) fun a hf => st_end (x_then_n (wp_ret ?_))
   obtain rfl := Option.some.inj hq
   replace hm := hm.thaw hle0_1
   refine ret_cell_tmp 5 hf Tryz.results19 hm rfl rfl Tryz.isAgg41 Tryz.sizeOf41 rfl ?_
   exact ⟨v0_3, v0_4, rfl, hm.pick [2, 3] (by decide) rfl⟩

theorem slices_Equal_S_int_int_ok (w0 : World) (s1 : List Int) (v1 : Value) (h1 : GT.rep (hp w0) [v1] s1) (s2 : List Int) (v2 : Value) (h2 : GT.rep (hp w0) [v2] s2) (r : Bool) (hq : slices_Equal_S_int_int s1 s2 = some r) :
    Con Tryz.prog 37 [v1, v2] w0 (fun v w' => v = (.bool (r)) ∧ Below w0.heap.size w0 w') := by
  unfold slices_Equal_S_int_int at hq
  refine con_body (l := [(0, v1), (1, v2)]) Tryz.func37 rfl Tryz.ntmps37 (Args.get ⟨rfl, rfl, trivial⟩) rfl ?_
  intro a hf
  have hm := Mem.start w0
  refine wp_seq (wp_region_lit (st_y hf rfl rfl rfl (y_assign rfl rfl) fun a hf => st_end (x_then_n (wp_seq (wp_seq (wp_region_lit (st_y hf rfl rfl rfl (y_move rfl rfl) fun a hf => ?_)))))))
  obtain ⟨p0_1, c0_1, he, hl0_1⟩ := ro_slice h1
  subst he
  refine st_y hf rfl rfl rfl (y_len_slice st_25.und rfl rfl) fun a hf => st_y hf rfl rfl rfl (y_move rfl rfl) fun a hf => ?_
  obtain ⟨p0_2, c0_2, he, hl0_2⟩ := ro_slice h2
  subst he
  refine st_y hf rfl rfl rfl (y_len_slice st_25.und rfl rfl) fun a hf => st_y hf rfl rfl rfl (y_neq rfl rfl rfl) fun a hf => st_end (x_then_n ?_)
  rcases bcases (decide (((s1.length : Int)) ≠ ((s2.length : Int)))) with h0_1 | h0_1
  ·
   replace hq := (ite_t h0_1).symm.trans hq
   have h0_2 := of_decide_eq_true h0_1
   refine cond_t hf rfl h0_1 (wp_seq (wp_region_lit (st_y hf rfl rfl rfl (y_assign rfl rfl) fun a hf => st_end (x_then_n (wp_ret (x_then_ret ?_))))))
   obtain rfl := Option.some.inj hq
   refine ret_tmp hf Tryz.results37 rfl ?_
   exact ⟨rfl, hm.below⟩
  ·
   replace hq := (ite_f h0_1).symm.trans hq
   have h0_3 := of_decide_eq_false h0_1
   refine cond_f hf rfl h0_1 (wp_skip (x_then_n (wp_seq (wp_seq (wp_region_lit (st_y hf rfl rfl rfl (y_move rfl rfl) fun a hf => st_y hf rfl rfl rfl (y_len_slice st_25.und rfl rfl) fun a hf => st_y hf rfl rfl rfl (y_move rfl rfl) fun a hf => ?_))))))
   refine st_end (x_then_n (wp_block ?_))
   obtain ⟨r0_1, hl0_3, hq⟩ := bnd hq
   refine wp_forN _ (fun i1_1 xs1_1 a w => Fr 26 [(0, (.slice p0_1 s1.length c0_1)), (1, (.slice p0_2 s2.length c0_2)), (12, (.int .i64 ((s1.length : Int)))), (13, (.int .i64 (i1_1)))] a ∧ Mem w0 (hp w0) w []) (0) ((s1.length : Int)) hl0_3 ?_ ?_ ?_
   ·
    exact ⟨hf.sub ⟨rfl, rfl, rfl, rfl, trivial⟩, hm.pick [] (by decide) rfl⟩
   ·
    clear hf hm
    rintro i1_1 xs1_1 a w ⟨hf, hm⟩ hi1_1 hi1_2 q0_1 hb0_1 ho0_1
    refine wp_seq (wp_region_lit (st_y hf rfl rfl rfl (y_lss rfl rfl rfl) fun a hf => st_end (x_then_n (wp_seq (cond_t hf rfl (decide_eq_true (by omega)) (wp_skip (x_then_n ?_)))))))
    refine wp_seq (wp_block (wp_seq (wp_region_lit (st_y hf rfl rfl rfl (y_move rfl rfl) fun a hf => st_y hf rfl rfl rfl (y_assign rfl rfl) fun a hf => st_end (x_then_n (wp_seq ?_))))))
    refine wp_tree (.p 0 (.p 1 (.p 2 (.p 4 (.p 5 (.p 6 (.q 3 (.e 7 (.p 8 .fin) .nil)))))))) [7] [0, 1, 2, 4, 5, 6, 8] (fun w => Mem w0 (hp w0) w []) (by kernel_rfl) (by kernel_rfl) (fun _ _ _ h => h.2) ?_
    replace hm := hm.drew
    have hS : Mem w0 (hp w0) _ [] := hm.pick [] (by decide) rfl
    refine td_p hf rfl rfl rfl rfl (fun w => y_move rfl rfl) fun a hf => td_p hf rfl rfl rfl rfl (fun w => y_move rfl rfl) fun a hf => ?_
    obtain ⟨x1_1, hx1_1, hb0_1⟩ := bnd hb0_1
    obtain ⟨h1_1, hx1_2⟩ := getI_some.1 hx1_1
    obtain ⟨b1_1, o1_1, c1_1, he⟩ := idx_form h1 hx1_2
    simp only [Value.slice.injEq, Option.some.injEq] at he; obtain ⟨rfl, _, rfl⟩ := he
    refine td_p hf rfl rfl rfl rfl (fun w => y_indexAddr st_25 rfl rfl rfl h1_1 (idx_lt hx1_2)) fun a hf => td_p hf rfl rfl rfl rfl (fun w => y_move rfl rfl) fun a hf => td_p hf rfl rfl rfl rfl (fun w => y_move rfl rfl) fun a hf => ?_
    obtain ⟨x1_2, hx1_3, hb0_1⟩ := bnd hb0_1
    obtain ⟨h1_2, hx1_4⟩ := getI_some.1 hx1_3
    obtain ⟨b1_2, o1_2, c1_2, he⟩ := idx_form h2 hx1_4
    simp only [Value.slice.injEq, Option.some.injEq] at he; obtain ⟨rfl, _, rfl⟩ := he
    refine td_p hf rfl rfl rfl rfl (fun w => y_indexAddr st_25 rfl rfl rfl h1_2 (idx_lt hx1_4)) fun a hf => td_y hf rfl rfl rfl rfl hS (fun w hm => y_load1 Tryz.isAgg3 rfl rfl ((flat_cells (cs := [(.int .i64 (x1_1))]) (hm.now h1) hx1_2 rfl).cell (j := 0) rfl)) fun a hf => te_one (td_ef hf rfl rfl rfl rfl (ef_y hf (y_load1 Tryz.isAgg3 rfl rfl ((flat_cells (cs := [(.int .i64 (x1_2))]) (hm.now h2) hx1_4 rfl).cell (j := 0) rfl))) ?_)
    clear hf a; rintro _ _ a ⟨rfl, rfl⟩ hf
    refine ⟨fun _ => hS, ?_⟩
    refine td_p hf rfl rfl rfl rfl (fun w => y_neq rfl rfl rfl) fun a hf => ?_
    clear hS; refine td_end ?_
    refine x_then_n ?_
    rcases bcases (decide (x1_1 ≠ x1_2)) with h1_3 | h1_3
    ·
     replace hb0_1 := (ite_t h1_3).symm.trans hb0_1
     have h1_4 := of_decide_eq_true h1_3
     refine cond_t hf rfl h1_3 (wp_seq (wp_region_lit (st_y hf rfl rfl rfl (y_assign rfl rfl) fun a hf => st_end (x_then_n (wp_ret (x_blk_ret (x_then_ret ?_)))))))
     refine x_then_ret (x_blk_ret (x_then_ret ?_))
     obtain rfl := Option.some.inj hb0_1
     obtain rfl := ho0_1 _ rfl
     replace hq := sum_r hq
     obtain rfl := Option.some.inj hq
     refine ret_tmp hf Tryz.results37 rfl ?_
     exact ⟨rfl, hm.below⟩
    ·
     replace hb0_1 := (ite_f h1_3).symm.trans hb0_1
     have h1_5 := of_decide_eq_false h1_3
     refine cond_f hf rfl h1_3 (wp_skip (x_blk_n (x_then_n (wp_region_lit (st_y hf rfl rfl rfl (y_add64 rfl rfl rfl (by omega) (by omega)) fun a hf => st_y hf rfl rfl rfl (y_move rfl rfl) fun a hf => st_end (x_then_n ?_))))))
     obtain rfl := Option.some.inj hb0_1
     exact ⟨_, rfl, hf.sub ⟨rfl, rfl, rfl, rfl, trivial⟩, hm.pick [] (by decide) rfl⟩
   ·
    clear hf hm
    rintro i0_1 xs0_1 a w ⟨hf, hm⟩ hi0_1 hi0_2 rfl
    replace hq := sum_l hq
    refine wp_seq (wp_region_lit (st_y hf rfl rfl rfl (y_lss rfl rfl rfl) fun a hf => st_end (x_then_n (wp_seq (cond_f hf rfl (decide_eq_false (by omega)) (wp_exit (x_then_exit ?_)))))))
    refine x_then_exit (x_blk_hit (x_then_n (wp_seq (wp_region_lit (st_y hf rfl rfl rfl (y_assign rfl rfl) fun a hf => st_end (x_then_n (wp_ret ?_)))))))
    obtain rfl := Option.some.inj hq
    refine ret_tmp hf Tryz.results37 rfl ?_
    exact ⟨rfl, hm.below⟩

theorem impl_SameOutcome_ok (w0 : World) (a_ : Outcome_) (v1 : Value) (h1 : GT.rep (hp w0) [v1] a_.said) (v2 : Value) (h2 : GT.rep (hp w0) [v2] a_.cells) (b_ : Outcome_) (v3 : Value) (h3 : GT.rep (hp w0) [v3] b_.said) (v4 : Value) (h4 : GT.rep (hp w0) [v4] b_.cells) (r : Bool) (hq : impl_SameOutcome a_ b_ = some r) :
    Con Tryz.prog 26 [(.agg #[v1, (.int .i64 (a_.end_)), (.int .i64 (a_.value)), v2]), (.agg #[v3, (.int .i64 (b_.end_)), (.int .i64 (b_.value)), v4])] w0 (fun v w' => v = (.bool (r)) ∧ Below w0.heap.size w0 w') := by
  unfold impl_SameOutcome at hq
  refine con_body (l := [(0, (.agg #[v1, (.int .i64 (a_.end_)), (.int .i64 (a_.value)), v2])), (1, (.agg #[v3, (.int .i64 (b_.end_)), (.int .i64 (b_.value)), v4]))]) Tryz.func26 rfl Tryz.ntmps26 (Args.get ⟨rfl, rfl, trivial⟩) rfl ?_
  intro a hf
  have hm := Mem.start w0
  refine wp_seq (wp_region_lit (st_ef hf rfl rfl rfl (e_box hf hm rfl rfl rfl) ?_))
  clear hf a; rintro _ w0_1 a ⟨b0_1, rfl, hm⟩ hf
  refine st_ef hf rfl rfl rfl (e_box hf hm rfl rfl rfl) ?_
  clear hf a; rintro _ w0_2 a ⟨b0_2, rfl, hm⟩ hf
  refine st_y hf rfl rfl rfl (y_assign rfl rfl) fun a hf => st_end (x_then_n (wp_seq ?_))
  obtain ⟨s0_1, hq0_1, hq⟩ := bnd hq
  refine code_cut (K := fun a w => Fr 31 [(4, (.bool (s0_1)))] a ∧ Mem w0 (hp w0) w []) ?_ ?_
  ·
   refine wp_region_lit (st_y hf rfl rfl rfl (y_fieldAddr fo_41_0 rfl rfl) fun a hf => st_y hf rfl rfl rfl (y_load1 Tryz.isAgg25 rfl rfl (hm.blk_cell 1 rfl rfl)) fun a hf => st_y hf rfl rfl rfl (y_fieldAddr fo_41_0 rfl rfl) fun a hf => st_y hf rfl rfl rfl (y_load1 Tryz.isAgg25 rfl rfl (hm.blk_cell 0 rfl rfl)) fun a hf => ?_)
   obtain ⟨r1_1, hx1_1, hq0_1⟩ := bnd hq0_1
   refine st_ef hf rfl rfl rfl (e_call hf rfl Tryz.call37 rfl (slices_Equal_S_int_int_ok _ a_.said v1 (hm.now h1) b_.said v3 (hm.now h3) _ hx1_1)) ?_
   clear hf a; rintro v1_1 w1_1 a ho1_1 hf
   obtain ⟨rfl, hB⟩ := ho1_1
   replace hm := hm.below' hB; clear hB
   refine st_y hf rfl rfl rfl (y_move rfl rfl) fun a hf => ?_
   rcases bcases (r1_1) with h1_1 | h1_1
   ·
    replace hq0_1 := (ite_t h1_1).symm.trans hq0_1
    refine st_yg hf rfl rfl (lk_b rfl h1_1) rfl rfl (y_fieldAddr fo_41_1 rfl rfl) fun a hf => st_yg hf rfl rfl (lk_b rfl h1_1) rfl rfl (y_load1 Tryz.isAgg3 rfl rfl (hm.blk_cell 1 rfl rfl)) fun a hf => st_yg hf rfl rfl (lk_b rfl h1_1) rfl rfl (y_fieldAddr fo_41_1 rfl rfl) fun a hf => st_yg hf rfl rfl (lk_b rfl h1_1) rfl rfl (y_load1 Tryz.isAgg3 rfl rfl (hm.blk_cell 0 rfl rfl)) fun a hf => st_yg hf rfl rfl (lk_b rfl h1_1) rfl rfl (y_eql rfl rfl rfl) fun a hf => st_y hf rfl rfl rfl (y_pick_t rfl (ev_b rfl h1_1) rfl) fun a hf => st_y hf rfl rfl rfl (y_move rfl rfl) fun a hf => ?_
    rcases bcases (decide (a_.end_ = b_.end_)) with h1_2 | h1_2
    ·
     replace hq0_1 := (ite_t h1_2).symm.trans hq0_1
     have h1_3 := of_decide_eq_true h1_2
     refine st_yg hf rfl rfl (lk_b rfl h1_2) rfl rfl (y_fieldAddr fo_41_2 rfl rfl) fun a hf => st_yg hf rfl rfl (lk_b rfl h1_2) rfl rfl (y_load1 Tryz.isAgg3 rfl rfl (hm.blk_cell 1 rfl rfl)) fun a hf => st_yg hf rfl rfl (lk_b rfl h1_2) rfl rfl (y_fieldAddr fo_41_2 rfl rfl) fun a hf => st_yg hf rfl rfl (lk_b rfl h1_2) rfl rfl (y_load1 Tryz.isAgg3 rfl rfl (hm.blk_cell 0 rfl rfl)) fun a hf => st_yg hf rfl rfl (lk_b rfl h1_2) rfl rfl (y_eql rfl rfl rfl) fun a hf => st_y hf rfl rfl rfl (y_pick_t rfl (ev_b rfl h1_2) rfl) fun a hf => st_y hf rfl rfl rfl (y_move rfl rfl) fun a hf => ?_
     rcases bcases (decide (a_.value = b_.value)) with h1_4 | h1_4
     ·
      replace hq0_1 := (ite_t h1_4).symm.trans hq0_1
      have h1_5 := of_decide_eq_true h1_4
      refine st_yg hf rfl rfl (lk_b rfl h1_4) rfl rfl (y_fieldAddr fo_41_3 rfl rfl) fun a hf => st_yg hf rfl rfl (lk_b rfl h1_4) rfl rfl (y_load1 Tryz.isAgg25 rfl rfl (hm.blk_cell 1 rfl rfl)) fun a hf => st_yg hf rfl rfl (lk_b rfl h1_4) rfl rfl (y_fieldAddr fo_41_3 rfl rfl) fun a hf => st_yg hf rfl rfl (lk_b rfl h1_4) rfl rfl (y_load1 Tryz.isAgg25 rfl rfl (hm.blk_cell 0 rfl rfl)) fun a hf => ?_
      obtain ⟨r1_2, hx1_2, hq0_1⟩ := bnd hq0_1
      refine st_efg hf rfl rfl (lk_b rfl h1_4) rfl rfl (e_call hf rfl Tryz.call37 rfl (slices_Equal_S_int_int_ok _ a_.cells v2 (hm.now h2) b_.cells v4 (hm.now h4) _ hx1_2)) ?_
      clear hf a; rintro v1_2 w1_2 a ho1_2 hf
      obtain ⟨rfl, hB⟩ := ho1_2
      replace hm := hm.below' hB; clear hB
      refine st_y hf rfl rfl rfl (y_pick_t rfl (ev_b rfl h1_4) rfl) fun a hf => st_y hf rfl rfl rfl (y_assign rfl rfl) fun a hf => st_end (x_then_n ?_)
      obtain rfl := Option.some.inj hq0_1
      exact ⟨hf.sub ⟨rfl, trivial⟩, hm.pick [] (by decide) rfl⟩
     ·
      replace hq0_1 := (ite_f h1_4).symm.trans hq0_1
      have h1_6 := of_decide_eq_false h1_4
      refine st_no hf rfl rfl (lk_b rfl h1_4) rfl rfl rfl fun a hf => st_no hf rfl rfl (lk_b rfl h1_4) rfl rfl rfl fun a hf => st_no hf rfl rfl (lk_b rfl h1_4) rfl rfl rfl fun a hf => st_no hf rfl rfl (lk_b rfl h1_4) rfl rfl rfl fun a hf => st_no hf rfl rfl (lk_b rfl h1_4) rfl rfl rfl fun a hf => st_y hf rfl rfl rfl (y_pick_f rfl (ev_b rfl h1_4) rfl) fun a hf => st_y hf rfl rfl rfl (y_assign rfl rfl) fun a hf => st_end (x_then_n ?_)
      obtain rfl := Option.some.inj hq0_1
      exact ⟨hf.sub ⟨rfl, trivial⟩, hm.pick [] (by decide) rfl⟩
    ·
     replace hq0_1 := (ite_f h1_2).symm.trans hq0_1
     have h1_7 := of_decide_eq_false h1_2
     refine st_no hf rfl rfl (lk_b rfl h1_2) rfl rfl rfl fun a hf => st_no hf rfl rfl (lk_b rfl h1_2) rfl rfl rfl fun a hf => st_no hf rfl rfl (lk_b rfl h1_2) rfl rfl rfl fun a hf => st_no hf rfl rfl (lk_b rfl h1_2) rfl rfl rfl fun a hf => st_no hf rfl rfl (lk_b rfl h1_2) rfl rfl rfl fun a hf => st_y hf rfl rfl rfl (y_pick_f rfl (ev_b rfl h1_2) rfl) fun a hf => st_y hf rfl rfl rfl (y_move rfl rfl) fun a hf => st_no hf rfl rfl (lk_b rfl rfl) rfl rfl rfl fun a hf => st_no hf rfl rfl (lk_b rfl rfl) rfl rfl rfl fun a hf => ?_
     refine st_no hf rfl rfl (lk_b rfl rfl) rfl rfl rfl fun a hf => st_no hf rfl rfl (lk_b rfl rfl) rfl rfl rfl fun a hf => st_no hf rfl rfl (lk_b rfl rfl) rfl rfl rfl fun a hf => st_y hf rfl rfl rfl (y_pick_f rfl (ev_b rfl rfl) rfl) fun a hf => st_y hf rfl rfl rfl (y_assign rfl rfl) fun a hf => st_end (x_then_n ?_)
     obtain rfl := Option.some.inj hq0_1
     exact ⟨hf.sub ⟨rfl, trivial⟩, hm.pick [] (by decide) rfl⟩
   ·
    replace hq0_1 := (ite_f h1_1).symm.trans hq0_1
    refine st_no hf rfl rfl (lk_b rfl h1_1) rfl rfl rfl fun a hf => st_no hf rfl rfl (lk_b rfl h1_1) rfl rfl rfl fun a hf => st_no hf rfl rfl (lk_b rfl h1_1) rfl rfl rfl fun a hf => st_no hf rfl rfl (lk_b rfl h1_1) rfl rfl rfl fun a hf => st_no hf rfl rfl (lk_b rfl h1_1) rfl rfl rfl fun a hf => st_y hf rfl rfl rfl (y_pick_f rfl (ev_b rfl h1_1) rfl) fun a hf => st_y hf rfl rfl rfl (y_move rfl rfl) fun a hf => st_no hf rfl rfl (lk_b rfl rfl) rfl rfl rfl fun a hf => st_no hf rfl rfl (lk_b rfl rfl) rfl rfl rfl fun a hf => ?_
    refine st_no hf rfl rfl (lk_b rfl rfl) rfl rfl rfl fun a hf => st_no hf rfl rfl (lk_b rfl rfl) rfl rfl rfl fun a hf => st_no hf rfl rfl (lk_b rfl rfl) rfl rfl rfl fun a hf => st_y hf rfl rfl rfl (y_pick_f rfl (ev_b rfl rfl) rfl) fun a hf => st_y hf rfl rfl rfl (y_move rfl rfl) fun a hf => st_no hf rfl rfl (lk_b rfl rfl) rfl rfl rfl fun a hf => st_no hf rfl rfl (lk_b rfl rfl) rfl rfl rfl fun a hf => st_no hf rfl rfl (lk_b rfl rfl) rfl rfl rfl fun a hf => st_no hf rfl rfl (lk_b rfl rfl) rfl rfl rfl fun a hf => ?_
    refine st_no hf rfl rfl (lk_b rfl rfl) rfl rfl rfl fun a hf => st_y hf rfl rfl rfl (y_pick_f rfl (ev_b rfl rfl) rfl) fun a hf => st_y hf rfl rfl rfl (y_assign rfl rfl) fun a hf => st_end (x_then_n ?_)
    obtain rfl := Option.some.inj hq0_1
    exact ⟨hf.sub ⟨rfl, trivial⟩, hm.pick [] (by decide) rfl⟩
  ·
   clear hf hm
   rintro a w ⟨hf, hm⟩
   refine x_then_n (wp_ret ?_)
   obtain rfl := Option.some.inj hq
   refine ret_tmp hf Tryz.results26 rfl ?_
   exact ⟨rfl, hm.below⟩

theorem impl_SameRuns_ok (w0 : World) (a_ : Unit_) (v1 : Value) (h1 : GT.rep (hp w0) [v1] a_.codes) (b_ : Unit_) (v2 : Value) (h2 : GT.rep (hp w0) [v2] b_.codes) (in_ : List Int) (v3 : Value) (h3 : GT.rep (hp w0) [v3] in_) (steps : Int) (r : Bool) (hq : impl_SameRuns a_ b_ in_ steps = some r) :
    Con Tryz.prog 10 [(.agg #[v1]), (.agg #[v2]), v3, (.int .i64 (steps))] w0 (fun v w' => v = (.bool (r)) ∧ Below w0.heap.size w0 w') := by
  unfold impl_SameRuns at hq
  refine con_body (l := [(0, (.agg #[v1])), (1, (.agg #[v2])), (2, v3), (3, (.int .i64 (steps)))]) Tryz.func10 rfl Tryz.ntmps10 (Args.get ⟨rfl, rfl, rfl, rfl, trivial⟩) rfl ?_
  intro a hf
  have hm := Mem.start w0
  refine wp_seq (wp_region_lit (st_ef hf rfl rfl rfl (e_box hf hm rfl rfl rfl) ?_))
  clear hf a; rintro _ w0_1 a ⟨b0_1, rfl, hm⟩ hf
  refine st_ef hf rfl rfl rfl (e_box hf hm rfl rfl rfl) ?_
  clear hf a; rintro _ w0_2 a ⟨b0_2, rfl, hm⟩ hf
  refine st_y hf rfl rfl rfl (y_assign rfl rfl) fun a hf => st_end (x_then_n (wp_seq (wp_region_lit (st_y hf rfl rfl rfl (y_loadN (cs := [v1]) Tryz.isAgg30 Tryz.sizeOf30 rfl rfl (hm.blk_at 1 rfl)) fun a hf => st_y hf rfl rfl rfl (y_move rfl rfl) fun a hf => st_y hf rfl rfl rfl (y_move rfl rfl) fun a hf => ?_))))
  obtain ⟨r0_1, hx0_1, hq⟩ := bnd hq
  refine st_ef hf rfl rfl rfl (e_call hf rfl Tryz.call19 rfl (impl_RunUnit_ok _ a_ v1 (hm.now h1) in_ v3 (hm.now h3) steps _ hx0_1)) ?_
  clear hf a; rintro v0_1 w0_3 a ho0_1 hf
  obtain ⟨v0_2, v0_3, rfl, hB⟩ := ho0_1
  replace hm := hm.give hB; clear hB
  refine st_y hf rfl rfl rfl (y_move rfl rfl) fun a hf => st_y hf rfl rfl rfl (y_extract rfl rfl rfl) fun a hf => st_y hf rfl rfl rfl (y_extract rfl rfl rfl) fun a hf => st_ef hf rfl rfl rfl (e_alloc hm Tryz.zeroValue41 rfl rfl) ?_
  clear hf a; rintro _ w0_4 a ⟨b0_3, rfl, hm⟩ hf
  refine st_ef0 hf rfl rfl (e_storeN 0 hf hm rfl Tryz.sizeOf41 rfl rfl rfl (one_cons (rep_one (hm.ow_rep 1 rfl)) (one_cons rfl (one_cons rfl (one_cons (rep_one (hm.ow_rep 2 rfl)) one_nil)))) rfl rfl) ?_
  clear hf a; rintro _ w0_5 a hm hf
  refine st_y hf rfl rfl rfl (y_assign rfl rfl) fun a hf => st_end (x_then_n (wp_seq (wp_region_lit (st_y hf rfl rfl rfl (y_loadN (cs := [v2]) Tryz.isAgg30 Tryz.sizeOf30 rfl rfl (hm.blk_at 3 rfl)) fun a hf => st_y hf rfl rfl rfl (y_move rfl rfl) fun a hf => ?_))))
  obtain ⟨r0_2, hx0_2, hq⟩ := bnd hq
  refine st_ef hf rfl rfl rfl (e_call hf rfl Tryz.call19 rfl (impl_RunUnit_ok _ b_ v2 (hm.now h2) in_ v3 (hm.now h3) 60000 _ hx0_2)) ?_
  clear hf a; rintro v0_4 w0_6 a ho0_2 hf
  obtain ⟨v0_5, v0_6, rfl, hB⟩ := ho0_2
  replace hm := hm.give hB; clear hB
  refine st_y hf rfl rfl rfl (y_move rfl rfl) fun a hf => st_y hf rfl rfl rfl (y_extract rfl rfl rfl) fun a hf => st_y hf rfl rfl rfl (y_extract rfl rfl rfl) fun a hf => st_ef hf rfl rfl rfl (e_alloc hm Tryz.zeroValue41 rfl rfl) ?_
  clear hf a; rintro _ w0_7 a ⟨b0_4, rfl, hm⟩ hf
  refine st_ef0 hf rfl rfl (e_storeN 0 hf hm rfl Tryz.sizeOf41 rfl rfl rfl (one_cons (rep_one (hm.ow_rep 1 rfl)) (one_cons rfl (one_cons rfl (one_cons (rep_one (hm.ow_rep 2 rfl)) one_nil)))) rfl rfl) ?_
  clear hf a; rintro _ w0_8 a hm hf
  refine st_y hf rfl rfl rfl (y_assign rfl rfl) fun a hf => st_end (x_then_n (wp_seq ?_))
  obtain ⟨s0_1, hq0_1, hq⟩ := bnd hq
  refine code_cut (K := fun a w => Fr 40 [(8, (.bool (s0_1)))] a ∧ Mem w0 (hp w0) w []) ?_ ?_
  ·
   refine wp_region_lit (st_y hf rfl rfl rfl (y_move rfl rfl) fun a hf => st_y hf rfl rfl rfl (y_move rfl rfl) fun a hf => ?_)
   rcases bcases (r0_1.2) with h1_1 | h1_1
   ·
    replace hq0_1 := (ite_t h1_1).symm.trans hq0_1
    refine st_yg hf rfl rfl (lk_b rfl h1_1) rfl rfl (y_move rfl rfl) fun a hf => st_y hf rfl rfl rfl (y_pick_t rfl (ev_b rfl h1_1) rfl) fun a hf => st_y hf rfl rfl rfl (y_move rfl rfl) fun a hf => ?_
    rcases bcases (r0_2.2) with h1_2 | h1_2
    ·
     replace hq0_1 := (ite_t h1_2).symm.trans hq0_1
     refine st_yg hf rfl rfl (lk_b rfl h1_2) rfl rfl (y_fieldAddr fo_41_1 rfl rfl) fun a hf => st_yg hf rfl rfl (lk_b rfl h1_2) rfl rfl (y_load1 Tryz.isAgg3 rfl rfl (hm.blk_cell 3 rfl rfl)) fun a hf => st_yg hf rfl rfl (lk_b rfl h1_2) rfl rfl (y_eql rfl rfl rfl) fun a hf => st_yg hf rfl rfl (lk_b rfl h1_2) rfl rfl (y_move rfl rfl) fun a hf => ?_
     rcases bcases (decide (r0_1.1.end_ = 3)) with h1_3 | h1_3
     ·
      replace hq0_1 := (ite_t h1_3).symm.trans hq0_1
      have h1_4 := of_decide_eq_true h1_3
      refine st_no hf rfl rfl (lk_b rfl h1_3) rfl rfl rfl fun a hf => st_no hf rfl rfl (lk_b rfl h1_3) rfl rfl rfl fun a hf => st_no hf rfl rfl (lk_b rfl h1_3) rfl rfl rfl fun a hf => st_yg hf rfl rfl (lk_b rfl h1_2) rfl rfl (y_pick_t rfl (ev_b rfl h1_3) rfl) fun a hf => st_y hf rfl rfl rfl (y_pick_t rfl (ev_b rfl h1_2) rfl) fun a hf => st_y hf rfl rfl rfl (y_assign rfl rfl) fun a hf => st_end (x_then_n ?_)
      obtain rfl := Option.some.inj hq0_1
      exact ⟨hf.sub ⟨rfl, trivial⟩, hm.pick [] (by decide) rfl⟩
     ·
      replace hq0_1 := (ite_f h1_3).symm.trans hq0_1
      have h1_5 := of_decide_eq_false h1_3
      refine st_yg hf rfl rfl (lk_b rfl h1_3) rfl rfl (y_loadN (cs := [v0_2, (.int .i64 (r0_1.1.end_)), (.int .i64 (r0_1.1.value)), v0_3]) Tryz.isAgg41 Tryz.sizeOf41 rfl rfl (hm.blk_at 3 rfl)) fun a hf => st_yg hf rfl rfl (lk_b rfl h1_3) rfl rfl (y_loadN (cs := [v0_5, (.int .i64 (r0_2.1.end_)), (.int .i64 (r0_2.1.value)), v0_6]) Tryz.isAgg41 Tryz.sizeOf41 rfl rfl (hm.blk_at 0 rfl)) fun a hf => ?_
      obtain ⟨r1_1, hx1_1, hq0_1⟩ := bnd hq0_1
      refine st_efg hf rfl rfl (lk_b rfl h1_3) rfl rfl (e_call hf rfl Tryz.call26 rfl (impl_SameOutcome_ok _ r0_1.1 v0_2 (hm.ow_rep 4 rfl) v0_3 (hm.ow_rep 5 rfl) r0_2.1 v0_5 (hm.ow_rep 1 rfl) v0_6 (hm.ow_rep 2 rfl) _ hx1_1)) ?_
      clear hf a; rintro v1_1 w1_1 a ho1_1 hf
      obtain ⟨rfl, hB⟩ := ho1_1
      replace hm := hm.below' hB; clear hB
      refine st_yg hf rfl rfl (lk_b rfl h1_2) rfl rfl (y_pick_f rfl (ev_b rfl h1_3) rfl) fun a hf => st_y hf rfl rfl rfl (y_pick_t rfl (ev_b rfl h1_2) rfl) fun a hf => st_y hf rfl rfl rfl (y_assign rfl rfl) fun a hf => st_end (x_then_n ?_)
      obtain rfl := Option.some.inj hq0_1
      exact ⟨hf.sub ⟨rfl, trivial⟩, hm.pick [] (by decide) rfl⟩
    ·
     replace hq0_1 := (ite_f h1_2).symm.trans hq0_1
     refine st_no hf rfl rfl (lk_b rfl h1_2) rfl rfl rfl fun a hf => st_no hf rfl rfl (lk_b rfl h1_2) rfl rfl rfl fun a hf => st_no hf rfl rfl (lk_b rfl h1_2) rfl rfl rfl fun a hf => st_no hf rfl rfl (lk_b rfl h1_2) rfl rfl rfl fun a hf => st_nou hf rfl rfl rfl rfl rfl fun a hf => st_nou hf rfl rfl rfl rfl rfl fun a hf => st_nou hf rfl rfl rfl rfl rfl fun a hf => st_no hf rfl rfl (lk_b rfl h1_2) rfl rfl rfl fun a hf => st_y hf rfl rfl rfl (y_pick_f rfl (ev_b rfl h1_2) rfl) fun a hf => ?_
     refine st_y hf rfl rfl rfl (y_assign rfl rfl) fun a hf => st_end (x_then_n ?_)
     obtain rfl := Option.some.inj hq0_1
     exact ⟨hf.sub ⟨rfl, trivial⟩, hm.pick [] (by decide) rfl⟩
   ·
    replace hq0_1 := (ite_f h1_1).symm.trans hq0_1
    refine st_no hf rfl rfl (lk_b rfl h1_1) rfl rfl rfl fun a hf => st_y hf rfl rfl rfl (y_pick_f rfl (ev_b rfl h1_1) rfl) fun a hf => st_y hf rfl rfl rfl (y_move rfl rfl) fun a hf => st_no hf rfl rfl (lk_b rfl rfl) rfl rfl rfl fun a hf => st_no hf rfl rfl (lk_b rfl rfl) rfl rfl rfl fun a hf => st_no hf rfl rfl (lk_b rfl rfl) rfl rfl rfl fun a hf => st_no hf rfl rfl (lk_b rfl rfl) rfl rfl rfl fun a hf => st_nou hf rfl rfl rfl rfl rfl fun a hf => st_nou hf rfl rfl rfl rfl rfl fun a hf => ?_
    refine st_nou hf rfl rfl rfl rfl rfl fun a hf => st_no hf rfl rfl (lk_b rfl rfl) rfl rfl rfl fun a hf => st_y hf rfl rfl rfl (y_pick_f rfl (ev_b rfl rfl) rfl) fun a hf => st_y hf rfl rfl rfl (y_assign rfl rfl) fun a hf => st_end (x_then_n ?_)
    obtain rfl := Option.some.inj hq0_1
    exact ⟨hf.sub ⟨rfl, trivial⟩, hm.pick [] (by decide) rfl⟩
  ·
   clear hf hm
   rintro a w ⟨hf, hm⟩
   refine x_then_n (wp_ret ?_)
   obtain rfl := Option.some.inj hq
   refine ret_tmp hf Tryz.results10 rfl ?_
   exact ⟨rfl, hm.below⟩

theorem laws_eqIntS_ok (w0 : World) (a_ : List Int) (v1 : Value) (h1 : GT.rep (hp w0) [v1] a_) (b_ : List Int) (v2 : Value) (h2 : GT.rep (hp w0) [v2] b_) (r : Bool) (hq : laws_eqIntS a_ b_ = some r) :
    Con Tryz.prog 12 [v1, v2] w0 (fun v w' => v = (.bool (r)) ∧ Below w0.heap.size w0 w') := by
  unfold laws_eqIntS at hq
  refine con_body (l := [(0, v1), (1, v2)]) Tryz.func12 rfl Tryz.ntmps12 (Args.get ⟨rfl, rfl, trivial⟩) rfl ?_
  intro a hf
  have hm := Mem.start w0
  refine wp_seq (wp_region_lit (st_y hf rfl rfl rfl (y_assign rfl rfl) fun a hf => st_end (x_then_n (wp_seq (wp_seq (wp_region_lit (st_y hf rfl rfl rfl (y_move rfl rfl) fun a hf => ?_)))))))
  obtain ⟨p0_1, c0_1, he, hl0_1⟩ := ro_slice h1
  subst he
  refine st_y hf rfl rfl rfl (y_len_slice st_25.und rfl rfl) fun a hf => st_y hf rfl rfl rfl (y_move rfl rfl) fun a hf => ?_
  obtain ⟨p0_2, c0_2, he, hl0_2⟩ := ro_slice h2
  subst he
  refine st_y hf rfl rfl rfl (y_len_slice st_25.und rfl rfl) fun a hf => st_y hf rfl rfl rfl (y_neq rfl rfl rfl) fun a hf => st_end (x_then_n ?_)
  rcases bcases (decide (((a_.length : Int)) ≠ ((b_.length : Int)))) with h0_1 | h0_1
  ·
   replace hq := (ite_t h0_1).symm.trans hq
   have h0_2 := of_decide_eq_true h0_1
   refine cond_t hf rfl h0_1 (wp_seq (wp_region_lit (st_y hf rfl rfl rfl (y_assign rfl rfl) fun a hf => st_end (x_then_n (wp_ret (x_then_ret ?_))))))
   obtain rfl := Option.some.inj hq
   refine ret_tmp hf Tryz.results12 rfl ?_
   exact ⟨rfl, hm.below⟩
  ·
   replace hq := (ite_f h0_1).symm.trans hq
   have h0_3 := of_decide_eq_false h0_1
   refine cond_f hf rfl h0_1 (wp_skip (x_then_n (wp_seq (wp_seq (wp_region_lit (st_y hf rfl rfl rfl (y_assign rfl rfl) fun a hf => st_end (x_then_n ?_)))))))
   refine wp_block ?_
   obtain ⟨r0_1, hl0_3, hq⟩ := bnd hq
   refine wp_forN _ (fun i1_1 xs1_1 a w => Fr 26 [(0, (.slice p0_1 a_.length c0_1)), (1, (.slice p0_2 b_.length c0_2)), (5, (.int .i64 (i1_1)))] a ∧ Mem w0 (hp w0) w []) (0) ((a_.length : Int)) hl0_3 ?_ ?_ ?_
   ·
    exact ⟨hf.sub ⟨rfl, rfl, rfl, trivial⟩, hm.pick [] (by decide) rfl⟩
   ·
    clear hf hm
    rintro i1_1 xs1_1 a w ⟨hf, hm⟩ hi1_1 hi1_2 q0_1 hb0_1 ho0_1
    refine wp_seq (wp_seq (wp_region_lit (st_y hf rfl rfl rfl (y_move rfl rfl) fun a hf => st_y hf rfl rfl rfl (y_move rfl rfl) fun a hf => st_y hf rfl rfl rfl (y_len_slice st_25.und rfl rfl) fun a hf => st_y hf rfl rfl rfl (y_lss rfl rfl rfl) fun a hf => st_end (x_then_n ?_))))
    refine cond_t hf rfl (decide_eq_true (by omega)) (wp_skip (x_then_n (wp_seq (wp_block (wp_seq (wp_tree (.p 0 (.p 1 (.p 2 (.p 4 (.p 5 (.p 6 (.q 3 (.e 7 (.p 8 .fin) .nil)))))))) [7] [0, 1, 2, 4, 5, 6, 8] (fun w => Mem w0 (hp w0) w []) (by kernel_rfl) (by kernel_rfl) (fun _ _ _ h => h.2) ?_))))))
    replace hm := hm.drew
    have hS : Mem w0 (hp w0) _ [] := hm.pick [] (by decide) rfl
    refine td_p hf rfl rfl rfl rfl (fun w => y_move rfl rfl) fun a hf => td_p hf rfl rfl rfl rfl (fun w => y_move rfl rfl) fun a hf => ?_
    obtain ⟨x1_1, hx1_1, hb0_1⟩ := bnd hb0_1
    obtain ⟨h1_1, hx1_2⟩ := getI_some.1 hx1_1
    obtain ⟨b1_1, o1_1, c1_1, he⟩ := idx_form h1 hx1_2
    simp only [Value.slice.injEq, Option.some.injEq] at he; obtain ⟨rfl, _, rfl⟩ := he
    refine td_p hf rfl rfl rfl rfl (fun w => y_indexAddr st_25 rfl rfl rfl h1_1 (idx_lt hx1_2)) fun a hf => td_p hf rfl rfl rfl rfl (fun w => y_move rfl rfl) fun a hf => td_p hf rfl rfl rfl rfl (fun w => y_move rfl rfl) fun a hf => ?_
    obtain ⟨x1_2, hx1_3, hb0_1⟩ := bnd hb0_1
    obtain ⟨h1_2, hx1_4⟩ := getI_some.1 hx1_3
    obtain ⟨b1_2, o1_2, c1_2, he⟩ := idx_form h2 hx1_4
    simp only [Value.slice.injEq, Option.some.injEq] at he; obtain ⟨rfl, _, rfl⟩ := he
    refine td_p hf rfl rfl rfl rfl (fun w => y_indexAddr st_25 rfl rfl rfl h1_2 (idx_lt hx1_4)) fun a hf => td_y hf rfl rfl rfl rfl hS (fun w hm => y_load1 Tryz.isAgg3 rfl rfl ((flat_cells (cs := [(.int .i64 (x1_1))]) (hm.now h1) hx1_2 rfl).cell (j := 0) rfl)) fun a hf => te_one (td_ef hf rfl rfl rfl rfl (ef_y hf (y_load1 Tryz.isAgg3 rfl rfl ((flat_cells (cs := [(.int .i64 (x1_2))]) (hm.now h2) hx1_4 rfl).cell (j := 0) rfl))) ?_)
    clear hf a; rintro _ _ a ⟨rfl, rfl⟩ hf
    refine ⟨fun _ => hS, ?_⟩
    refine td_p hf rfl rfl rfl rfl (fun w => y_neq rfl rfl rfl) fun a hf => ?_
    clear hS; refine td_end ?_
    refine x_then_n ?_
    rcases bcases (decide (x1_1 ≠ x1_2)) with h1_3 | h1_3
    ·
     replace hb0_1 := (ite_t h1_3).symm.trans hb0_1
     have h1_4 := of_decide_eq_true h1_3
     refine cond_t hf rfl h1_3 (wp_seq (wp_region_lit (st_y hf rfl rfl rfl (y_assign rfl rfl) fun a hf => st_end (x_then_n (wp_ret (x_blk_ret (x_then_ret ?_)))))))
     refine x_then_ret (x_blk_ret (x_then_ret ?_))
     obtain rfl := Option.some.inj hb0_1
     obtain rfl := ho0_1 _ rfl
     replace hq := sum_r hq
     obtain rfl := Option.some.inj hq
     refine ret_tmp hf Tryz.results12 rfl ?_
     exact ⟨rfl, hm.below⟩
    ·
     replace hb0_1 := (ite_f h1_3).symm.trans hb0_1
     have h1_5 := of_decide_eq_false h1_3
     refine cond_f hf rfl h1_3 (wp_skip (x_blk_n (x_then_n (wp_region_lit (st_y hf rfl rfl rfl (y_move rfl rfl) fun a hf => st_y hf rfl rfl rfl (y_add64 rfl rfl rfl (by omega) (by omega)) fun a hf => st_y hf rfl rfl rfl (y_assign rfl rfl) fun a hf => st_end ?_)))))
     refine x_then_n ?_
     obtain rfl := Option.some.inj hb0_1
     exact ⟨_, rfl, hf.sub ⟨rfl, rfl, rfl, trivial⟩, hm.pick [] (by decide) rfl⟩
   ·
    clear hf hm
    rintro i0_1 xs0_1 a w ⟨hf, hm⟩ hi0_1 hi0_2 rfl
    replace hq := sum_l hq
    refine wp_seq (wp_seq (wp_region_lit (st_y hf rfl rfl rfl (y_move rfl rfl) fun a hf => st_y hf rfl rfl rfl (y_move rfl rfl) fun a hf => st_y hf rfl rfl rfl (y_len_slice st_25.und rfl rfl) fun a hf => st_y hf rfl rfl rfl (y_lss rfl rfl rfl) fun a hf => st_end (x_then_n ?_))))
    refine cond_f hf rfl (decide_eq_false (by omega)) (wp_exit (x_then_exit (x_then_exit (x_blk_hit (x_then_n (wp_seq (wp_region_lit (st_y hf rfl rfl rfl (y_assign rfl rfl) fun a hf => ?_))))))))
    refine st_end (x_then_n (wp_ret ?_))
    obtain rfl := Option.some.inj hq
    refine ret_tmp hf Tryz.results12 rfl ?_
    exact ⟨rfl, hm.below⟩

theorem laws_eqPhi_ok (w0 : World) (a_ : Phi_) (v1 : Value) (h1 : GT.rep (hp w0) [v1] a_.args) (b_ : Phi_) (v2 : Value) (h2 : GT.rep (hp w0) [v2] b_.args) (r : Bool) (hq : laws_eqPhi a_ b_ = some r) :
    Con Tryz.prog 117 [(.agg #[(.int .i64 (a_.to)), v1]), (.agg #[(.int .i64 (b_.to)), v2])] w0 (fun v w' => v = (.bool (r)) ∧ Below w0.heap.size w0 w') := by
  unfold laws_eqPhi at hq
  refine con_body (l := [(0, (.agg #[(.int .i64 (a_.to)), v1])), (1, (.agg #[(.int .i64 (b_.to)), v2]))]) Tryz.func117 rfl Tryz.ntmps117 (Args.get ⟨rfl, rfl, trivial⟩) rfl ?_
  intro a hf
  have hm := Mem.start w0
  refine wp_seq (wp_region_lit (st_ef hf rfl rfl rfl (e_box hf hm rfl rfl rfl) ?_))
  clear hf a; rintro _ w0_1 a ⟨b0_1, rfl, hm⟩ hf
  refine st_ef hf rfl rfl rfl (e_box hf hm rfl rfl rfl) ?_
  clear hf a; rintro _ w0_2 a ⟨b0_2, rfl, hm⟩ hf
  refine st_y hf rfl rfl rfl (y_assign rfl rfl) fun a hf => st_end (x_then_n (wp_seq (wp_seq (wp_region_lit (st_y hf rfl rfl rfl (y_fieldAddr fo_102_0 rfl rfl) fun a hf => st_y hf rfl rfl rfl (y_load1 Tryz.isAgg3 rfl rfl (hm.blk_cell 1 rfl rfl)) fun a hf => st_y hf rfl rfl rfl (y_fieldAddr fo_102_0 rfl rfl) fun a hf => ?_)))))
  refine st_y hf rfl rfl rfl (y_load1 Tryz.isAgg3 rfl rfl (hm.blk_cell 0 rfl rfl)) fun a hf => st_y hf rfl rfl rfl (y_neq rfl rfl rfl) fun a hf => st_end (x_then_n ?_)
  rcases bcases (decide (a_.to ≠ b_.to)) with h0_1 | h0_1
  ·
   replace hq := (ite_t h0_1).symm.trans hq
   have h0_2 := of_decide_eq_true h0_1
   refine cond_t hf rfl h0_1 (wp_seq (wp_region_lit (st_y hf rfl rfl rfl (y_assign rfl rfl) fun a hf => st_end (x_then_n (wp_ret (x_then_ret ?_))))))
   obtain rfl := Option.some.inj hq
   refine ret_tmp hf Tryz.results117 rfl ?_
   exact ⟨rfl, hm.below⟩
  ·
   replace hq := (ite_f h0_1).symm.trans hq
   have h0_3 := of_decide_eq_false h0_1
   refine cond_f hf rfl h0_1 (wp_skip (x_then_n (wp_seq (wp_seq (wp_region_lit (st_y hf rfl rfl rfl (y_fieldAddr fo_102_1 rfl rfl) fun a hf => st_y hf rfl rfl rfl (y_load1 Tryz.isAgg25 rfl rfl (hm.blk_cell 1 rfl rfl)) fun a hf => st_y hf rfl rfl rfl (y_fieldAddr fo_102_1 rfl rfl) fun a hf => ?_))))))
   refine st_y hf rfl rfl rfl (y_load1 Tryz.isAgg25 rfl rfl (hm.blk_cell 0 rfl rfl)) fun a hf => ?_
   obtain ⟨r0_1, hx0_1, hq⟩ := bnd hq
   refine st_ef hf rfl rfl rfl (e_call hf rfl Tryz.call12 rfl (laws_eqIntS_ok _ a_.args v1 (hm.now h1) b_.args v2 (hm.now h2) _ hx0_1)) ?_
   clear hf a; rintro v0_1 w0_3 a ho0_1 hf
   obtain ⟨rfl, hB⟩ := ho0_1
   replace hm := hm.below' hB; clear hB
   refine st_y hf rfl rfl rfl (y_not rfl rfl) fun a hf => st_end (x_then_n ?_)
   rcases bcases (!(r0_1)) with h0_4 | h0_4
   ·
    replace hq := (ite_t h0_4).symm.trans hq
    have h0_5 := bnot_t' h0_4
    refine cond_t hf rfl h0_4 (wp_seq (wp_region_lit (st_y hf rfl rfl rfl (y_assign rfl rfl) fun a hf => st_end (x_then_n (wp_ret (x_then_ret ?_))))))
    obtain rfl := Option.some.inj hq
    refine ret_tmp hf Tryz.results117 rfl ?_
    exact ⟨rfl, hm.below⟩
   ·
    replace hq := (ite_f h0_4).symm.trans hq
    have h0_6 := bnot_f' h0_4
    refine cond_f hf rfl h0_4 (wp_skip (x_then_n (wp_seq (wp_region_lit (st_y hf rfl rfl rfl (y_assign rfl rfl) fun a hf => st_end (x_then_n (wp_ret ?_)))))))
    obtain rfl := Option.some.inj hq
    refine ret_tmp hf Tryz.results117 rfl ?_
    exact ⟨rfl, hm.below⟩

theorem laws_eqPhiS_ok (w0 : World) (a_ : List Phi_) (v1 : Value) (h1 : GT.rep (hp w0) [v1] a_) (b_ : List Phi_) (v2 : Value) (h2 : GT.rep (hp w0) [v2] b_) (r : Bool) (hq : laws_eqPhiS a_ b_ = some r) :
    Con Tryz.prog 100 [v1, v2] w0 (fun v w' => v = (.bool (r)) ∧ Below w0.heap.size w0 w') := by
  unfold laws_eqPhiS at hq
  refine con_body (l := [(0, v1), (1, v2)]) Tryz.func100 rfl Tryz.ntmps100 (Args.get ⟨rfl, rfl, trivial⟩) rfl ?_
  intro a hf
  have hm := Mem.start w0
  refine wp_seq (wp_region_lit (st_y hf rfl rfl rfl (y_assign rfl rfl) fun a hf => st_end (x_then_n (wp_seq (wp_seq (wp_region_lit (st_y hf rfl rfl rfl (y_move rfl rfl) fun a hf => ?_)))))))
  obtain ⟨p0_1, c0_1, he, hl0_1⟩ := ro_slice h1
  subst he
  refine st_y hf rfl rfl rfl (y_len_slice st_83.und rfl rfl) fun a hf => st_y hf rfl rfl rfl (y_move rfl rfl) fun a hf => ?_
  obtain ⟨p0_2, c0_2, he, hl0_2⟩ := ro_slice h2
  subst he
  refine st_y hf rfl rfl rfl (y_len_slice st_83.und rfl rfl) fun a hf => st_y hf rfl rfl rfl (y_neq rfl rfl rfl) fun a hf => st_end (x_then_n ?_)
  rcases bcases (decide (((a_.length : Int)) ≠ ((b_.length : Int)))) with h0_1 | h0_1
  ·
   replace hq := (ite_t h0_1).symm.trans hq
   have h0_2 := of_decide_eq_true h0_1
   refine cond_t hf rfl h0_1 (wp_seq (wp_region_lit (st_y hf rfl rfl rfl (y_assign rfl rfl) fun a hf => st_end (x_then_n (wp_ret (x_then_ret ?_))))))
   obtain rfl := Option.some.inj hq
   refine ret_tmp hf Tryz.results100 rfl ?_
   exact ⟨rfl, hm.below⟩
  ·
   replace hq := (ite_f h0_1).symm.trans hq
   have h0_3 := of_decide_eq_false h0_1
   refine cond_f hf rfl h0_1 (wp_skip (x_then_n (wp_seq (wp_seq (wp_region_lit (st_y hf rfl rfl rfl (y_assign rfl rfl) fun a hf => st_end (x_then_n ?_)))))))
   refine wp_block ?_
   obtain ⟨r0_1, hl0_3, hq⟩ := bnd hq
   refine wp_forN _ (fun i1_1 xs1_1 a w => Fr 27 [(0, (.slice p0_1 a_.length c0_1)), (1, (.slice p0_2 b_.length c0_2)), (5, (.int .i64 (i1_1)))] a ∧ Mem w0 (hp w0) w []) (0) ((a_.length : Int)) hl0_3 ?_ ?_ ?_
   ·
    exact ⟨hf.sub ⟨rfl, rfl, rfl, trivial⟩, hm.pick [] (by decide) rfl⟩
   ·
    clear hf hm
    rintro i1_1 xs1_1 a w ⟨hf, hm⟩ hi1_1 hi1_2 q0_1 hb0_1 ho0_1
    refine wp_seq (wp_seq (wp_region_lit (st_y hf rfl rfl rfl (y_move rfl rfl) fun a hf => st_y hf rfl rfl rfl (y_move rfl rfl) fun a hf => st_y hf rfl rfl rfl (y_len_slice st_83.und rfl rfl) fun a hf => st_y hf rfl rfl rfl (y_lss rfl rfl rfl) fun a hf => st_end (x_then_n ?_))))
    refine cond_t hf rfl (decide_eq_true (by omega)) (wp_skip (x_then_n (wp_seq (wp_block (wp_seq (wp_tree (.p 0 (.p 1 (.p 2 (.p 4 (.p 5 (.p 6 (.q 3 (.e 7 (.e 8 (.p 9 .fin) .nil) .nil)))))))) [7] [0, 1, 2, 4, 5, 6, 9] (fun w => Mem w0 (hp w0) w []) (by kernel_rfl) (by kernel_rfl) (fun _ _ _ h => h.2) ?_))))))
    replace hm := hm.drew
    have hS : Mem w0 (hp w0) _ [] := hm.pick [] (by decide) rfl
    refine td_p hf rfl rfl rfl rfl (fun w => y_move rfl rfl) fun a hf => td_p hf rfl rfl rfl rfl (fun w => y_move rfl rfl) fun a hf => ?_
    obtain ⟨x1_1, hx1_1, hb0_1⟩ := bnd hb0_1
    obtain ⟨h1_1, hx1_2⟩ := getI_some.1 hx1_1
    obtain ⟨b1_1, o1_1, c1_1, he⟩ := idx_form' h1 hx1_2
    simp only [Value.slice.injEq, Option.some.injEq] at he; obtain ⟨rfl, _, rfl⟩ := he
    obtain ⟨_, _, hc1_1, hr1_1⟩ := ro_get' h1 hx1_2
    obtain ⟨_, _, rfl, rfl, h1_2⟩ := hr1_1
    obtain ⟨v1_1, rfl, -⟩ := id h1_2
    replace h1_2 : GT.rep (hp w0) [v1_1] x1_1.args := h1_2
    replace hc1_1 : CellsAt (hp w0) b1_1 (o1_1 + (i1_1).toNat * 2) [(.int .i64 (x1_1.to)), v1_1] := hc1_1
    refine td_p hf rfl rfl rfl rfl (fun w => y_indexAddr st_83 rfl rfl rfl h1_1 (idx_lt hx1_2)) fun a hf => td_p hf rfl rfl rfl rfl (fun w => y_move rfl rfl) fun a hf => td_p hf rfl rfl rfl rfl (fun w => y_move rfl rfl) fun a hf => ?_
    obtain ⟨x1_2, hx1_3, hb0_1⟩ := bnd hb0_1
    obtain ⟨h1_3, hx1_4⟩ := getI_some.1 hx1_3
    obtain ⟨b1_2, o1_2, c1_2, he⟩ := idx_form' h2 hx1_4
    simp only [Value.slice.injEq, Option.some.injEq] at he; obtain ⟨rfl, _, rfl⟩ := he
    obtain ⟨_, _, hc1_2, hr1_2⟩ := ro_get' h2 hx1_4
    obtain ⟨_, _, rfl, rfl, h1_4⟩ := hr1_2
    obtain ⟨v1_2, rfl, -⟩ := id h1_4
    replace h1_4 : GT.rep (hp w0) [v1_2] x1_2.args := h1_4
    replace hc1_2 : CellsAt (hp w0) b1_2 (o1_2 + (i1_1).toNat * 2) [(.int .i64 (x1_2.to)), v1_2] := hc1_2
    refine td_p hf rfl rfl rfl rfl (fun w => y_indexAddr st_83 rfl rfl rfl h1_3 (idx_lt hx1_4)) fun a hf => td_y hf rfl rfl rfl rfl hS (fun w hm => y_loadN (cs := [(.int .i64 (x1_1.to)), v1_1]) Tryz.isAgg102 Tryz.sizeOf102 rfl rfl (hc1_1.mono hm.lez)) fun a hf => te_one (td_ef hf rfl rfl rfl rfl (ef_y hf (y_loadN (cs := [(.int .i64 (x1_2.to)), v1_2]) Tryz.isAgg102 Tryz.sizeOf102 rfl rfl (hc1_2.mono hm.lez))) ?_)
    clear hf a; rintro _ _ a ⟨rfl, rfl⟩ hf
    refine ⟨fun _ => hS, ?_⟩
    refine te_one ?_
    obtain ⟨r1_1, hx1_5, hb0_1⟩ := bnd hb0_1
    refine td_ef hf rfl rfl rfl rfl (e_call hf rfl Tryz.call117 rfl (laws_eqPhi_ok _ x1_1 v1_1 (hm.now h1_2) x1_2 v1_2 (hm.now h1_4) _ hx1_5)) ?_
    clear hf a; rintro v1_3 w1_1 a ho1_1 hf
    obtain ⟨rfl, hB⟩ := ho1_1
    replace hm := hm.below' hB; clear hB
    refine ⟨fun h => absurd h (by decide), ?_⟩
    refine td_p hf rfl rfl rfl rfl (fun w => y_not rfl rfl) fun a hf => ?_
    clear hS; refine td_end ?_
    refine x_then_n ?_
    rcases bcases (!(r1_1)) with h1_5 | h1_5
    ·
     replace hb0_1 := (ite_t h1_5).symm.trans hb0_1
     have h1_6 := bnot_t' h1_5
     refine cond_t hf rfl h1_5 (wp_seq (wp_region_lit (st_y hf rfl rfl rfl (y_assign rfl rfl) fun a hf => st_end (x_then_n (wp_ret (x_blk_ret (x_then_ret ?_)))))))
     refine x_then_ret (x_blk_ret (x_then_ret ?_))
     obtain rfl := Option.some.inj hb0_1
     obtain rfl := ho0_1 _ rfl
     replace hq := sum_r hq
     obtain rfl := Option.some.inj hq
     refine ret_tmp hf Tryz.results100 rfl ?_
     exact ⟨rfl, hm.below⟩
    ·
     replace hb0_1 := (ite_f h1_5).symm.trans hb0_1
     have h1_7 := bnot_f' h1_5
     refine cond_f hf rfl h1_5 (wp_skip (x_blk_n (x_then_n (wp_region_lit (st_y hf rfl rfl rfl (y_move rfl rfl) fun a hf => st_y hf rfl rfl rfl (y_add64 rfl rfl rfl (by omega) (by omega)) fun a hf => st_y hf rfl rfl rfl (y_assign rfl rfl) fun a hf => st_end ?_)))))
     refine x_then_n ?_
     obtain rfl := Option.some.inj hb0_1
     exact ⟨_, rfl, hf.sub ⟨rfl, rfl, rfl, trivial⟩, hm.pick [] (by decide) rfl⟩
   ·
    clear hf hm
    rintro i0_1 xs0_1 a w ⟨hf, hm⟩ hi0_1 hi0_2 rfl
    replace hq := sum_l hq
    refine wp_seq (wp_seq (wp_region_lit (st_y hf rfl rfl rfl (y_move rfl rfl) fun a hf => st_y hf rfl rfl rfl (y_move rfl rfl) fun a hf => st_y hf rfl rfl rfl (y_len_slice st_83.und rfl rfl) fun a hf => st_y hf rfl rfl rfl (y_lss rfl rfl rfl) fun a hf => st_end (x_then_n ?_))))
    refine cond_f hf rfl (decide_eq_false (by omega)) (wp_exit (x_then_exit (x_then_exit (x_blk_hit (x_then_n (wp_seq (wp_region_lit (st_y hf rfl rfl rfl (y_assign rfl rfl) fun a hf => ?_))))))))
    refine st_end (x_then_n (wp_ret ?_))
    obtain rfl := Option.some.inj hq
    refine ret_tmp hf Tryz.results100 rfl ?_
    exact ⟨rfl, hm.below⟩

theorem laws_eqIns_ok (w0 : World) (a_ : Ins_) (v1 : Value) (h1 : GT.rep (hp w0) [v1] a_.args) (b_ : Ins_) (v2 : Value) (h2 : GT.rep (hp w0) [v2] b_.args) (r : Bool) (hq : laws_eqIns a_ b_ = some r) :
    Con Tryz.prog 118 [(.agg #[(.int .i64 (a_.op)), (.int .i64 (a_.to)), v1, (.int .i64 (a_.n_))]), (.agg #[(.int .i64 (b_.op)), (.int .i64 (b_.to)), v2, (.int .i64 (b_.n_))])] w0 (fun v w' => v = (.bool (r)) ∧ Below w0.heap.size w0 w') := by
  unfold laws_eqIns at hq
  refine con_body (l := [(0, (.agg #[(.int .i64 (a_.op)), (.int .i64 (a_.to)), v1, (.int .i64 (a_.n_))])), (1, (.agg #[(.int .i64 (b_.op)), (.int .i64 (b_.to)), v2, (.int .i64 (b_.n_))]))]) Tryz.func118 rfl Tryz.ntmps118 (Args.get ⟨rfl, rfl, trivial⟩) rfl ?_
  intro a hf
  have hm := Mem.start w0
  refine wp_seq (wp_region_lit (st_ef hf rfl rfl rfl (e_box hf hm rfl rfl rfl) ?_))
  clear hf a; rintro _ w0_1 a ⟨b0_1, rfl, hm⟩ hf
  refine st_ef hf rfl rfl rfl (e_box hf hm rfl rfl rfl) ?_
  clear hf a; rintro _ w0_2 a ⟨b0_2, rfl, hm⟩ hf
  refine st_y hf rfl rfl rfl (y_assign rfl rfl) fun a hf => st_end (x_then_n (wp_seq (wp_seq (wp_region_lit (st_y hf rfl rfl rfl (y_fieldAddr fo_91_0 rfl rfl) fun a hf => st_y hf rfl rfl rfl (y_load1 Tryz.isAgg3 rfl rfl (hm.blk_cell 1 rfl rfl)) fun a hf => st_y hf rfl rfl rfl (y_fieldAddr fo_91_0 rfl rfl) fun a hf => ?_)))))
  refine st_y hf rfl rfl rfl (y_load1 Tryz.isAgg3 rfl rfl (hm.blk_cell 0 rfl rfl)) fun a hf => st_y hf rfl rfl rfl (y_neq rfl rfl rfl) fun a hf => st_end (x_then_n ?_)
  rcases bcases (decide (a_.op ≠ b_.op)) with h0_1 | h0_1
  ·
   replace hq := (ite_t h0_1).symm.trans hq
   have h0_2 := of_decide_eq_true h0_1
   refine cond_t hf rfl h0_1 (wp_seq (wp_region_lit (st_y hf rfl rfl rfl (y_assign rfl rfl) fun a hf => st_end (x_then_n (wp_ret (x_then_ret ?_))))))
   obtain rfl := Option.some.inj hq
   refine ret_tmp hf Tryz.results118 rfl ?_
   exact ⟨rfl, hm.below⟩
  ·
   replace hq := (ite_f h0_1).symm.trans hq
   have h0_3 := of_decide_eq_false h0_1
   refine cond_f hf rfl h0_1 (wp_skip (x_then_n (wp_seq (wp_seq (wp_region_lit (st_y hf rfl rfl rfl (y_fieldAddr fo_91_1 rfl rfl) fun a hf => st_y hf rfl rfl rfl (y_load1 Tryz.isAgg3 rfl rfl (hm.blk_cell 1 rfl rfl)) fun a hf => st_y hf rfl rfl rfl (y_fieldAddr fo_91_1 rfl rfl) fun a hf => ?_))))))
   refine st_y hf rfl rfl rfl (y_load1 Tryz.isAgg3 rfl rfl (hm.blk_cell 0 rfl rfl)) fun a hf => st_y hf rfl rfl rfl (y_neq rfl rfl rfl) fun a hf => st_end (x_then_n ?_)
   rcases bcases (decide (a_.to ≠ b_.to)) with h0_4 | h0_4
   ·
    replace hq := (ite_t h0_4).symm.trans hq
    have h0_5 := of_decide_eq_true h0_4
    refine cond_t hf rfl h0_4 (wp_seq (wp_region_lit (st_y hf rfl rfl rfl (y_assign rfl rfl) fun a hf => st_end (x_then_n (wp_ret (x_then_ret ?_))))))
    obtain rfl := Option.some.inj hq
    refine ret_tmp hf Tryz.results118 rfl ?_
    exact ⟨rfl, hm.below⟩
   ·
    replace hq := (ite_f h0_4).symm.trans hq
    have h0_6 := of_decide_eq_false h0_4
    refine cond_f hf rfl h0_4 (wp_skip (x_then_n (wp_seq (wp_seq (wp_region_lit (st_y hf rfl rfl rfl (y_fieldAddr fo_91_2 rfl rfl) fun a hf => st_y hf rfl rfl rfl (y_load1 Tryz.isAgg25 rfl rfl (hm.blk_cell 1 rfl rfl)) fun a hf => st_y hf rfl rfl rfl (y_fieldAddr fo_91_2 rfl rfl) fun a hf => ?_))))))
    refine st_y hf rfl rfl rfl (y_load1 Tryz.isAgg25 rfl rfl (hm.blk_cell 0 rfl rfl)) fun a hf => ?_
    obtain ⟨r0_1, hx0_1, hq⟩ := bnd hq
    refine st_ef hf rfl rfl rfl (e_call hf rfl Tryz.call12 rfl (laws_eqIntS_ok _ a_.args v1 (hm.now h1) b_.args v2 (hm.now h2) _ hx0_1)) ?_
    clear hf a; rintro v0_1 w0_3 a ho0_1 hf
    obtain ⟨rfl, hB⟩ := ho0_1
    replace hm := hm.below' hB; clear hB
    refine st_y hf rfl rfl rfl (y_not rfl rfl) fun a hf => st_end (x_then_n ?_)
    rcases bcases (!(r0_1)) with h0_7 | h0_7
    ·
     replace hq := (ite_t h0_7).symm.trans hq
     have h0_8 := bnot_t' h0_7
     refine cond_t hf rfl h0_7 (wp_seq (wp_region_lit (st_y hf rfl rfl rfl (y_assign rfl rfl) fun a hf => st_end (x_then_n (wp_ret (x_then_ret ?_))))))
     obtain rfl := Option.some.inj hq
     refine ret_tmp hf Tryz.results118 rfl ?_
     exact ⟨rfl, hm.below⟩
    ·
     replace hq := (ite_f h0_7).symm.trans hq
     have h0_9 := bnot_f' h0_7
     refine cond_f hf rfl h0_7 (wp_skip (x_then_n (wp_seq (wp_seq (wp_region_lit (st_y hf rfl rfl rfl (y_fieldAddr fo_91_3 rfl rfl) fun a hf => st_y hf rfl rfl rfl (y_load1 Tryz.isAgg3 rfl rfl (hm.blk_cell 1 rfl rfl)) fun a hf => st_y hf rfl rfl rfl (y_fieldAddr fo_91_3 rfl rfl) fun a hf => ?_))))))
     refine st_y hf rfl rfl rfl (y_load1 Tryz.isAgg3 rfl rfl (hm.blk_cell 0 rfl rfl)) fun a hf => st_y hf rfl rfl rfl (y_neq rfl rfl rfl) fun a hf => st_end (x_then_n ?_)
     rcases bcases (decide (a_.n_ ≠ b_.n_)) with h0_10 | h0_10
     ·
      replace hq := (ite_t h0_10).symm.trans hq
      have h0_11 := of_decide_eq_true h0_10
      refine cond_t hf rfl h0_10 (wp_seq (wp_region_lit (st_y hf rfl rfl rfl (y_assign rfl rfl) fun a hf => st_end (x_then_n (wp_ret (x_then_ret ?_))))))
      obtain rfl := Option.some.inj hq
      refine ret_tmp hf Tryz.results118 rfl ?_
      exact ⟨rfl, hm.below⟩
     ·
      replace hq := (ite_f h0_10).symm.trans hq
      have h0_12 := of_decide_eq_false h0_10
      refine cond_f hf rfl h0_10 (wp_skip (x_then_n (wp_seq (wp_region_lit (st_y hf rfl rfl rfl (y_assign rfl rfl) fun a hf => st_end (x_then_n (wp_ret ?_)))))))
      obtain rfl := Option.some.inj hq
      refine ret_tmp hf Tryz.results118 rfl ?_
      exact ⟨rfl, hm.below⟩

theorem laws_eqInsS_ok (w0 : World) (a_ : List Ins_) (v1 : Value) (h1 : GT.rep (hp w0) [v1] a_) (b_ : List Ins_) (v2 : Value) (h2 : GT.rep (hp w0) [v2] b_) (r : Bool) (hq : laws_eqInsS a_ b_ = some r) :
    Con Tryz.prog 101 [v1, v2] w0 (fun v w' => v = (.bool (r)) ∧ Below w0.heap.size w0 w') := by
  unfold laws_eqInsS at hq
  refine con_body (l := [(0, v1), (1, v2)]) Tryz.func101 rfl Tryz.ntmps101 (Args.get ⟨rfl, rfl, trivial⟩) rfl ?_
  intro a hf
  have hm := Mem.start w0
  refine wp_seq (wp_region_lit (st_y hf rfl rfl rfl (y_assign rfl rfl) fun a hf => st_end (x_then_n (wp_seq (wp_seq (wp_region_lit (st_y hf rfl rfl rfl (y_move rfl rfl) fun a hf => ?_)))))))
  obtain ⟨p0_1, c0_1, he, hl0_1⟩ := ro_slice h1
  subst he
  refine st_y hf rfl rfl rfl (y_len_slice st_84.und rfl rfl) fun a hf => st_y hf rfl rfl rfl (y_move rfl rfl) fun a hf => ?_
  obtain ⟨p0_2, c0_2, he, hl0_2⟩ := ro_slice h2
  subst he
  refine st_y hf rfl rfl rfl (y_len_slice st_84.und rfl rfl) fun a hf => st_y hf rfl rfl rfl (y_neq rfl rfl rfl) fun a hf => st_end (x_then_n ?_)
  rcases bcases (decide (((a_.length : Int)) ≠ ((b_.length : Int)))) with h0_1 | h0_1
  ·
   replace hq := (ite_t h0_1).symm.trans hq
   have h0_2 := of_decide_eq_true h0_1
   refine cond_t hf rfl h0_1 (wp_seq (wp_region_lit (st_y hf rfl rfl rfl (y_assign rfl rfl) fun a hf => st_end (x_then_n (wp_ret (x_then_ret ?_))))))
   obtain rfl := Option.some.inj hq
   refine ret_tmp hf Tryz.results101 rfl ?_
   exact ⟨rfl, hm.below⟩
  ·
   replace hq := (ite_f h0_1).symm.trans hq
   have h0_3 := of_decide_eq_false h0_1
   refine cond_f hf rfl h0_1 (wp_skip (x_then_n (wp_seq (wp_seq (wp_region_lit (st_y hf rfl rfl rfl (y_assign rfl rfl) fun a hf => st_end (x_then_n ?_)))))))
   refine wp_block ?_
   obtain ⟨r0_1, hl0_3, hq⟩ := bnd hq
   refine wp_forN _ (fun i1_1 xs1_1 a w => Fr 27 [(0, (.slice p0_1 a_.length c0_1)), (1, (.slice p0_2 b_.length c0_2)), (5, (.int .i64 (i1_1)))] a ∧ Mem w0 (hp w0) w []) (0) ((a_.length : Int)) hl0_3 ?_ ?_ ?_
   ·
    exact ⟨hf.sub ⟨rfl, rfl, rfl, trivial⟩, hm.pick [] (by decide) rfl⟩
   ·
    clear hf hm
    rintro i1_1 xs1_1 a w ⟨hf, hm⟩ hi1_1 hi1_2 q0_1 hb0_1 ho0_1
    refine wp_seq (wp_seq (wp_region_lit (st_y hf rfl rfl rfl (y_move rfl rfl) fun a hf => st_y hf rfl rfl rfl (y_move rfl rfl) fun a hf => st_y hf rfl rfl rfl (y_len_slice st_84.und rfl rfl) fun a hf => st_y hf rfl rfl rfl (y_lss rfl rfl rfl) fun a hf => st_end (x_then_n ?_))))
    refine cond_t hf rfl (decide_eq_true (by omega)) (wp_skip (x_then_n (wp_seq (wp_block (wp_seq (wp_tree (.p 0 (.p 1 (.p 2 (.p 4 (.p 5 (.p 6 (.q 3 (.e 7 (.e 8 (.p 9 .fin) .nil) .nil)))))))) [7] [0, 1, 2, 4, 5, 6, 9] (fun w => Mem w0 (hp w0) w []) (by kernel_rfl) (by kernel_rfl) (fun _ _ _ h => h.2) ?_))))))
    replace hm := hm.drew
    have hS : Mem w0 (hp w0) _ [] := hm.pick [] (by decide) rfl
    refine td_p hf rfl rfl rfl rfl (fun w => y_move rfl rfl) fun a hf => td_p hf rfl rfl rfl rfl (fun w => y_move rfl rfl) fun a hf => ?_
    obtain ⟨x1_1, hx1_1, hb0_1⟩ := bnd hb0_1
    obtain ⟨h1_1, hx1_2⟩ := getI_some.1 hx1_1
    obtain ⟨b1_1, o1_1, c1_1, he⟩ := idx_form' h1 hx1_2
    simp only [Value.slice.injEq, Option.some.injEq] at he; obtain ⟨rfl, _, rfl⟩ := he
    obtain ⟨_, _, hc1_1, hr1_1⟩ := ro_get' h1 hx1_2
    obtain ⟨_, _, rfl, rfl, _, _, rfl, rfl, _, _, rfl, h1_2, rfl⟩ := hr1_1
    obtain ⟨v1_1, rfl, -⟩ := id h1_2
    replace h1_2 : GT.rep (hp w0) [v1_1] x1_1.args := h1_2
    replace hc1_1 : CellsAt (hp w0) b1_1 (o1_1 + (i1_1).toNat * 4) [(.int .i64 (x1_1.op)), (.int .i64 (x1_1.to)), v1_1, (.int .i64 (x1_1.n_))] := hc1_1
    refine td_p hf rfl rfl rfl rfl (fun w => y_indexAddr st_84 rfl rfl rfl h1_1 (idx_lt hx1_2)) fun a hf => td_p hf rfl rfl rfl rfl (fun w => y_move rfl rfl) fun a hf => td_p hf rfl rfl rfl rfl (fun w => y_move rfl rfl) fun a hf => ?_
    obtain ⟨x1_2, hx1_3, hb0_1⟩ := bnd hb0_1
    obtain ⟨h1_3, hx1_4⟩ := getI_some.1 hx1_3
    obtain ⟨b1_2, o1_2, c1_2, he⟩ := idx_form' h2 hx1_4
    simp only [Value.slice.injEq, Option.some.injEq] at he; obtain ⟨rfl, _, rfl⟩ := he
    obtain ⟨_, _, hc1_2, hr1_2⟩ := ro_get' h2 hx1_4
    obtain ⟨_, _, rfl, rfl, _, _, rfl, rfl, _, _, rfl, h1_4, rfl⟩ := hr1_2
    obtain ⟨v1_2, rfl, -⟩ := id h1_4
    replace h1_4 : GT.rep (hp w0) [v1_2] x1_2.args := h1_4
    replace hc1_2 : CellsAt (hp w0) b1_2 (o1_2 + (i1_1).toNat * 4) [(.int .i64 (x1_2.op)), (.int .i64 (x1_2.to)), v1_2, (.int .i64 (x1_2.n_))] := hc1_2
    refine td_p hf rfl rfl rfl rfl (fun w => y_indexAddr st_84 rfl rfl rfl h1_3 (idx_lt hx1_4)) fun a hf => td_y hf rfl rfl rfl rfl hS (fun w hm => y_loadN (cs := [(.int .i64 (x1_1.op)), (.int .i64 (x1_1.to)), v1_1, (.int .i64 (x1_1.n_))]) Tryz.isAgg91 Tryz.sizeOf91 rfl rfl (hc1_1.mono hm.lez)) fun a hf => te_one (td_ef hf rfl rfl rfl rfl (ef_y hf (y_loadN (cs := [(.int .i64 (x1_2.op)), (.int .i64 (x1_2.to)), v1_2, (.int .i64 (x1_2.n_))]) Tryz.isAgg91 Tryz.sizeOf91 rfl rfl (hc1_2.mono hm.lez))) ?_)
    clear hf a; rintro _ _ a ⟨rfl, rfl⟩ hf
    refine ⟨fun _ => hS, ?_⟩
    refine te_one ?_
    obtain ⟨r1_1, hx1_5, hb0_1⟩ := bnd hb0_1
    refine td_ef hf rfl rfl rfl rfl (e_call hf rfl Tryz.call118 rfl (laws_eqIns_ok _ x1_1 v1_1 (hm.now h1_2) x1_2 v1_2 (hm.now h1_4) _ hx1_5)) ?_
    clear hf a; rintro v1_3 w1_1 a ho1_1 hf
    obtain ⟨rfl, hB⟩ := ho1_1
    replace hm := hm.below' hB; clear hB
    refine ⟨fun h => absurd h (by decide), ?_⟩
    refine td_p hf rfl rfl rfl rfl (fun w => y_not rfl rfl) fun a hf => ?_
    clear hS; refine td_end ?_
    refine x_then_n ?_
    rcases bcases (!(r1_1)) with h1_5 | h1_5
    ·
     replace hb0_1 := (ite_t h1_5).symm.trans hb0_1
     have h1_6 := bnot_t' h1_5
     refine cond_t hf rfl h1_5 (wp_seq (wp_region_lit (st_y hf rfl rfl rfl (y_assign rfl rfl) fun a hf => st_end (x_then_n (wp_ret (x_blk_ret (x_then_ret ?_)))))))
     refine x_then_ret (x_blk_ret (x_then_ret ?_))
     obtain rfl := Option.some.inj hb0_1
     obtain rfl := ho0_1 _ rfl
     replace hq := sum_r hq
     obtain rfl := Option.some.inj hq
     refine ret_tmp hf Tryz.results101 rfl ?_
     exact ⟨rfl, hm.below⟩
    ·
     replace hb0_1 := (ite_f h1_5).symm.trans hb0_1
     have h1_7 := bnot_f' h1_5
     refine cond_f hf rfl h1_5 (wp_skip (x_blk_n (x_then_n (wp_region_lit (st_y hf rfl rfl rfl (y_move rfl rfl) fun a hf => st_y hf rfl rfl rfl (y_add64 rfl rfl rfl (by omega) (by omega)) fun a hf => st_y hf rfl rfl rfl (y_assign rfl rfl) fun a hf => st_end ?_)))))
     refine x_then_n ?_
     obtain rfl := Option.some.inj hb0_1
     exact ⟨_, rfl, hf.sub ⟨rfl, rfl, rfl, trivial⟩, hm.pick [] (by decide) rfl⟩
   ·
    clear hf hm
    rintro i0_1 xs0_1 a w ⟨hf, hm⟩ hi0_1 hi0_2 rfl
    replace hq := sum_l hq
    refine wp_seq (wp_seq (wp_region_lit (st_y hf rfl rfl rfl (y_move rfl rfl) fun a hf => st_y hf rfl rfl rfl (y_move rfl rfl) fun a hf => st_y hf rfl rfl rfl (y_len_slice st_84.und rfl rfl) fun a hf => st_y hf rfl rfl rfl (y_lss rfl rfl rfl) fun a hf => st_end (x_then_n ?_))))
    refine cond_f hf rfl (decide_eq_false (by omega)) (wp_exit (x_then_exit (x_then_exit (x_blk_hit (x_then_n (wp_seq (wp_region_lit (st_y hf rfl rfl rfl (y_assign rfl rfl) fun a hf => ?_))))))))
    refine st_end (x_then_n (wp_ret ?_))
    obtain rfl := Option.some.inj hq
    refine ret_tmp hf Tryz.results101 rfl ?_
    exact ⟨rfl, hm.below⟩

theorem laws_eqBlock_ok (w0 : World) (a_ : Block_) (v1 : Value) (h1 : GT.rep (hp w0) [v1] a_.phis) (v2 : Value) (h2 : GT.rep (hp w0) [v2] a_.ins) (v3 : Value) (h3 : GT.rep (hp w0) [v3] a_.next_) (b_ : Block_) (v4 : Value) (h4 : GT.rep (hp w0) [v4] b_.phis) (v5 : Value) (h5 : GT.rep (hp w0) [v5] b_.ins) (v6 : Value) (h6 : GT.rep (hp w0) [v6] b_.next_) (r : Bool) (hq : laws_eqBlock a_ b_ = some r) :
    Con Tryz.prog 74 [(.agg #[v1, v2, (.int .i64 (a_.jump)), (.int .i64 (a_.on)), v3]), (.agg #[v4, v5, (.int .i64 (b_.jump)), (.int .i64 (b_.on)), v6])] w0 (fun v w' => v = (.bool (r)) ∧ Below w0.heap.size w0 w') := by
  unfold laws_eqBlock at hq
  refine con_body (l := [(0, (.agg #[v1, v2, (.int .i64 (a_.jump)), (.int .i64 (a_.on)), v3])), (1, (.agg #[v4, v5, (.int .i64 (b_.jump)), (.int .i64 (b_.on)), v6]))]) Tryz.func74 rfl Tryz.ntmps74 (Args.get ⟨rfl, rfl, trivial⟩) rfl ?_
  intro a hf
  have hm := Mem.start w0
  refine wp_seq (wp_region_lit (st_ef hf rfl rfl rfl (e_box hf hm rfl rfl rfl) ?_))
  clear hf a; rintro _ w0_1 a ⟨b0_1, rfl, hm⟩ hf
  refine st_ef hf rfl rfl rfl (e_box hf hm rfl rfl rfl) ?_
  clear hf a; rintro _ w0_2 a ⟨b0_2, rfl, hm⟩ hf
  refine st_y hf rfl rfl rfl (y_assign rfl rfl) fun a hf => st_end (x_then_n (wp_seq (wp_seq (wp_region_lit (st_y hf rfl rfl rfl (y_fieldAddr fo_86_0 rfl rfl) fun a hf => st_y hf rfl rfl rfl (y_load1 Tryz.isAgg83 rfl rfl (hm.blk_cell 1 rfl rfl)) fun a hf => st_y hf rfl rfl rfl (y_fieldAddr fo_86_0 rfl rfl) fun a hf => ?_)))))
  refine st_y hf rfl rfl rfl (y_load1 Tryz.isAgg83 rfl rfl (hm.blk_cell 0 rfl rfl)) fun a hf => ?_
  obtain ⟨r0_1, hx0_1, hq⟩ := bnd hq
  refine st_ef hf rfl rfl rfl (e_call hf rfl Tryz.call100 rfl (laws_eqPhiS_ok _ a_.phis v1 (hm.now h1) b_.phis v4 (hm.now h4) _ hx0_1)) ?_
  clear hf a; rintro v0_1 w0_3 a ho0_1 hf
  obtain ⟨rfl, hB⟩ := ho0_1
  replace hm := hm.below' hB; clear hB
  refine st_y hf rfl rfl rfl (y_not rfl rfl) fun a hf => st_end (x_then_n ?_)
  rcases bcases (!(r0_1)) with h0_1 | h0_1
  ·
   replace hq := (ite_t h0_1).symm.trans hq
   have h0_2 := bnot_t' h0_1
   refine cond_t hf rfl h0_1 (wp_seq (wp_region_lit (st_y hf rfl rfl rfl (y_assign rfl rfl) fun a hf => st_end (x_then_n (wp_ret (x_then_ret ?_))))))
   obtain rfl := Option.some.inj hq
   refine ret_tmp hf Tryz.results74 rfl ?_
   exact ⟨rfl, hm.below⟩
  ·
   replace hq := (ite_f h0_1).symm.trans hq
   have h0_3 := bnot_f' h0_1
   refine cond_f hf rfl h0_1 (wp_skip (x_then_n (wp_seq (wp_seq (wp_region_lit (st_y hf rfl rfl rfl (y_fieldAddr fo_86_1 rfl rfl) fun a hf => st_y hf rfl rfl rfl (y_load1 Tryz.isAgg84 rfl rfl (hm.blk_cell 1 rfl rfl)) fun a hf => st_y hf rfl rfl rfl (y_fieldAddr fo_86_1 rfl rfl) fun a hf => ?_))))))
   refine st_y hf rfl rfl rfl (y_load1 Tryz.isAgg84 rfl rfl (hm.blk_cell 0 rfl rfl)) fun a hf => ?_
   obtain ⟨r0_2, hx0_2, hq⟩ := bnd hq
   refine st_ef hf rfl rfl rfl (e_call hf rfl Tryz.call101 rfl (laws_eqInsS_ok _ a_.ins v2 (hm.now h2) b_.ins v5 (hm.now h5) _ hx0_2)) ?_
   clear hf a; rintro v0_2 w0_4 a ho0_2 hf
   obtain ⟨rfl, hB⟩ := ho0_2
   replace hm := hm.below' hB; clear hB
   refine st_y hf rfl rfl rfl (y_not rfl rfl) fun a hf => st_end (x_then_n ?_)
   rcases bcases (!(r0_2)) with h0_4 | h0_4
   ·
    replace hq := (ite_t h0_4).symm.trans hq
    have h0_5 := bnot_t' h0_4
    refine cond_t hf rfl h0_4 (wp_seq (wp_region_lit (st_y hf rfl rfl rfl (y_assign rfl rfl) fun a hf => st_end (x_then_n (wp_ret (x_then_ret ?_))))))
    obtain rfl := Option.some.inj hq
    refine ret_tmp hf Tryz.results74 rfl ?_
    exact ⟨rfl, hm.below⟩
   ·
    replace hq := (ite_f h0_4).symm.trans hq
    have h0_6 := bnot_f' h0_4
    refine cond_f hf rfl h0_4 (wp_skip (x_then_n (wp_seq (wp_seq (wp_region_lit (st_y hf rfl rfl rfl (y_fieldAddr fo_86_2 rfl rfl) fun a hf => st_y hf rfl rfl rfl (y_load1 Tryz.isAgg3 rfl rfl (hm.blk_cell 1 rfl rfl)) fun a hf => st_y hf rfl rfl rfl (y_fieldAddr fo_86_2 rfl rfl) fun a hf => ?_))))))
    refine st_y hf rfl rfl rfl (y_load1 Tryz.isAgg3 rfl rfl (hm.blk_cell 0 rfl rfl)) fun a hf => st_y hf rfl rfl rfl (y_neq rfl rfl rfl) fun a hf => st_end (x_then_n ?_)
    rcases bcases (decide (a_.jump ≠ b_.jump)) with h0_7 | h0_7
    ·
     replace hq := (ite_t h0_7).symm.trans hq
     have h0_8 := of_decide_eq_true h0_7
     refine cond_t hf rfl h0_7 (wp_seq (wp_region_lit (st_y hf rfl rfl rfl (y_assign rfl rfl) fun a hf => st_end (x_then_n (wp_ret (x_then_ret ?_))))))
     obtain rfl := Option.some.inj hq
     refine ret_tmp hf Tryz.results74 rfl ?_
     exact ⟨rfl, hm.below⟩
    ·
     replace hq := (ite_f h0_7).symm.trans hq
     have h0_9 := of_decide_eq_false h0_7
     refine cond_f hf rfl h0_7 (wp_skip (x_then_n (wp_seq (wp_seq (wp_region_lit (st_y hf rfl rfl rfl (y_fieldAddr fo_86_3 rfl rfl) fun a hf => st_y hf rfl rfl rfl (y_load1 Tryz.isAgg3 rfl rfl (hm.blk_cell 1 rfl rfl)) fun a hf => st_y hf rfl rfl rfl (y_fieldAddr fo_86_3 rfl rfl) fun a hf => ?_))))))
     refine st_y hf rfl rfl rfl (y_load1 Tryz.isAgg3 rfl rfl (hm.blk_cell 0 rfl rfl)) fun a hf => st_y hf rfl rfl rfl (y_neq rfl rfl rfl) fun a hf => st_end (x_then_n ?_)
     rcases bcases (decide (a_.on ≠ b_.on)) with h0_10 | h0_10
     ·
      replace hq := (ite_t h0_10).symm.trans hq
      have h0_11 := of_decide_eq_true h0_10
      refine cond_t hf rfl h0_10 (wp_seq (wp_region_lit (st_y hf rfl rfl rfl (y_assign rfl rfl) fun a hf => st_end (x_then_n (wp_ret (x_then_ret ?_))))))
      obtain rfl := Option.some.inj hq
      refine ret_tmp hf Tryz.results74 rfl ?_
      exact ⟨rfl, hm.below⟩
     ·
      replace hq := (ite_f h0_10).symm.trans hq
      have h0_12 := of_decide_eq_false h0_10
      refine cond_f hf rfl h0_10 (wp_skip (x_then_n (wp_seq (wp_seq (wp_region_lit (st_y hf rfl rfl rfl (y_fieldAddr fo_86_4 rfl rfl) fun a hf => st_y hf rfl rfl rfl (y_load1 Tryz.isAgg25 rfl rfl (hm.blk_cell 1 rfl rfl)) fun a hf => st_y hf rfl rfl rfl (y_fieldAddr fo_86_4 rfl rfl) fun a hf => ?_))))))
      refine st_y hf rfl rfl rfl (y_load1 Tryz.isAgg25 rfl rfl (hm.blk_cell 0 rfl rfl)) fun a hf => ?_
      obtain ⟨r0_3, hx0_3, hq⟩ := bnd hq
      refine st_ef hf rfl rfl rfl (e_call hf rfl Tryz.call12 rfl (laws_eqIntS_ok _ a_.next_ v3 (hm.now h3) b_.next_ v6 (hm.now h6) _ hx0_3)) ?_
      clear hf a; rintro v0_3 w0_5 a ho0_3 hf
      obtain ⟨rfl, hB⟩ := ho0_3
      replace hm := hm.below' hB; clear hB
      refine st_y hf rfl rfl rfl (y_not rfl rfl) fun a hf => st_end (x_then_n ?_)
      rcases bcases (!(r0_3)) with h0_13 | h0_13
      ·
       replace hq := (ite_t h0_13).symm.trans hq
       have h0_14 := bnot_t' h0_13
       refine cond_t hf rfl h0_13 (wp_seq (wp_region_lit (st_y hf rfl rfl rfl (y_assign rfl rfl) fun a hf => st_end (x_then_n (wp_ret (x_then_ret ?_))))))
       obtain rfl := Option.some.inj hq
       refine ret_tmp hf Tryz.results74 rfl ?_
       exact ⟨rfl, hm.below⟩
      ·
       replace hq := (ite_f h0_13).symm.trans hq
       have h0_15 := bnot_f' h0_13
       refine cond_f hf rfl h0_13 (wp_skip (x_then_n (wp_seq (wp_region_lit (st_y hf rfl rfl rfl (y_assign rfl rfl) fun a hf => st_end (x_then_n (wp_ret ?_)))))))
       obtain rfl := Option.some.inj hq
       refine ret_tmp hf Tryz.results74 rfl ?_
       exact ⟨rfl, hm.below⟩

theorem laws_eqBlockS_ok (w0 : World) (a_ : List Block_) (v1 : Value) (h1 : GT.rep (hp w0) [v1] a_) (b_ : List Block_) (v2 : Value) (h2 : GT.rep (hp w0) [v2] b_) (r : Bool) (hq : laws_eqBlockS a_ b_ = some r) :
    Con Tryz.prog 53 [v1, v2] w0 (fun v w' => v = (.bool (r)) ∧ Below w0.heap.size w0 w') := by
  unfold laws_eqBlockS at hq
  refine con_body (l := [(0, v1), (1, v2)]) Tryz.func53 rfl Tryz.ntmps53 (Args.get ⟨rfl, rfl, trivial⟩) rfl ?_
  intro a hf
  have hm := Mem.start w0
  refine wp_seq (wp_region_lit (st_y hf rfl rfl rfl (y_assign rfl rfl) fun a hf => st_end (x_then_n (wp_seq (wp_seq (wp_region_lit (st_y hf rfl rfl rfl (y_move rfl rfl) fun a hf => ?_)))))))
  obtain ⟨p0_1, c0_1, he, hl0_1⟩ := ro_slice h1
  subst he
  refine st_y hf rfl rfl rfl (y_len_slice st_67.und rfl rfl) fun a hf => st_y hf rfl rfl rfl (y_move rfl rfl) fun a hf => ?_
  obtain ⟨p0_2, c0_2, he, hl0_2⟩ := ro_slice h2
  subst he
  refine st_y hf rfl rfl rfl (y_len_slice st_67.und rfl rfl) fun a hf => st_y hf rfl rfl rfl (y_neq rfl rfl rfl) fun a hf => st_end (x_then_n ?_)
  rcases bcases (decide (((a_.length : Int)) ≠ ((b_.length : Int)))) with h0_1 | h0_1
  ·
   replace hq := (ite_t h0_1).symm.trans hq
   have h0_2 := of_decide_eq_true h0_1
   refine cond_t hf rfl h0_1 (wp_seq (wp_region_lit (st_y hf rfl rfl rfl (y_assign rfl rfl) fun a hf => st_end (x_then_n (wp_ret (x_then_ret ?_))))))
   obtain rfl := Option.some.inj hq
   refine ret_tmp hf Tryz.results53 rfl ?_
   exact ⟨rfl, hm.below⟩
  ·
   replace hq := (ite_f h0_1).symm.trans hq
   have h0_3 := of_decide_eq_false h0_1
   refine cond_f hf rfl h0_1 (wp_skip (x_then_n (wp_seq (wp_seq (wp_region_lit (st_y hf rfl rfl rfl (y_assign rfl rfl) fun a hf => st_end (x_then_n ?_)))))))
   refine wp_block ?_
   obtain ⟨r0_1, hl0_3, hq⟩ := bnd hq
   refine wp_forN _ (fun i1_1 xs1_1 a w => Fr 27 [(0, (.slice p0_1 a_.length c0_1)), (1, (.slice p0_2 b_.length c0_2)), (5, (.int .i64 (i1_1)))] a ∧ Mem w0 (hp w0) w []) (0) ((a_.length : Int)) hl0_3 ?_ ?_ ?_
   ·
    exact ⟨hf.sub ⟨rfl, rfl, rfl, trivial⟩, hm.pick [] (by decide) rfl⟩
   ·
    clear hf hm
    rintro i1_1 xs1_1 a w ⟨hf, hm⟩ hi1_1 hi1_2 q0_1 hb0_1 ho0_1
    refine wp_seq (wp_seq (wp_region_lit (st_y hf rfl rfl rfl (y_move rfl rfl) fun a hf => st_y hf rfl rfl rfl (y_move rfl rfl) fun a hf => st_y hf rfl rfl rfl (y_len_slice st_67.und rfl rfl) fun a hf => st_y hf rfl rfl rfl (y_lss rfl rfl rfl) fun a hf => st_end (x_then_n ?_))))
    refine cond_t hf rfl (decide_eq_true (by omega)) (wp_skip (x_then_n (wp_seq (wp_block (wp_seq (wp_tree (.p 0 (.p 1 (.p 2 (.p 4 (.p 5 (.p 6 (.q 3 (.e 7 (.e 8 (.p 9 .fin) .nil) .nil)))))))) [7] [0, 1, 2, 4, 5, 6, 9] (fun w => Mem w0 (hp w0) w []) (by kernel_rfl) (by kernel_rfl) (fun _ _ _ h => h.2) ?_))))))
    replace hm := hm.drew
    have hS : Mem w0 (hp w0) _ [] := hm.pick [] (by decide) rfl
    refine td_p hf rfl rfl rfl rfl (fun w => y_move rfl rfl) fun a hf => td_p hf rfl rfl rfl rfl (fun w => y_move rfl rfl) fun a hf => ?_
    obtain ⟨x1_1, hx1_1, hb0_1⟩ := bnd hb0_1
    obtain ⟨h1_1, hx1_2⟩ := getI_some.1 hx1_1
    obtain ⟨b1_1, o1_1, c1_1, he⟩ := idx_form' h1 hx1_2
    simp only [Value.slice.injEq, Option.some.injEq] at he; obtain ⟨rfl, _, rfl⟩ := he
    obtain ⟨_, _, hc1_1, hr1_1⟩ := ro_get' h1 hx1_2
    obtain ⟨_, _, rfl, h1_2, _, _, rfl, h1_3, _, _, rfl, rfl, _, _, rfl, rfl, h1_4⟩ := hr1_1
    obtain ⟨v1_1, rfl, -⟩ := id h1_2
    replace h1_2 : GT.rep (hp w0) [v1_1] x1_1.phis := h1_2
    obtain ⟨v1_2, rfl, -⟩ := id h1_3
    replace h1_3 : GT.rep (hp w0) [v1_2] x1_1.ins := h1_3
    obtain ⟨v1_3, rfl, -⟩ := id h1_4
    replace h1_4 : GT.rep (hp w0) [v1_3] x1_1.next_ := h1_4
    replace hc1_1 : CellsAt (hp w0) b1_1 (o1_1 + (i1_1).toNat * 5) [v1_1, v1_2, (.int .i64 (x1_1.jump)), (.int .i64 (x1_1.on)), v1_3] := hc1_1
    refine td_p hf rfl rfl rfl rfl (fun w => y_indexAddr st_67 rfl rfl rfl h1_1 (idx_lt hx1_2)) fun a hf => td_p hf rfl rfl rfl rfl (fun w => y_move rfl rfl) fun a hf => td_p hf rfl rfl rfl rfl (fun w => y_move rfl rfl) fun a hf => ?_
    obtain ⟨x1_2, hx1_3, hb0_1⟩ := bnd hb0_1
    obtain ⟨h1_5, hx1_4⟩ := getI_some.1 hx1_3
    obtain ⟨b1_2, o1_2, c1_2, he⟩ := idx_form' h2 hx1_4
    simp only [Value.slice.injEq, Option.some.injEq] at he; obtain ⟨rfl, _, rfl⟩ := he
    obtain ⟨_, _, hc1_2, hr1_2⟩ := ro_get' h2 hx1_4
    obtain ⟨_, _, rfl, h1_6, _, _, rfl, h1_7, _, _, rfl, rfl, _, _, rfl, rfl, h1_8⟩ := hr1_2
    obtain ⟨v1_4, rfl, -⟩ := id h1_6
    replace h1_6 : GT.rep (hp w0) [v1_4] x1_2.phis := h1_6
    obtain ⟨v1_5, rfl, -⟩ := id h1_7
    replace h1_7 : GT.rep (hp w0) [v1_5] x1_2.ins := h1_7
    obtain ⟨v1_6, rfl, -⟩ := id h1_8
    replace h1_8 : GT.rep (hp w0) [v1_6] x1_2.next_ := h1_8
    replace hc1_2 : CellsAt (hp w0) b1_2 (o1_2 + (i1_1).toNat * 5) [v1_4, v1_5, (.int .i64 (x1_2.jump)), (.int .i64 (x1_2.on)), v1_6] := hc1_2
    refine td_p hf rfl rfl rfl rfl (fun w => y_indexAddr st_67 rfl rfl rfl h1_5 (idx_lt hx1_4)) fun a hf => td_y hf rfl rfl rfl rfl hS (fun w hm => y_loadN (cs := [v1_1, v1_2, (.int .i64 (x1_1.jump)), (.int .i64 (x1_1.on)), v1_3]) Tryz.isAgg86 Tryz.sizeOf86 rfl rfl (hc1_1.mono hm.lez)) fun a hf => te_one (td_ef hf rfl rfl rfl rfl (ef_y hf (y_loadN (cs := [v1_4, v1_5, (.int .i64 (x1_2.jump)), (.int .i64 (x1_2.on)), v1_6]) Tryz.isAgg86 Tryz.sizeOf86 rfl rfl (hc1_2.mono hm.lez))) ?_)
    clear hf a; rintro _ _ a ⟨rfl, rfl⟩ hf
    refine ⟨fun _ => hS, ?_⟩
    refine te_one ?_
    obtain ⟨r1_1, hx1_5, hb0_1⟩ := bnd hb0_1
    refine td_ef hf rfl rfl rfl rfl (e_call hf rfl Tryz.call74 rfl (laws_eqBlock_ok _ x1_1 v1_1 (hm.now h1_2) v1_2 (hm.now h1_3) v1_3 (hm.now h1_4) x1_2 v1_4 (hm.now h1_6) v1_5 (hm.now h1_7) v1_6 (hm.now h1_8) _ hx1_5)) ?_
    clear hf a; rintro v1_7 w1_1 a ho1_1 hf
    obtain ⟨rfl, hB⟩ := ho1_1
    replace hm := hm.below' hB; clear hB
    refine ⟨fun h => absurd h (by decide), ?_⟩
    refine td_p hf rfl rfl rfl rfl (fun w => y_not rfl rfl) fun a hf => ?_
    clear hS; refine td_end ?_
    refine x_then_n ?_
    rcases bcases (!(r1_1)) with h1_9 | h1_9
    ·
     replace hb0_1 := (ite_t h1_9).symm.trans hb0_1
     have h1_10 := bnot_t' h1_9
     refine cond_t hf rfl h1_9 (wp_seq (wp_region_lit (st_y hf rfl rfl rfl (y_assign rfl rfl) fun a hf => st_end (x_then_n (wp_ret (x_blk_ret (x_then_ret ?_)))))))
     refine x_then_ret (x_blk_ret (x_then_ret ?_))
     obtain rfl := Option.some.inj hb0_1
     obtain rfl := ho0_1 _ rfl
     replace hq := sum_r hq
     obtain rfl := Option.some.inj hq
     refine ret_tmp hf Tryz.results53 rfl ?_
     exact ⟨rfl, hm.below⟩
    ·
     replace hb0_1 := (ite_f h1_9).symm.trans hb0_1
     have h1_11 := bnot_f' h1_9
     refine cond_f hf rfl h1_9 (wp_skip (x_blk_n (x_then_n (wp_region_lit (st_y hf rfl rfl rfl (y_move rfl rfl) fun a hf => st_y hf rfl rfl rfl (y_add64 rfl rfl rfl (by omega) (by omega)) fun a hf => st_y hf rfl rfl rfl (y_assign rfl rfl) fun a hf => st_end ?_)))))
     refine x_then_n ?_
     obtain rfl := Option.some.inj hb0_1
     exact ⟨_, rfl, hf.sub ⟨rfl, rfl, rfl, trivial⟩, hm.pick [] (by decide) rfl⟩
   ·
    clear hf hm
    rintro i0_1 xs0_1 a w ⟨hf, hm⟩ hi0_1 hi0_2 rfl
    replace hq := sum_l hq
    refine wp_seq (wp_seq (wp_region_lit (st_y hf rfl rfl rfl (y_move rfl rfl) fun a hf => st_y hf rfl rfl rfl (y_move rfl rfl) fun a hf => st_y hf rfl rfl rfl (y_len_slice st_67.und rfl rfl) fun a hf => st_y hf rfl rfl rfl (y_lss rfl rfl rfl) fun a hf => st_end (x_then_n ?_))))
    refine cond_f hf rfl (decide_eq_false (by omega)) (wp_exit (x_then_exit (x_then_exit (x_blk_hit (x_then_n (wp_seq (wp_region_lit (st_y hf rfl rfl rfl (y_assign rfl rfl) fun a hf => ?_))))))))
    refine st_end (x_then_n (wp_ret ?_))
    obtain rfl := Option.some.inj hq
    refine ret_tmp hf Tryz.results53 rfl ?_
    exact ⟨rfl, hm.below⟩

theorem laws_eqCode_ok (w0 : World) (a_ : Code_) (v1 : Value) (h1 : GT.rep (hp w0) [v1] a_.blocks) (b_ : Code_) (v2 : Value) (h2 : GT.rep (hp w0) [v2] b_.blocks) (r : Bool) (hq : laws_eqCode a_ b_ = some r) :
    Con Tryz.prog 38 [(.agg #[(.int .i64 (a_.params)), (.int .i64 (a_.regs)), v1]), (.agg #[(.int .i64 (b_.params)), (.int .i64 (b_.regs)), v2])] w0 (fun v w' => v = (.bool (r)) ∧ Below w0.heap.size w0 w') := by
  unfold laws_eqCode at hq
  refine con_body (l := [(0, (.agg #[(.int .i64 (a_.params)), (.int .i64 (a_.regs)), v1])), (1, (.agg #[(.int .i64 (b_.params)), (.int .i64 (b_.regs)), v2]))]) Tryz.func38 rfl Tryz.ntmps38 (Args.get ⟨rfl, rfl, trivial⟩) rfl ?_
  intro a hf
  have hm := Mem.start w0
  refine wp_seq (wp_region_lit (st_ef hf rfl rfl rfl (e_box hf hm rfl rfl rfl) ?_))
  clear hf a; rintro _ w0_1 a ⟨b0_1, rfl, hm⟩ hf
  refine st_ef hf rfl rfl rfl (e_box hf hm rfl rfl rfl) ?_
  clear hf a; rintro _ w0_2 a ⟨b0_2, rfl, hm⟩ hf
  refine st_y hf rfl rfl rfl (y_assign rfl rfl) fun a hf => st_end (x_then_n (wp_seq (wp_seq (wp_region_lit (st_y hf rfl rfl rfl (y_fieldAddr fo_69_0 rfl rfl) fun a hf => st_y hf rfl rfl rfl (y_load1 Tryz.isAgg3 rfl rfl (hm.blk_cell 1 rfl rfl)) fun a hf => st_y hf rfl rfl rfl (y_fieldAddr fo_69_0 rfl rfl) fun a hf => ?_)))))
  refine st_y hf rfl rfl rfl (y_load1 Tryz.isAgg3 rfl rfl (hm.blk_cell 0 rfl rfl)) fun a hf => st_y hf rfl rfl rfl (y_neq rfl rfl rfl) fun a hf => st_end (x_then_n ?_)
  rcases bcases (decide (a_.params ≠ b_.params)) with h0_1 | h0_1
  ·
   replace hq := (ite_t h0_1).symm.trans hq
   have h0_2 := of_decide_eq_true h0_1
   refine cond_t hf rfl h0_1 (wp_seq (wp_region_lit (st_y hf rfl rfl rfl (y_assign rfl rfl) fun a hf => st_end (x_then_n (wp_ret (x_then_ret ?_))))))
   obtain rfl := Option.some.inj hq
   refine ret_tmp hf Tryz.results38 rfl ?_
   exact ⟨rfl, hm.below⟩
  ·
   replace hq := (ite_f h0_1).symm.trans hq
   have h0_3 := of_decide_eq_false h0_1
   refine cond_f hf rfl h0_1 (wp_skip (x_then_n (wp_seq (wp_seq (wp_region_lit (st_y hf rfl rfl rfl (y_fieldAddr fo_69_1 rfl rfl) fun a hf => st_y hf rfl rfl rfl (y_load1 Tryz.isAgg3 rfl rfl (hm.blk_cell 1 rfl rfl)) fun a hf => st_y hf rfl rfl rfl (y_fieldAddr fo_69_1 rfl rfl) fun a hf => ?_))))))
   refine st_y hf rfl rfl rfl (y_load1 Tryz.isAgg3 rfl rfl (hm.blk_cell 0 rfl rfl)) fun a hf => st_y hf rfl rfl rfl (y_neq rfl rfl rfl) fun a hf => st_end (x_then_n ?_)
   rcases bcases (decide (a_.regs ≠ b_.regs)) with h0_4 | h0_4
   ·
    replace hq := (ite_t h0_4).symm.trans hq
    have h0_5 := of_decide_eq_true h0_4
    refine cond_t hf rfl h0_4 (wp_seq (wp_region_lit (st_y hf rfl rfl rfl (y_assign rfl rfl) fun a hf => st_end (x_then_n (wp_ret (x_then_ret ?_))))))
    obtain rfl := Option.some.inj hq
    refine ret_tmp hf Tryz.results38 rfl ?_
    exact ⟨rfl, hm.below⟩
   ·
    replace hq := (ite_f h0_4).symm.trans hq
    have h0_6 := of_decide_eq_false h0_4
    refine cond_f hf rfl h0_4 (wp_skip (x_then_n (wp_seq (wp_seq (wp_region_lit (st_y hf rfl rfl rfl (y_fieldAddr fo_69_2 rfl rfl) fun a hf => st_y hf rfl rfl rfl (y_load1 Tryz.isAgg67 rfl rfl (hm.blk_cell 1 rfl rfl)) fun a hf => st_y hf rfl rfl rfl (y_fieldAddr fo_69_2 rfl rfl) fun a hf => ?_))))))
    refine st_y hf rfl rfl rfl (y_load1 Tryz.isAgg67 rfl rfl (hm.blk_cell 0 rfl rfl)) fun a hf => ?_
    obtain ⟨r0_1, hx0_1, hq⟩ := bnd hq
    refine st_ef hf rfl rfl rfl (e_call hf rfl Tryz.call53 rfl (laws_eqBlockS_ok _ a_.blocks v1 (hm.now h1) b_.blocks v2 (hm.now h2) _ hx0_1)) ?_
    clear hf a; rintro v0_1 w0_3 a ho0_1 hf
    obtain ⟨rfl, hB⟩ := ho0_1
    replace hm := hm.below' hB; clear hB
    refine st_y hf rfl rfl rfl (y_not rfl rfl) fun a hf => st_end (x_then_n ?_)
    rcases bcases (!(r0_1)) with h0_7 | h0_7
    ·
     replace hq := (ite_t h0_7).symm.trans hq
     have h0_8 := bnot_t' h0_7
     refine cond_t hf rfl h0_7 (wp_seq (wp_region_lit (st_y hf rfl rfl rfl (y_assign rfl rfl) fun a hf => st_end (x_then_n (wp_ret (x_then_ret ?_))))))
     obtain rfl := Option.some.inj hq
     refine ret_tmp hf Tryz.results38 rfl ?_
     exact ⟨rfl, hm.below⟩
    ·
     replace hq := (ite_f h0_7).symm.trans hq
     have h0_9 := bnot_f' h0_7
     refine cond_f hf rfl h0_7 (wp_skip (x_then_n (wp_seq (wp_region_lit (st_y hf rfl rfl rfl (y_assign rfl rfl) fun a hf => st_end (x_then_n (wp_ret ?_)))))))
     obtain rfl := Option.some.inj hq
     refine ret_tmp hf Tryz.results38 rfl ?_
     exact ⟨rfl, hm.below⟩

theorem laws_eqCodeS_ok (w0 : World) (a_ : List Code_) (v1 : Value) (h1 : GT.rep (hp w0) [v1] a_) (b_ : List Code_) (v2 : Value) (h2 : GT.rep (hp w0) [v2] b_) (r : Bool) (hq : laws_eqCodeS a_ b_ = some r) :
    Con Tryz.prog 27 [v1, v2] w0 (fun v w' => v = (.bool (r)) ∧ Below w0.heap.size w0 w') := by
  unfold laws_eqCodeS at hq
  refine con_body (l := [(0, v1), (1, v2)]) Tryz.func27 rfl Tryz.ntmps27 (Args.get ⟨rfl, rfl, trivial⟩) rfl ?_
  intro a hf
  have hm := Mem.start w0
  refine wp_seq (wp_region_lit (st_y hf rfl rfl rfl (y_assign rfl rfl) fun a hf => st_end (x_then_n (wp_seq (wp_seq (wp_region_lit (st_y hf rfl rfl rfl (y_move rfl rfl) fun a hf => ?_)))))))
  obtain ⟨p0_1, c0_1, he, hl0_1⟩ := ro_slice h1
  subst he
  refine st_y hf rfl rfl rfl (y_len_slice st_28.und rfl rfl) fun a hf => st_y hf rfl rfl rfl (y_move rfl rfl) fun a hf => ?_
  obtain ⟨p0_2, c0_2, he, hl0_2⟩ := ro_slice h2
  subst he
  refine st_y hf rfl rfl rfl (y_len_slice st_28.und rfl rfl) fun a hf => st_y hf rfl rfl rfl (y_neq rfl rfl rfl) fun a hf => st_end (x_then_n ?_)
  rcases bcases (decide (((a_.length : Int)) ≠ ((b_.length : Int)))) with h0_1 | h0_1
  ·
   replace hq := (ite_t h0_1).symm.trans hq
   have h0_2 := of_decide_eq_true h0_1
   refine cond_t hf rfl h0_1 (wp_seq (wp_region_lit (st_y hf rfl rfl rfl (y_assign rfl rfl) fun a hf => st_end (x_then_n (wp_ret (x_then_ret ?_))))))
   obtain rfl := Option.some.inj hq
   refine ret_tmp hf Tryz.results27 rfl ?_
   exact ⟨rfl, hm.below⟩
  ·
   replace hq := (ite_f h0_1).symm.trans hq
   have h0_3 := of_decide_eq_false h0_1
   refine cond_f hf rfl h0_1 (wp_skip (x_then_n (wp_seq (wp_seq (wp_region_lit (st_y hf rfl rfl rfl (y_assign rfl rfl) fun a hf => st_end (x_then_n ?_)))))))
   refine wp_block ?_
   obtain ⟨r0_1, hl0_3, hq⟩ := bnd hq
   refine wp_forN _ (fun i1_1 xs1_1 a w => Fr 27 [(0, (.slice p0_1 a_.length c0_1)), (1, (.slice p0_2 b_.length c0_2)), (5, (.int .i64 (i1_1)))] a ∧ Mem w0 (hp w0) w []) (0) ((a_.length : Int)) hl0_3 ?_ ?_ ?_
   ·
    exact ⟨hf.sub ⟨rfl, rfl, rfl, trivial⟩, hm.pick [] (by decide) rfl⟩
   ·
    clear hf hm
    rintro i1_1 xs1_1 a w ⟨hf, hm⟩ hi1_1 hi1_2 q0_1 hb0_1 ho0_1
    refine wp_seq (wp_seq (wp_region_lit (st_y hf rfl rfl rfl (y_move rfl rfl) fun a hf => st_y hf rfl rfl rfl (y_move rfl rfl) fun a hf => st_y hf rfl rfl rfl (y_len_slice st_28.und rfl rfl) fun a hf => st_y hf rfl rfl rfl (y_lss rfl rfl rfl) fun a hf => st_end (x_then_n ?_))))
    refine cond_t hf rfl (decide_eq_true (by omega)) (wp_skip (x_then_n (wp_seq (wp_block (wp_seq (wp_tree (.p 0 (.p 1 (.p 2 (.p 4 (.p 5 (.p 6 (.q 3 (.e 7 (.e 8 (.p 9 .fin) .nil) .nil)))))))) [7] [0, 1, 2, 4, 5, 6, 9] (fun w => Mem w0 (hp w0) w []) (by kernel_rfl) (by kernel_rfl) (fun _ _ _ h => h.2) ?_))))))
    replace hm := hm.drew
    have hS : Mem w0 (hp w0) _ [] := hm.pick [] (by decide) rfl
    refine td_p hf rfl rfl rfl rfl (fun w => y_move rfl rfl) fun a hf => td_p hf rfl rfl rfl rfl (fun w => y_move rfl rfl) fun a hf => ?_
    obtain ⟨x1_1, hx1_1, hb0_1⟩ := bnd hb0_1
    obtain ⟨h1_1, hx1_2⟩ := getI_some.1 hx1_1
    obtain ⟨b1_1, o1_1, c1_1, he⟩ := idx_form' h1 hx1_2
    simp only [Value.slice.injEq, Option.some.injEq] at he; obtain ⟨rfl, _, rfl⟩ := he
    obtain ⟨_, _, hc1_1, hr1_1⟩ := ro_get' h1 hx1_2
    obtain ⟨_, _, rfl, rfl, _, _, rfl, rfl, h1_2⟩ := hr1_1
    obtain ⟨v1_1, rfl, -⟩ := id h1_2
    replace h1_2 : GT.rep (hp w0) [v1_1] x1_1.blocks := h1_2
    replace hc1_1 : CellsAt (hp w0) b1_1 (o1_1 + (i1_1).toNat * 3) [(.int .i64 (x1_1.params)), (.int .i64 (x1_1.regs)), v1_1] := hc1_1
    refine td_p hf rfl rfl rfl rfl (fun w => y_indexAddr st_28 rfl rfl rfl h1_1 (idx_lt hx1_2)) fun a hf => td_p hf rfl rfl rfl rfl (fun w => y_move rfl rfl) fun a hf => td_p hf rfl rfl rfl rfl (fun w => y_move rfl rfl) fun a hf => ?_
    obtain ⟨x1_2, hx1_3, hb0_1⟩ := bnd hb0_1
    obtain ⟨h1_3, hx1_4⟩ := getI_some.1 hx1_3
    obtain ⟨b1_2, o1_2, c1_2, he⟩ := idx_form' h2 hx1_4
    simp only [Value.slice.injEq, Option.some.injEq] at he; obtain ⟨rfl, _, rfl⟩ := he
    obtain ⟨_, _, hc1_2, hr1_2⟩ := ro_get' h2 hx1_4
    obtain ⟨_, _, rfl, rfl, _, _, rfl, rfl, h1_4⟩ := hr1_2
    obtain ⟨v1_2, rfl, -⟩ := id h1_4
    replace h1_4 : GT.rep (hp w0) [v1_2] x1_2.blocks := h1_4
    replace hc1_2 : CellsAt (hp w0) b1_2 (o1_2 + (i1_1).toNat * 3) [(.int .i64 (x1_2.params)), (.int .i64 (x1_2.regs)), v1_2] := hc1_2
    refine td_p hf rfl rfl rfl rfl (fun w => y_indexAddr st_28 rfl rfl rfl h1_3 (idx_lt hx1_4)) fun a hf => td_y hf rfl rfl rfl rfl hS (fun w hm => y_loadN (cs := [(.int .i64 (x1_1.params)), (.int .i64 (x1_1.regs)), v1_1]) Tryz.isAgg69 Tryz.sizeOf69 rfl rfl (hc1_1.mono hm.lez)) fun a hf => te_one (td_ef hf rfl rfl rfl rfl (ef_y hf (y_loadN (cs := [(.int .i64 (x1_2.params)), (.int .i64 (x1_2.regs)), v1_2]) Tryz.isAgg69 Tryz.sizeOf69 rfl rfl (hc1_2.mono hm.lez))) ?_)
    clear hf a; rintro _ _ a ⟨rfl, rfl⟩ hf
    refine ⟨fun _ => hS, ?_⟩
    refine te_one ?_
    obtain ⟨r1_1, hx1_5, hb0_1⟩ := bnd hb0_1
    refine td_ef hf rfl rfl rfl rfl (e_call hf rfl Tryz.call38 rfl (laws_eqCode_ok _ x1_1 v1_1 (hm.now h1_2) x1_2 v1_2 (hm.now h1_4) _ hx1_5)) ?_
    clear hf a; rintro v1_3 w1_1 a ho1_1 hf
    obtain ⟨rfl, hB⟩ := ho1_1
    replace hm := hm.below' hB; clear hB
    refine ⟨fun h => absurd h (by decide), ?_⟩
    refine td_p hf rfl rfl rfl rfl (fun w => y_not rfl rfl) fun a hf => ?_
    clear hS; refine td_end ?_
    refine x_then_n ?_
    rcases bcases (!(r1_1)) with h1_5 | h1_5
    ·
     replace hb0_1 := (ite_t h1_5).symm.trans hb0_1
     have h1_6 := bnot_t' h1_5
     refine cond_t hf rfl h1_5 (wp_seq (wp_region_lit (st_y hf rfl rfl rfl (y_assign rfl rfl) fun a hf => st_end (x_then_n (wp_ret (x_blk_ret (x_then_ret ?_)))))))
     refine x_then_ret (x_blk_ret (x_then_ret ?_))
     obtain rfl := Option.some.inj hb0_1
     obtain rfl := ho0_1 _ rfl
     replace hq := sum_r hq
     obtain rfl := Option.some.inj hq
     refine ret_tmp hf Tryz.results27 rfl ?_
     exact ⟨rfl, hm.below⟩
    ·
     replace hb0_1 := (ite_f h1_5).symm.trans hb0_1
     have h1_7 := bnot_f' h1_5
     refine cond_f hf rfl h1_5 (wp_skip (x_blk_n (x_then_n (wp_region_lit (st_y hf rfl rfl rfl (y_move rfl rfl) fun a hf => st_y hf rfl rfl rfl (y_add64 rfl rfl rfl (by omega) (by omega)) fun a hf => st_y hf rfl rfl rfl (y_assign rfl rfl) fun a hf => st_end ?_)))))
     refine x_then_n ?_
     obtain rfl := Option.some.inj hb0_1
     exact ⟨_, rfl, hf.sub ⟨rfl, rfl, rfl, trivial⟩, hm.pick [] (by decide) rfl⟩
   ·
    clear hf hm
    rintro i0_1 xs0_1 a w ⟨hf, hm⟩ hi0_1 hi0_2 rfl
    replace hq := sum_l hq
    refine wp_seq (wp_seq (wp_region_lit (st_y hf rfl rfl rfl (y_move rfl rfl) fun a hf => st_y hf rfl rfl rfl (y_move rfl rfl) fun a hf => st_y hf rfl rfl rfl (y_len_slice st_28.und rfl rfl) fun a hf => st_y hf rfl rfl rfl (y_lss rfl rfl rfl) fun a hf => st_end (x_then_n ?_))))
    refine cond_f hf rfl (decide_eq_false (by omega)) (wp_exit (x_then_exit (x_then_exit (x_blk_hit (x_then_n (wp_seq (wp_region_lit (st_y hf rfl rfl rfl (y_assign rfl rfl) fun a hf => ?_))))))))
    refine st_end (x_then_n (wp_ret ?_))
    obtain rfl := Option.some.inj hq
    refine ret_tmp hf Tryz.results27 rfl ?_
    exact ⟨rfl, hm.below⟩

theorem laws_eqUnit_ok (w0 : World) (a_ : Unit_) (v1 : Value) (h1 : GT.rep (hp w0) [v1] a_.codes) (b_ : Unit_) (v2 : Value) (h2 : GT.rep (hp w0) [v2] b_.codes) (r : Bool) (hq : laws_eqUnit a_ b_ = some r) :
    Con Tryz.prog 11 [(.agg #[v1]), (.agg #[v2])] w0 (fun v w' => v = (.bool (r)) ∧ Below w0.heap.size w0 w') := by
  unfold laws_eqUnit at hq
  refine con_body (l := [(0, (.agg #[v1])), (1, (.agg #[v2]))]) Tryz.func11 rfl Tryz.ntmps11 (Args.get ⟨rfl, rfl, trivial⟩) rfl ?_
  intro a hf
  have hm := Mem.start w0
  refine wp_seq (wp_region_lit (st_ef hf rfl rfl rfl (e_box hf hm rfl rfl rfl) ?_))
  clear hf a; rintro _ w0_1 a ⟨b0_1, rfl, hm⟩ hf
  refine st_ef hf rfl rfl rfl (e_box hf hm rfl rfl rfl) ?_
  clear hf a; rintro _ w0_2 a ⟨b0_2, rfl, hm⟩ hf
  refine st_y hf rfl rfl rfl (y_assign rfl rfl) fun a hf => st_end (x_then_n (wp_seq (wp_seq (wp_region_lit (st_y hf rfl rfl rfl (y_fieldAddr fo_30_0 rfl rfl) fun a hf => st_y hf rfl rfl rfl (y_load1 Tryz.isAgg28 rfl rfl (hm.blk_cell 1 rfl rfl)) fun a hf => st_y hf rfl rfl rfl (y_fieldAddr fo_30_0 rfl rfl) fun a hf => ?_)))))
  refine st_y hf rfl rfl rfl (y_load1 Tryz.isAgg28 rfl rfl (hm.blk_cell 0 rfl rfl)) fun a hf => ?_
  obtain ⟨r0_1, hx0_1, hq⟩ := bnd hq
  refine st_ef hf rfl rfl rfl (e_call hf rfl Tryz.call27 rfl (laws_eqCodeS_ok _ a_.codes v1 (hm.now h1) b_.codes v2 (hm.now h2) _ hx0_1)) ?_
  clear hf a; rintro v0_1 w0_3 a ho0_1 hf
  obtain ⟨rfl, hB⟩ := ho0_1
  replace hm := hm.below' hB; clear hB
  refine st_y hf rfl rfl rfl (y_not rfl rfl) fun a hf => st_end (x_then_n ?_)
  rcases bcases (!(r0_1)) with h0_1 | h0_1
  ·
   replace hq := (ite_t h0_1).symm.trans hq
   have h0_2 := bnot_t' h0_1
   refine cond_t hf rfl h0_1 (wp_seq (wp_region_lit (st_y hf rfl rfl rfl (y_assign rfl rfl) fun a hf => st_end (x_then_n (wp_ret (x_then_ret ?_))))))
   obtain rfl := Option.some.inj hq
   refine ret_tmp hf Tryz.results11 rfl ?_
   exact ⟨rfl, hm.below⟩
  ·
   replace hq := (ite_f h0_1).symm.trans hq
   have h0_3 := bnot_f' h0_1
   refine cond_f hf rfl h0_1 (wp_skip (x_then_n (wp_seq (wp_region_lit (st_y hf rfl rfl rfl (y_assign rfl rfl) fun a hf => st_end (x_then_n (wp_ret ?_)))))))
   obtain rfl := Option.some.inj hq
   refine ret_tmp hf Tryz.results11 rfl ?_
   exact ⟨rfl, hm.below⟩

theorem laws_FnExactSameRuns_ok (w0 : World) (aA : Unit_) (v1 : Value) (h1 : GT.rep (hp w0) [v1] aA.codes) (aB : Unit_) (v2 : Value) (h2 : GT.rep (hp w0) [v2] aB.codes) (aIn : List Int) (v3 : Value) (h3 : GT.rep (hp w0) [v3] aIn) (aSteps : Int) (r : Bool) (hq : laws_FnExactSameRuns aA aB aIn aSteps = some r) :
    Con Tryz.prog 3 [(.agg #[v1]), (.agg #[v2]), v3, (.int .i64 (aSteps))] w0 (fun v w' => v = (.bool (r)) ∧ Below w0.heap.size w0 w') := by
  unfold laws_FnExactSameRuns at hq
  refine con_body (l := [(0, (.agg #[v1])), (1, (.agg #[v2])), (2, v3), (3, (.int .i64 (aSteps)))]) Tryz.func3 rfl Tryz.ntmps3 (Args.get ⟨rfl, rfl, rfl, rfl, trivial⟩) rfl ?_
  intro a hf
  have hm := Mem.start w0
  refine wp_seq (wp_region_lit (st_ef hf rfl rfl rfl (e_box hf hm rfl rfl rfl) ?_))
  clear hf a; rintro _ w0_1 a ⟨b0_1, rfl, hm⟩ hf
  refine st_ef hf rfl rfl rfl (e_box hf hm rfl rfl rfl) ?_
  clear hf a; rintro _ w0_2 a ⟨b0_2, rfl, hm⟩ hf
  refine st_y hf rfl rfl rfl (y_assign rfl rfl) fun a hf => st_end (x_then_n (wp_seq (wp_seq (wp_region_lit (st_y hf rfl rfl rfl (y_move rfl rfl) fun a hf => ?_)))))
  obtain ⟨p0_1, c0_1, he, hl0_1⟩ := ro_slice h3
  subst he
  refine st_y hf rfl rfl rfl (y_len_slice st_25.und rfl rfl) fun a hf => st_y hf rfl rfl rfl (y_gtr rfl rfl rfl) fun a hf => st_end (x_then_n ?_)
  rcases bcases (decide (1048576 < ((aIn.length : Int)))) with h0_1 | h0_1
  ·
   replace hq := (ite_t h0_1).symm.trans hq
   have h0_2 := of_decide_eq_true h0_1
   refine cond_t hf rfl h0_1 (wp_seq (wp_region_lit (st_y hf rfl rfl rfl (y_assign rfl rfl) fun a hf => st_end (x_then_n (wp_ret (x_then_ret ?_))))))
   obtain rfl := Option.some.inj hq
   refine ret_tmp hf Tryz.results3 rfl ?_
   exact ⟨rfl, hm.below⟩
  ·
   replace hq := (ite_f h0_1).symm.trans hq
   have h0_3 := of_decide_eq_false h0_1
   refine cond_f hf rfl h0_1 (wp_skip (x_then_n (wp_seq (wp_region_lit (st_y hf rfl rfl rfl (y_assign rfl rfl) fun a hf => st_end (x_then_n (wp_seq ?_)))))))
   refine wp_region_lit (st_y hf rfl rfl rfl (y_loadN (cs := [v1]) Tryz.isAgg24 Tryz.sizeOf24 rfl rfl (hm.blk_at 1 rfl)) fun a hf => st_y hf rfl rfl rfl (y_move rfl rfl) fun a hf => ?_)
   obtain ⟨r0_1, hx0_1, hq⟩ := bnd hq
   refine st_ef hf rfl rfl rfl (e_call hf rfl Tryz.call6 rfl (laws_szUnit_ok _ aA v1 (hm.now h1) 1048576 _ hx0_1)) ?_
   clear hf a; rintro v0_1 w0_3 a ho0_1 hf
   obtain ⟨rfl, hB⟩ := ho0_1
   replace hm := hm.below' hB; clear hB
   refine st_y hf rfl rfl rfl (y_assign rfl rfl) fun a hf => st_end (x_then_n (wp_seq (wp_seq (wp_region_lit (st_y hf rfl rfl rfl (y_move rfl rfl) fun a hf => st_y hf rfl rfl rfl (y_lss rfl rfl rfl) fun a hf => st_end ?_)))))
   refine x_then_n ?_
   rcases bcases (decide (r0_1 < 0)) with h0_4 | h0_4
   ·
    replace hq := (ite_t h0_4).symm.trans hq
    have h0_5 := of_decide_eq_true h0_4
    refine cond_t hf rfl h0_4 (wp_seq (wp_region_lit (st_y hf rfl rfl rfl (y_assign rfl rfl) fun a hf => st_end (x_then_n (wp_ret (x_then_ret ?_))))))
    obtain rfl := Option.some.inj hq
    refine ret_tmp hf Tryz.results3 rfl ?_
    exact ⟨rfl, hm.below⟩
   ·
    replace hq := (ite_f h0_4).symm.trans hq
    have h0_6 := of_decide_eq_false h0_4
    refine cond_f hf rfl h0_4 (wp_skip (x_then_n (wp_seq (wp_region_lit (st_y hf rfl rfl rfl (y_loadN (cs := [v2]) Tryz.isAgg24 Tryz.sizeOf24 rfl rfl (hm.blk_at 0 rfl)) fun a hf => st_y hf rfl rfl rfl (y_move rfl rfl) fun a hf => ?_)))))
    obtain ⟨r0_2, hx0_2, hq⟩ := bnd hq
    refine st_ef hf rfl rfl rfl (e_call hf rfl Tryz.call6 rfl (laws_szUnit_ok _ aB v2 (hm.now h2) r0_1 _ hx0_2)) ?_
    clear hf a; rintro v0_2 w0_4 a ho0_2 hf
    obtain ⟨rfl, hB⟩ := ho0_2
    replace hm := hm.below' hB; clear hB
    refine st_y hf rfl rfl rfl (y_assign rfl rfl) fun a hf => st_end (x_then_n (wp_seq (wp_seq (wp_region_lit (st_y hf rfl rfl rfl (y_move rfl rfl) fun a hf => st_y hf rfl rfl rfl (y_lss rfl rfl rfl) fun a hf => st_end ?_)))))
    refine x_then_n ?_
    rcases bcases (decide (r0_2 < 0)) with h0_7 | h0_7
    ·
     replace hq := (ite_t h0_7).symm.trans hq
     have h0_8 := of_decide_eq_true h0_7
     refine cond_t hf rfl h0_7 (wp_seq (wp_region_lit (st_y hf rfl rfl rfl (y_assign rfl rfl) fun a hf => st_end (x_then_n (wp_ret (x_then_ret ?_))))))
     obtain rfl := Option.some.inj hq
     refine ret_tmp hf Tryz.results3 rfl ?_
     exact ⟨rfl, hm.below⟩
    ·
     replace hq := (ite_f h0_7).symm.trans hq
     have h0_9 := of_decide_eq_false h0_7
     refine cond_f hf rfl h0_7 (wp_skip (x_then_n (wp_seq (wp_tree (.p 4 (.p 6 (.q 0 (.q 2 (.e 1 (.e 3 (.e 5 (.e 7 (.p 8 .fin) .nil) .nil) .nil) .nil))))) [0, 1, 2] [4, 6, 8] (fun w => Mem w0 (hp w0) w [blk b0_2 [v2] 24, blk b0_1 [v1] 24]) (by kernel_rfl) (by kernel_rfl) (fun _ _ _ h => h.2) ?_))))
     replace hm := hm.drew
     have hS : Mem w0 (hp w0) _ [blk b0_2 [v2] 24, blk b0_1 [v1] 24] := hm.pick [0, 1] (by decide) rfl
     refine td_p hf rfl rfl rfl rfl (fun w => y_move rfl rfl) fun a hf => td_p hf rfl rfl rfl rfl (fun w => y_move rfl rfl) fun a hf => td_y hf rfl rfl rfl rfl hS (fun w hm => y_loadN (cs := [v1]) Tryz.isAgg24 Tryz.sizeOf24 rfl rfl (hm.blk_at 1 rfl)) fun a hf => td_y hf rfl rfl rfl rfl hS (fun w hm => y_loadN (cs := [v2]) Tryz.isAgg24 Tryz.sizeOf24 rfl rfl (hm.blk_at 0 rfl)) fun a hf => te_one ?_
     obtain ⟨r0_3, hx0_3, hq⟩ := bnd hq
     refine td_ef hf rfl rfl rfl rfl (e_call hf rfl Tryz.call8 rfl (laws_toUnit_ok _ aA v1 (hm.now h1) _ hx0_3)) ?_
     clear hf a; rintro v0_3 w0_5 a ho0_3 hf
     obtain ⟨v0_4, rfl, hB⟩ := ho0_3
     replace hm := hm.give hB; clear hB
     clear hS
     have hS : Mem w0 (hp w0) _ [blk b0_2 [v2] 24, blk b0_1 [v1] 24] := hm.pick [1, 2] (by decide) rfl
     refine ⟨fun _ => hS, ?_⟩
     refine te_one ?_
     obtain ⟨r0_4, hx0_4, hq⟩ := bnd hq
     refine td_ef hf rfl rfl rfl rfl (e_call hf rfl Tryz.call8 rfl (laws_toUnit_ok _ aB v2 (hm.now h2) _ hx0_4)) ?_
     clear hf a; rintro v0_5 w0_6 a ho0_4 hf
     obtain ⟨v0_6, rfl, hB⟩ := ho0_4
     replace hm := hm.give hB; clear hB
     refine ⟨fun h => absurd h (by decide), ?_⟩
     refine te_one ?_
     obtain ⟨r0_5, hx0_5, hq⟩ := bnd hq
     refine td_ef hf rfl rfl rfl rfl (e_call hf rfl Tryz.call9 rfl (laws_toIntS_ok _ aIn (.slice p0_1 aIn.length c0_1) (hm.now h3) _ hx0_5)) ?_
     clear hf a; rintro v0_7 w0_7 a ho0_5 hf
     obtain ⟨_, rfl, hB⟩ := ho0_5
     replace hm := hm.give hB; clear hB
     refine ⟨fun h => absurd h (by decide), ?_⟩
     refine te_one ?_
     obtain ⟨r0_6, hx0_6, hq⟩ := bnd hq
     refine td_ef hf rfl rfl rfl rfl (e_call hf rfl Tryz.call7 rfl (spec_SameRuns_ok _ r0_3 v0_4 (hm.ow_rep 2 rfl) r0_4 v0_6 (hm.ow_rep 1 rfl) r0_5 v0_7 (hm.ow_rep 0 rfl) aSteps _ hx0_6)) ?_
     clear hf a; rintro v0_9 w0_8 a ho0_6 hf
     obtain ⟨rfl, hB⟩ := ho0_6
     replace hm := hm.below' hB; clear hB
     refine ⟨fun h => absurd h (by decide), ?_⟩
     refine td_p hf rfl rfl rfl rfl (fun w => y_assign rfl rfl) fun a hf => ?_
     clear hS; refine td_end ?_
     refine x_then_n (wp_seq (wp_region_lit (st_y hf rfl rfl rfl (y_loadN (cs := [v1]) Tryz.isAgg24 Tryz.sizeOf24 rfl rfl (hm.blk_at 4 rfl)) fun a hf => ?_)))
     obtain ⟨r0_7, hx0_7, hq⟩ := bnd hq
     refine st_ef hf rfl rfl rfl (e_call hf rfl Tryz.call8 rfl (laws_toUnit_ok _ aA v1 (hm.now h1) _ hx0_7)) ?_
     clear hf a; rintro v0_10 w0_9 a ho0_7 hf
     obtain ⟨v0_11, rfl, hB⟩ := ho0_7
     replace hm := hm.give hB; clear hB
     refine st_ef hf rfl rfl rfl (e_alloc hm Tryz.zeroValue30 rfl rfl) ?_
     clear hf a; rintro _ w0_10 a ⟨b0_3, rfl, hm⟩ hf
     refine st_ef0 hf rfl rfl (e_storeN 0 hf hm rfl Tryz.sizeOf30 rfl rfl rfl (one_cons (rep_one (hm.ow_rep 1 rfl)) one_nil) rfl rfl) ?_
     clear hf a; rintro _ w0_11 a hm hf
     refine st_end (x_then_n (wp_seq (wp_region_lit (st_y hf rfl rfl rfl (y_loadN (cs := [v2]) Tryz.isAgg24 Tryz.sizeOf24 rfl rfl (hm.blk_at 5 rfl)) fun a hf => ?_))))
     obtain ⟨r0_8, hx0_8, hq⟩ := bnd hq
     refine st_ef hf rfl rfl rfl (e_call hf rfl Tryz.call8 rfl (laws_toUnit_ok _ aB v2 (hm.now h2) _ hx0_8)) ?_
     clear hf a; rintro v0_12 w0_12 a ho0_8 hf
     obtain ⟨v0_13, rfl, hB⟩ := ho0_8
     replace hm := hm.give hB; clear hB
     refine st_ef hf rfl rfl rfl (e_alloc hm Tryz.zeroValue30 rfl rfl) ?_
     clear hf a; rintro _ w0_13 a ⟨b0_4, rfl, hm⟩ hf
     refine st_ef0 hf rfl rfl (e_storeN 0 hf hm rfl Tryz.sizeOf30 rfl rfl rfl (one_cons (rep_one (hm.ow_rep 1 rfl)) one_nil) rfl rfl) ?_
     clear hf a; rintro _ w0_14 a hm hf
     refine st_end (x_then_n (wp_seq (wp_region_lit (st_y hf rfl rfl rfl (y_move rfl rfl) fun a hf => ?_))))
     obtain ⟨r0_9, hx0_9, hq⟩ := bnd hq
     refine st_ef hf rfl rfl rfl (e_call hf rfl Tryz.call9 rfl (laws_toIntS_ok _ aIn (.slice p0_1 aIn.length c0_1) (hm.now h3) _ hx0_9)) ?_
     clear hf a; rintro v0_14 w0_15 a ho0_9 hf
     obtain ⟨_, rfl, hB⟩ := ho0_9
     replace hm := hm.give hB; clear hB
     refine st_y hf rfl rfl rfl (y_assign rfl rfl) fun a hf => st_end (x_then_n (wp_seq (wp_region_lit (st_y hf rfl rfl rfl (y_loadN (cs := [v0_11]) Tryz.isAgg30 Tryz.sizeOf30 rfl rfl (hm.blk_at 3 rfl)) fun a hf => st_y hf rfl rfl rfl (y_loadN (cs := [v0_13]) Tryz.isAgg30 Tryz.sizeOf30 rfl rfl (hm.blk_at 1 rfl)) fun a hf => st_y hf rfl rfl rfl (y_move rfl rfl) fun a hf => st_y hf rfl rfl rfl (y_move rfl rfl) fun a hf => ?_))))
     obtain ⟨r0_10, hx0_10, hq⟩ := bnd hq
     refine st_ef hf rfl rfl rfl (e_call hf rfl Tryz.call10 rfl (impl_SameRuns_ok _ r0_7 v0_11 (hm.ow_rep 4 rfl) r0_8 v0_13 (hm.ow_rep 2 rfl) r0_9 v0_14 (hm.ow_rep 0 rfl) aSteps _ hx0_10)) ?_
     clear hf a; rintro v0_16 w0_16 a ho0_10 hf
     obtain ⟨rfl, hB⟩ := ho0_10
     replace hm := hm.below' hB; clear hB
     refine st_y hf rfl rfl rfl (y_assign rfl rfl) fun a hf => st_end (x_then_n (wp_seq (wp_seq (wp_region_lit (st_y hf rfl rfl rfl (y_move rfl rfl) fun a hf => st_y hf rfl rfl rfl (y_move rfl rfl) fun a hf => st_y hf rfl rfl rfl (y_neqb Tryz.underlying4 rfl rfl rfl) fun a hf => ?_)))))
     refine st_end (x_then_n ?_)
     rcases bcases (decide (r0_10 ≠ r0_6)) with h0_10 | h0_10
     ·
      replace hq := (ite_t h0_10).symm.trans hq
      have h0_11 := of_decide_eq_true h0_10
      refine cond_t hf rfl h0_10 (wp_seq (wp_region_lit (st_y hf rfl rfl rfl (y_assign rfl rfl) fun a hf => st_end (x_then_n (wp_ret (x_then_ret ?_))))))
      obtain rfl := Option.some.inj hq
      refine ret_tmp hf Tryz.results3 rfl ?_
      exact ⟨rfl, hm.below⟩
     ·
      replace hq := (ite_f h0_10).symm.trans hq
      have h0_12 := of_decide_eq_false h0_10
      refine cond_f hf rfl h0_10 (wp_skip (x_then_n (wp_seq (wp_seq (wp_tree (.q 0 (.e 1 (.e 2 (.e 3 (.p 4 .fin) .nil) .nil) .nil)) [1, 2] [4] (fun w => Mem w0 (hp w0) w [ow [v0_14] r0_9, blk b0_4 [v0_13] 30, ow [v0_13] r0_8.codes, blk b0_3 [v0_11] 30, ow [v0_11] r0_7.codes, ow [v0_7] r0_5, ow [v0_6] r0_4.codes, ow [v0_4] r0_3.codes, blk b0_2 [v2] 24, blk b0_1 [v1] 24]) (by kernel_rfl) (by kernel_rfl) (fun _ _ _ h => h.2) ?_)))))
      replace hm := hm.drew
      have hS : Mem w0 (hp w0) _ [ow [v0_14] r0_9, blk b0_4 [v0_13] 30, ow [v0_13] r0_8.codes, blk b0_3 [v0_11] 30, ow [v0_11] r0_7.codes, ow [v0_7] r0_5, ow [v0_6] r0_4.codes, ow [v0_4] r0_3.codes, blk b0_2 [v2] 24, blk b0_1 [v1] 24] := hm.pick [0, 1, 2, 3, 4, 5, 6, 7, 8, 9] (by decide) rfl
      refine td_y hf rfl rfl rfl rfl hS (fun w hm => y_loadN (cs := [v0_11]) Tryz.isAgg30 Tryz.sizeOf30 rfl rfl (hm.blk_at 3 rfl)) fun a hf => te_one (td_ef hf rfl rfl rfl rfl (ef_y hf (y_loadN (cs := [v1]) Tryz.isAgg24 Tryz.sizeOf24 rfl rfl (hm.blk_at 9 rfl))) ?_)
      clear hf a; rintro _ _ a ⟨rfl, rfl⟩ hf
      refine ⟨fun _ => hS, ?_⟩
      refine te_one ?_
      obtain ⟨r0_11, hx0_11, hq⟩ := bnd hq
      refine td_ef hf rfl rfl rfl rfl (e_call hf rfl Tryz.call8 rfl (laws_toUnit_ok _ aA v1 (hm.now h1) _ hx0_11)) ?_
      clear hf a; rintro v0_17 w0_17 a ho0_11 hf
      obtain ⟨v0_18, rfl, hB⟩ := ho0_11
      replace hm := hm.give hB; clear hB
      clear hS
      have hS : Mem w0 (hp w0) _ [ow [v0_14] r0_9, blk b0_4 [v0_13] 30, ow [v0_13] r0_8.codes, blk b0_3 [v0_11] 30, ow [v0_11] r0_7.codes, ow [v0_7] r0_5, ow [v0_6] r0_4.codes, ow [v0_4] r0_3.codes, blk b0_2 [v2] 24, blk b0_1 [v1] 24] := hm.pick [1, 2, 3, 4, 5, 6, 7, 8, 9, 10] (by decide) rfl
      refine ⟨fun _ => hS, ?_⟩
      refine te_one ?_
      obtain ⟨r0_12, hx0_12, hq⟩ := bnd hq
      refine td_ef hf rfl rfl rfl rfl (e_call hf rfl Tryz.call11 rfl (laws_eqUnit_ok _ r0_7 v0_11 (hm.ow_rep 5 rfl) r0_11 v0_18 (hm.ow_rep 0 rfl) _ hx0_12)) ?_
      clear hf a; rintro v0_19 w0_18 a ho0_12 hf
      obtain ⟨rfl, hB⟩ := ho0_12
      replace hm := hm.below' hB; clear hB
      refine ⟨fun h => absurd h (by decide), ?_⟩
      refine td_p hf rfl rfl rfl rfl (fun w => y_not rfl rfl) fun a hf => ?_
      clear hS; refine td_end ?_
      refine x_then_n ?_
      rcases bcases (!(r0_12)) with h0_13 | h0_13
      ·
       replace hq := (ite_t h0_13).symm.trans hq
       have h0_14 := bnot_t' h0_13
       refine cond_t hf rfl h0_13 (wp_seq (wp_region_lit (st_y hf rfl rfl rfl (y_assign rfl rfl) fun a hf => st_end (x_then_n (wp_ret (x_then_ret ?_))))))
       obtain rfl := Option.some.inj hq
       refine ret_tmp hf Tryz.results3 rfl ?_
       exact ⟨rfl, hm.below⟩
      ·
       replace hq := (ite_f h0_13).symm.trans hq
       have h0_15 := bnot_f' h0_13
       refine cond_f hf rfl h0_13 (wp_skip (x_then_n (wp_seq (wp_seq (wp_tree (.q 0 (.e 1 (.e 2 (.e 3 (.p 4 .fin) .nil) .nil) .nil)) [1, 2] [4] (fun w => Mem w0 (hp w0) w [ow [v0_18] r0_11.codes, ow [v0_14] r0_9, blk b0_4 [v0_13] 30, ow [v0_13] r0_8.codes, blk b0_3 [v0_11] 30, ow [v0_11] r0_7.codes, ow [v0_7] r0_5, ow [v0_6] r0_4.codes, ow [v0_4] r0_3.codes, blk b0_2 [v2] 24, blk b0_1 [v1] 24]) (by kernel_rfl) (by kernel_rfl) (fun _ _ _ h => h.2) ?_)))))
       replace hm := hm.drew
       have hS : Mem w0 (hp w0) _ [ow [v0_18] r0_11.codes, ow [v0_14] r0_9, blk b0_4 [v0_13] 30, ow [v0_13] r0_8.codes, blk b0_3 [v0_11] 30, ow [v0_11] r0_7.codes, ow [v0_7] r0_5, ow [v0_6] r0_4.codes, ow [v0_4] r0_3.codes, blk b0_2 [v2] 24, blk b0_1 [v1] 24] := hm.pick [0, 1, 2, 3, 4, 5, 6, 7, 8, 9, 10] (by decide) rfl
       refine td_y hf rfl rfl rfl rfl hS (fun w hm => y_loadN (cs := [v0_13]) Tryz.isAgg30 Tryz.sizeOf30 rfl rfl (hm.blk_at 2 rfl)) fun a hf => te_one (td_ef hf rfl rfl rfl rfl (ef_y hf (y_loadN (cs := [v2]) Tryz.isAgg24 Tryz.sizeOf24 rfl rfl (hm.blk_at 9 rfl))) ?_)
       clear hf a; rintro _ _ a ⟨rfl, rfl⟩ hf
       refine ⟨fun _ => hS, ?_⟩
       refine te_one ?_
       obtain ⟨r0_13, hx0_13, hq⟩ := bnd hq
       refine td_ef hf rfl rfl rfl rfl (e_call hf rfl Tryz.call8 rfl (laws_toUnit_ok _ aB v2 (hm.now h2) _ hx0_13)) ?_
       clear hf a; rintro v0_20 w0_19 a ho0_13 hf
       obtain ⟨v0_21, rfl, hB⟩ := ho0_13
       replace hm := hm.give hB; clear hB
       clear hS
       have hS : Mem w0 (hp w0) _ [ow [v0_18] r0_11.codes, ow [v0_14] r0_9, blk b0_4 [v0_13] 30, ow [v0_13] r0_8.codes, blk b0_3 [v0_11] 30, ow [v0_11] r0_7.codes, ow [v0_7] r0_5, ow [v0_6] r0_4.codes, ow [v0_4] r0_3.codes, blk b0_2 [v2] 24, blk b0_1 [v1] 24] := hm.pick [1, 2, 3, 4, 5, 6, 7, 8, 9, 10, 11] (by decide) rfl
       refine ⟨fun _ => hS, ?_⟩
       refine te_one ?_
       obtain ⟨r0_14, hx0_14, hq⟩ := bnd hq
       refine td_ef hf rfl rfl rfl rfl (e_call hf rfl Tryz.call11 rfl (laws_eqUnit_ok _ r0_8 v0_13 (hm.ow_rep 4 rfl) r0_13 v0_21 (hm.ow_rep 0 rfl) _ hx0_14)) ?_
       clear hf a; rintro v0_22 w0_20 a ho0_14 hf
       obtain ⟨rfl, hB⟩ := ho0_14
       replace hm := hm.below' hB; clear hB
       refine ⟨fun h => absurd h (by decide), ?_⟩
       refine td_p hf rfl rfl rfl rfl (fun w => y_not rfl rfl) fun a hf => ?_
       clear hS; refine td_end ?_
       refine x_then_n ?_
       rcases bcases (!(r0_14)) with h0_16 | h0_16
       ·
        replace hq := (ite_t h0_16).symm.trans hq
        have h0_17 := bnot_t' h0_16
        refine cond_t hf rfl h0_16 (wp_seq (wp_region_lit (st_y hf rfl rfl rfl (y_assign rfl rfl) fun a hf => st_end (x_then_n (wp_ret (x_then_ret ?_))))))
        obtain rfl := Option.some.inj hq
        refine ret_tmp hf Tryz.results3 rfl ?_
        exact ⟨rfl, hm.below⟩
       ·
        replace hq := (ite_f h0_16).symm.trans hq
        have h0_18 := bnot_f' h0_16
        refine cond_f hf rfl h0_16 (wp_skip (x_then_n (wp_seq (wp_seq (wp_region_lit (st_y hf rfl rfl rfl (y_move rfl rfl) fun a hf => st_y hf rfl rfl rfl (y_move rfl rfl) fun a hf => ?_))))))
        obtain ⟨r0_15, hx0_15, hq⟩ := bnd hq
        refine st_ef hf rfl rfl rfl (e_call hf rfl Tryz.call9 rfl (laws_toIntS_ok _ aIn (.slice p0_1 aIn.length c0_1) (hm.now h3) _ hx0_15)) ?_
        clear hf a; rintro v0_23 w0_21 a ho0_15 hf
        obtain ⟨_, rfl, hB⟩ := ho0_15
        replace hm := hm.give hB; clear hB
        obtain ⟨r0_16, hx0_16, hq⟩ := bnd hq
        refine st_ef hf rfl rfl rfl (e_call hf rfl Tryz.call12 rfl (laws_eqIntS_ok _ r0_9 v0_14 (hm.ow_rep 3 rfl) r0_15 v0_23 (hm.ow_rep 0 rfl) _ hx0_16)) ?_
        clear hf a; rintro v0_25 w0_22 a ho0_16 hf
        obtain ⟨rfl, hB⟩ := ho0_16
        replace hm := hm.below' hB; clear hB
        refine st_y hf rfl rfl rfl (y_not rfl rfl) fun a hf => st_end (x_then_n ?_)
        rcases bcases (!(r0_16)) with h0_19 | h0_19
        ·
         replace hq := (ite_t h0_19).symm.trans hq
         have h0_20 := bnot_t' h0_19
         refine cond_t hf rfl h0_19 (wp_seq (wp_region_lit (st_y hf rfl rfl rfl (y_assign rfl rfl) fun a hf => st_end (x_then_n (wp_ret (x_then_ret ?_))))))
         obtain rfl := Option.some.inj hq
         refine ret_tmp hf Tryz.results3 rfl ?_
         exact ⟨rfl, hm.below⟩
        ·
         replace hq := (ite_f h0_19).symm.trans hq
         have h0_21 := bnot_f' h0_19
         refine cond_f hf rfl h0_19 (wp_skip (x_then_n (wp_seq (wp_region_lit (st_y hf rfl rfl rfl (y_assign rfl rfl) fun a hf => st_end (x_then_n (wp_ret ?_)))))))
         obtain rfl := Option.some.inj hq
         refine ret_tmp hf Tryz.results3 rfl ?_
         exact ⟨rfl, hm.below⟩

end Go.Proofs.YtjbcoilagfdidaaGreat
