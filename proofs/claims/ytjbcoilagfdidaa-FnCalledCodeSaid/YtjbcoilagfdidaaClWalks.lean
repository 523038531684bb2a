/- A part of the proof of FnCalledCodeSaid. -/
import Derived.Test.YtjbcoilagfdidaaClWalksB
namespace Go.Proofs.Ytjbcoilagfdidaa
open Go Go.Wk Go.RowKit
set_option maxRecDepth 4000
set_option maxHeartbeats 4000000

open Try
theorem run_endOf (e : Int) (w : World) : (Instr.typeAssert (.iface 153 (.int .i64 e)) 20 153 true).run Try.prog w = .ok (.tuple #[.int .i64 e, .bool true]) w := by kernel_rfl

theorem catch_panicking (p : Addr) (x e : Int) (older : List PanicEntry) (w : World) (hc : w.cell? p = some (.int .i64 x)) (hz : w.frozen? p = false) :
    CallsD Try.prog 105 #[.pointer (some p)] (.panicking ({ v := .iface 153 (.int .i64 e), recovered := false } :: older)) w fun r u' w' =>
      r = .returned (.tuple #[]) ∧ u' = .panicking ({ v := .iface 153 (.int .i64 e), recovered := true } :: older) ∧ w' = w.setCell p (.int .i64 e) := by
  refine callsD_of_wpS func105 rfl fun c₀ cs hu => ?_
  apply wpS_seq
  apply wpS_region
  simp [wpOpsS, go_sem, recoverD, hu, ntmps105, Exit.thenS]
  apply wpS_seq
  apply wpS_region
  simp [wpOpsS, go_sem, recoverD, hu, ntmps105, Exit.thenS]
  refine wpS_cond (t := true) (by simp [Act.eval, Array.replicate]) ?_
  simp only [if_true]
  apply wpS_seq
  apply wpS_region
  simp [wpOpsS, go_sem, Exit.thenS, run_endOf]
  apply wpS_seq
  apply wpS_seq
  apply wpS_region
  simp [wpOpsS, go_sem, Exit.thenS]
  refine wpS_cond (t := false) (by simp [Act.eval, Array.replicate]) ?_
  simp only [Bool.false_eq_true, if_false]
  refine wpS_of_wp (wp_skip ?_)
  simp only [Exit.thenS]
  apply wpS_region
  simp [wpOpsS, go_sem, hc, hz, bodyPostS, results, results105]

theorem catch_idle (p : Addr) (w : World) :
    CallsD Try.prog 105 #[.pointer (some p)] .returning w fun e u' w' => e = .returned (.tuple #[]) ∧ u' = .returning ∧ w' = w := by
  refine callsD_of_wpS func105 rfl fun c₀ cs hu => ?_
  apply wpS_seq
  apply wpS_region
  simp [wpOpsS, go_sem, recoverD, hu, ntmps105, Exit.thenS]
  apply wpS_seq
  apply wpS_region
  simp [wpOpsS, go_sem, recoverD, hu, ntmps105, Exit.thenS]
  refine wpS_cond (t := false) (by simp [Act.eval, Array.replicate]) ?_
  simp only [Bool.false_eq_true, if_false]
  refine wpS_of_wp (wp_skip ?_)
  cases c₀
  simp_all [bodyPostS, results, results105]

theorem caught_ok (w0 : World) (hz : Heap) (L : List Ch) (fid : Nat) (cs : List Value) (PR : List Ch → Prop) (PX : Int → List Ch → Prop)
    (hm0 : Mem w0 hz w0 L) (hcall : ∀ us w, (callFunc fid us).run Try.prog w = .ok (.enter fid us) w)
    (hrun : ∀ w1 hz1, Heap.le hz hz1 → Mem w1 hz1 w1 L → ConX Try.prog fid cs w1 (fun v w' => ∃ M, PR M ∧ Mem w1 hz1 w' M) (fun c w' => ∃ e M, PX e M ∧ c = pch 153 e ∧ Mem w1 hz1 w' M)) :
    Con Try.prog 82 [.func (.func fid) #[] cs.toArray] w0 (fun v w' => (∃ M, PR M ∧ v = .int .i64 0 ∧ Mem w0 hz w' M) ∨ (∃ e M, PX e M ∧ v = .int .i64 e ∧ Mem w0 hz w' M)) := by
  have hmf : ∀ (fn : Fn) (first cap : Array Value) (w : World), (Instr.makeFunc fn first cap).run Try.prog w = .ok (.func fn first cap) w := fun _ _ _ _ => rfl
  unfold Con
  go_enter_defers func82, ntmps82
  go_wp2
  have hm := hm0.alloc [.int .i64 0] 3
  obtain ⟨hz', hle, hm1, hk⟩ := hm.lent1
  refine Calls.mono (hrun _ hz' hle hm1) ?_
  intro e w' he
  cases e with
  | returned v =>
    obtain ⟨M, hP, hM⟩ := he
    have hm2 := hk _ _ hM
    have hkk : (M ++ [blk w0.heap.size [.int .i64 0] 3])[M.length]? = some (blk w0.heap.size [.int .i64 0] 3) := by simp
    have hb := (hm2.blk_cells M.length hkk).1
    have hc : w'.cell? ⟨w0.heap.size, 0, none⟩ = some (.int .i64 0) := by simp [World.cell?, hb]
    have hf : w'.frozen? ⟨w0.heap.size, 0, none⟩ = false := by simp [World.frozen?, hb]
    go_wp2
    have hc2 : (w'.setCell ⟨w0.heap.size, 0, none⟩ (.int .i64 0)).cell? ⟨w0.heap.size, 0, none⟩ = some (.int .i64 0) := World.cell?_setCell_same _ _ _ hc
    have hm3 : Mem w0 hz (w'.setCell ⟨w0.heap.size, 0, none⟩ (.int .i64 0)) M := by
      have h3 := hm2.blk_set (i := 0) (v := .int .i64 0) M.length hkk
      refine h3.pick (List.range M.length) List.nodup_range ?_
      apply List.ext_getElem?
      intro i
      by_cases hi : i < M.length
      · rw [List.getElem?_map, List.getElem?_range hi, List.getElem?_map, Option.map_some, List.getElem?_set_ne (by omega), List.getElem?_append_left hi, List.getElem?_eq_getElem hi]; rfl
      · simp [List.getElem?_map, List.getElem?_eq_none (show M.length ≤ i by omega), List.getElem?_eq_none (show (List.range M.length).length ≤ i by simp; omega)]
    refine leaves_cons (f := 105) (args := #[.pointer (some ⟨w0.heap.size, 0, none⟩)]) (by simp) (by simp [go_sem]) ?_
    refine (catch_idle ⟨w0.heap.size, 0, none⟩ _).mono ?_
    rintro e' u' w'' ⟨rfl, rfl, rfl⟩
    simp [Leaves, settle, results, results82, go_sem, hc2]
    exact .inl ⟨M, hP, rfl, hm3⟩
  | panicked c =>
    obtain ⟨e, M, hP, rfl, hM⟩ := he
    have hm2 := hk _ _ hM
    have hkk : (M ++ [blk w0.heap.size [.int .i64 0] 3])[M.length]? = some (blk w0.heap.size [.int .i64 0] 3) := by simp
    have hb := (hm2.blk_cells M.length hkk).1
    have hc : w'.cell? ⟨w0.heap.size, 0, none⟩ = some (.int .i64 0) := by simp [World.cell?, hb]
    have hf : w'.frozen? ⟨w0.heap.size, 0, none⟩ = false := by simp [World.frozen?, hb]
    refine leaves_cons (f := 105) (args := #[.pointer (some ⟨w0.heap.size, 0, none⟩)]) (by simp) (by simp [go_sem]) ?_
    refine (catch_panicking ⟨w0.heap.size, 0, none⟩ 0 e [] _ hc hf).mono ?_
    rintro e' u' w'' ⟨rfl, rfl, rfl⟩
    have hc2 : (w'.setCell ⟨w0.heap.size, 0, none⟩ (.int .i64 e)).cell? ⟨w0.heap.size, 0, none⟩ = some (.int .i64 e) := World.cell?_setCell_same _ _ _ hc
    have hm3 : Mem w0 hz (w'.setCell ⟨w0.heap.size, 0, none⟩ (.int .i64 e)) M := by
      have h3 := hm2.blk_set (i := 0) (v := .int .i64 e) M.length hkk
      refine h3.pick (List.range M.length) List.nodup_range ?_
      apply List.ext_getElem?
      intro i
      by_cases hi : i < M.length
      · rw [List.getElem?_map, List.getElem?_range hi, List.getElem?_map, Option.map_some, List.getElem?_set_ne (by omega), List.getElem?_append_left hi, List.getElem?_eq_getElem hi]; rfl
      · simp [List.getElem?_map, List.getElem?_eq_none (show M.length ≤ i by omega), List.getElem?_eq_none (show (List.range M.length).length ≤ i by simp; omega)]
    simp [Leaves, settle, results, results82, go_sem, hc2]
    exact .inr ⟨e, M, hP, rfl, hm3⟩
  | outgrown => exact he.elim

theorem caught_ok2 {w0 : World} (hz : Heap) (L : List Ch) (fid : Nat) (cs : List Value) (PR : List Ch → Prop) (PX : Int → List Ch → Prop) (post : World → Value → World → Prop)
    (hm0 : Mem w0 hz w0 L) (hcall : ∀ us w, (callFunc fid us).run Try.prog w = .ok (.enter fid us) w)
    (hrun : ∀ w1 hz1, Heap.le hz hz1 → Mem w1 hz1 w1 L → ConX Try.prog fid cs w1 (fun v w' => ∃ M, PR M ∧ Mem w1 hz1 w' M) (fun c w' => ∃ e M, PX e M ∧ c = pch 153 e ∧ Mem w1 hz1 w' M))
    (hp : ∀ w v w', ((∃ M, PR M ∧ v = .int .i64 0 ∧ Mem w hz w' M) ∨ (∃ e M, PX e M ∧ v = .int .i64 e ∧ Mem w hz w' M)) → post w v w') :
    Con Try.prog 82 [.func (.func fid) #[] cs.toArray] w0 (post w0) := Con.weak (caught_ok w0 hz L fid cs PR PX hm0 hcall hrun) (hp w0)

theorem impl_runUnit_ok (w0 : World) (hz : Heap) (hle0 : Heap.le hz (hp w0)) (u : Unit_) (v1 : Value) (h1 : GT.rep hz [v1] u.codes) (in_ : List Int) (v2 : Value) (h2 : GT.rep hz [v2] in_) (steps : Int) :
    ConM Try.prog 54 [(.agg #[v1]), v2, (nV steps)] w0 (impl_runUnit u in_ steps) fun r v w' => ∃ (x1 : Value) (x2 : Value) (b3 : Nat) (x4 : Value) (x6 : Value) (hz2 : Heap), v = (.tuple #[(.agg #[x1, (nV r.1.end_), (nV r.1.value), x2]), (pV b3)]) ∧ Heap.le hz hz2 ∧ GT.rep hz2 [x4] r.2.u.codes ∧ Mem w0 hz2 w' [junk w0 hz, blk b3 (x4 :: (nV r.2.steps) :: (nV r.2.used) :: x1 :: q16 r.2.cells [x6]) 106, ow [x1] r.1.said, ow [x2] r.1.cells, ow [x6] r.2.trace] := by
  unfold impl_runUnit
  refine gcon func54 rfl fun r => ?_
  have hm := Mem.startA hle0
  refine gS (gR (gBx hm rfl fun b0_1 w hm => ?_))
  obtain ⟨p0_1, c0_1, rfl, hl0_1⟩ := ro_slice h2
  refine gBx hm rfl fun b0_2 w hm => gAl hm zeroValue44 rfl fun b0_3 w hm => gA rfl (gE (gS (gR (gY (yn (hm.blk_at 2 rfl) isAgg40 sizeOf40 rfl) (gM rfl ?_)))))
  obtain ⟨p0_2, c0_2, rfl, hl0_2⟩ := ro_slice h1
  refine gY (yG rfl (y_build (vs := [(0, (.agg #[(.slice p0_2 u.codes.length c0_2)])), (1, (nV steps))]) (cs := #[(.slice p0_2 u.codes.length c0_2), (nV steps), (nV 0), (.slice none 0 0), (nV 0), (nV 0), (nV 0), (nV 0), (nV 0), (nV 0), (nV 0), (nV 0), (nV 0), (nV 0), (nV 0), (nV 0), (nV 0), (nV 0), (nV 0), (nV 0), (.slice none 0 0)]) rfl rfl (by kernel_rfl))) (gBx hm rfl fun b0_4 w hm => gAl hm zeroValue95 rfl fun b0_5 w hm => gS1 hm 0 sizeOf95 rfl rfl fun w hm => gE (gS (gR (gAl hm zeroValue44 rfl fun b0_6 w hm => gE (gS (gR (gY (yU rfl) ?_)))))))
  replace hm := hm.nilow (α := Int)
  replace hm := hm.nilow (α := Int)
  replace hm := hm.nilow (α := Int)
  replace hm := hm.nilow (α := Int)
  refine gb fun r0_1 hx0_1 => ?_
  obtain ⟨hz0_1, hle, hm1, hsub, hk0_1⟩ := hm.take2 (L1 := [blk b0_4 [(.slice p0_2 u.codes.length c0_2), (nV steps), (nV 0), (.slice none 0 0), (nV 0), (nV 0), (nV 0), (nV 0), (nV 0), (nV 0), (nV 0), (nV 0), (nV 0), (nV 0), (nV 0), (nV 0), (nV 0), (nV 0), (nV 0), (nV 0), (.slice none 0 0)] 106, ow [(.slice none 0 0)] ([] : List Int), ow [(.slice none 0 0)] ([] : List Int), blk b0_6 [(.slice none 0 0), (nV 0), (nV 0), (.slice none 0 0)] 44, ow [(.slice none 0 0)] ([] : List Int), ow [(.slice none 0 0)] ([] : List Int)]) (L2 := [blk b0_5 [(pV b0_4)] 95, blk b0_3 [(.slice none 0 0), (nV 0), (nV 0), (.slice none 0 0)] 44, blk b0_2 [(.slice p0_1 in_.length c0_1)] 26, blk b0_1 [(.slice p0_2 u.codes.length c0_2)] 40, junk w0 hz]) [6, 3, 2, 4, 1, 0] [5, 7, 8, 9, 10] (by decide) rfl rfl
  have hcc0_1 := caught_ok2 hz0_1 [blk b0_4 [(.slice p0_2 u.codes.length c0_2), (nV steps), (nV 0), (.slice none 0 0), (nV 0), (nV 0), (nV 0), (nV 0), (nV 0), (nV 0), (nV 0), (nV 0), (nV 0), (nV 0), (nV 0), (nV 0), (nV 0), (nV 0), (nV 0), (nV 0), (.slice none 0 0)] 106, ow [(.slice none 0 0)] ([] : List Int), ow [(.slice none 0 0)] ([] : List Int), blk b0_6 [(.slice none 0 0), (nV 0), (nV 0), (.slice none 0 0)] 44, ow [(.slice none 0 0)] ([] : List Int), ow [(.slice none 0 0)] ([] : List Int)] 83 [(pV b0_5), (pV b0_1), (pV b0_2), (pV b0_6)] (fun M => ∃ q, r0_1 = .inl q ∧ ∃ (x2 : Value) (x3 : Value) (x4 : Value) (x5 : Value), M = [blk b0_4 ((.slice p0_2 u.codes.length c0_2) :: (nV q.1.steps) :: (nV q.1.used) :: x2 :: q16 q.1.cells [x3]) 106, blk b0_6 [x4, (nV q.2.end_), (nV q.2.value), x5] 44, ow [x2] q.1.said, ow [x3] q.1.trace, ow [x4] q.2.said, ow [x5] q.2.cells]) (fun e M => ∃ q, r0_1 = .inr q ∧ ∃ (x2 : Value) (x3 : Value) (x4 : Value) (x5 : Value), e = q.1 ∧ M = [blk b0_4 ((.slice p0_2 u.codes.length c0_2) :: (nV q.2.1.steps) :: (nV q.2.1.used) :: x2 :: q16 q.2.1.cells [x3]) 106, blk b0_6 [x4, (nV q.2.2.end_), (nV q.2.2.value), x5] 44, ow [x2] q.2.1.said, ow [x3] q.2.1.trace, ow [x4] q.2.2.said, ow [x5] q.2.2.cells]) (fun w v w' => ∃ (x2 : Value) (x3 : Value) (x4 : Value) (x5 : Value), v = (nV ((caughtM r0_1).1)) ∧ Mem w hz0_1 w' [blk b0_4 ((.slice p0_2 u.codes.length c0_2) :: (nV ((caughtM r0_1).2.1.steps)) :: (nV ((caughtM r0_1).2.1.used)) :: x2 :: q16 (((caughtM r0_1).2.1.cells)) [x3]) 106, blk b0_6 [x4, (nV ((caughtM r0_1).2.2.end_)), (nV ((caughtM r0_1).2.2.value)), x5] 44, ow [x2] ((caughtM r0_1).2.1.said), ow [x3] ((caughtM r0_1).2.1.trace), ow [x4] ((caughtM r0_1).2.2.said), ow [x5] ((caughtM r0_1).2.2.cells)]) hm1 call83 (fun w1 hz1 hle1 hm2 => ConX.mono (impl_runUnit_1_ok w1 hz1 (⟨u, steps, 0, ([] : List Int), (List.replicate 16 0), ([] : List Int)⟩ : running) b0_5 b0_4 (.slice p0_2 u.codes.length c0_2) (GT.mono hle1 (GT.mono hle h1)) (.slice none 0 0) (.slice none 0 0) (hle1 _ _ (fz_blk (hsub 0 _ rfl))) u b0_1 (.slice p0_2 u.codes.length c0_2) (GT.mono hle1 (GT.mono hle h1)) (hle1 _ _ (fz_blk (hsub 3 _ rfl))) in_ b0_2 (.slice p0_1 in_.length c0_1) (GT.mono hle1 (GT.mono hle h2)) (hle1 _ _ (fz_blk (hsub 2 _ rfl))) (⟨([] : List Int), 0, 0, ([] : List Int)⟩ : Outcome_) b0_6 (.slice none 0 0) (.slice none 0 0) hm2  r0_1 hx0_1) (by rintro v w' ⟨q, hr, x2, x3, x4, x5, rfl, hB⟩; exact ⟨_, ⟨q, hr, x2, x3, x4, x5, rfl⟩, hB⟩) (by rintro c w' ⟨q, hr, x2, x3, x4, x5, rfl, hB⟩; exact ⟨_, _, ⟨q, hr, x2, x3, x4, x5, rfl, rfl⟩, rfl, hB⟩)) (by rintro w v w' (⟨M, ⟨q, rfl, x2, x3, x4, x5, rfl⟩, rfl, hB⟩ | ⟨e, M, ⟨q, rfl, x2, x3, x4, x5, rfl, rfl⟩, rfl, hB⟩) <;> exact ⟨x2, x3, x4, x5, rfl, hB⟩)
  refine gf rfl (fun a hf => e_call hf rfl call82 rfl hcc0_1) ?_
  rintro v0_1 w ⟨v0_2, v0_3, v0_4, v0_5, rfl, hB⟩
  replace hm := hk0_1 _ _ hB; clear hB
  refine gF fo_44_1 rfl (gS1 hm 1 sizeOf3 rfl rfl fun w hm => gE (gS (gW (.q 0 (.p 1 (.p 2 (.q 3 (.p 9 (.e 4 (.p 5 (.p 6 (.p 7 (.e 8 (.e 10 (.p 11 (.e 12 .fin .nil)) .nil) .nil)))) .nil)))))) [4, 8] [1, 2, 5, 6, 7, 9, 11] hm [0, 1, 2, 3, 4, 5, 6, 7, 8, 9, 10] [blk b0_4 ((.slice p0_2 u.codes.length c0_2) :: (nV ((caughtM r0_1).2.1.steps)) :: (nV ((caughtM r0_1).2.1.used)) :: v0_2 :: q16 (((caughtM r0_1).2.1.cells)) [v0_3]) 106, blk b0_6 [v0_4, (nV ((caughtM r0_1).1)), (nV ((caughtM r0_1).2.2.value)), v0_5] 44, ow [v0_2] ((caughtM r0_1).2.1.said), ow [v0_3] ((caughtM r0_1).2.1.trace), ow [v0_4] ((caughtM r0_1).2.2.said), ow [v0_5] ((caughtM r0_1).2.2.cells), blk b0_5 [(pV b0_4)] 95, blk b0_3 [(.slice none 0 0), (nV 0), (nV 0), (.slice none 0 0)] 44, blk b0_2 [(.slice p0_1 in_.length c0_1)] 26, blk b0_1 [(.slice p0_2 u.codes.length c0_2)] 40, junk w0 hz] rfl mxo (by kernel_rfl) (fun _ _ _ h => h.2) fun w hm hS => tQ rfl hS (fun w hm => yL hm 6 isAgg95 rfl) (tP rfl (fun w => yG rfl (y_nilptr rfl rfl)) (tP rfl (fun w => yF fo_106_3 rfl) (tQ rfl hS (fun w hm => yL hm 0 isAgg26 rfl) (tP rfl (fun w => yF fo_44_0 rfl) (tO (tY rfl (yL hm 6 isAgg95 rfl) (tAs hS (tP rfl (fun w => yG rfl (y_nilptr rfl rfl)) (tP rfl (fun w => yF fo_106_4 rfl) (tP rfl (fun w => yG rfl (y_slcArr (n := 16) underlying104 rfl rfl sizeOf3)) (tO (gb fun r0_2 hx0_2 => ?_)))))))))))))))
  refine tf rfl rfl (fun a hf => e_call hf rfl call85 rfl (slices_Clone_S_int_int_ok _ (normA 16 ((caughtM r0_1).2.1.cells)) (sV b0_4 4 16 16) (hm.arr_rep (pre := [(.slice p0_2 u.codes.length c0_2), (nV ((caughtM r0_1).2.1.steps)), (nV ((caughtM r0_1).2.1.used)), v0_2]) (post := [v0_3]) (arr := ((caughtM r0_1).2.1.cells)) (n := 16) 0 rfl (by decide)) _ hx0_2)) ?_
  rintro v0_6 w ⟨_, rfl, hB⟩
  replace hm := hm.give hB; clear hB
  refine tAk hm [1, 2, 3, 4, 5, 6, 7, 8, 9, 10, 11] rfl fun hS => tO (tf0 rfl rfl (fun a hf => e_store1 2 hf hm rfl sizeOf26 rfl rfl rfl (rep_one (hm.ow_rep 3 rfl)) rfl) ?_)
  rintro _ w hm
  refine tAn rfl (tP rfl (fun w => yF fo_44_3 rfl) (tO (tf0 rfl rfl (fun a hf => e_store1 2 hf hm rfl sizeOf26 rfl rfl rfl (rep_one (hm.ow_rep 0 rfl)) rfl) ?_)))
  rintro _ w hm
  refine tAn rfl (tE (gS (gW (.q 0 (.q 1 (.e 2 (.p 3 .fin) .nil))) [0, 1, 2] [3] hm [0, 1, 2, 3, 4, 5, 6, 7, 9, 10, 11] [ow [v0_6] r0_2, blk b0_4 ((.slice p0_2 u.codes.length c0_2) :: (nV ((caughtM r0_1).2.1.steps)) :: (nV ((caughtM r0_1).2.1.used)) :: v0_2 :: q16 (((caughtM r0_1).2.1.cells)) [v0_3]) 106, blk b0_6 [v0_2, (nV ((caughtM r0_1).1)), (nV ((caughtM r0_1).2.2.value)), v0_6] 44, ow [v0_2] ((caughtM r0_1).2.1.said), ow [v0_3] ((caughtM r0_1).2.1.trace), ow [v0_4] ((caughtM r0_1).2.2.said), ow [v0_5] ((caughtM r0_1).2.2.cells), blk b0_5 [(pV b0_4)] 95, blk b0_2 [(.slice p0_1 in_.length c0_1)] 26, blk b0_1 [(.slice p0_2 u.codes.length c0_2)] 40, junk w0 hz] rfl mxo (by kernel_rfl) (fun _ _ _ h => h.2) fun w hm hS => tQ rfl hS (fun w hm => yn (hm.blk_at 2 rfl) isAgg44 sizeOf44 rfl) (tQ rfl hS (fun w hm => yL hm 7 isAgg95 rfl) (tO (tf0 rfl rfl (fun a hf => e_storeN 8 hf hm rfl sizeOf44 rfl rfl rfl (one_cons (rep_one (hm.ow_rep 3 rfl)) (one_cons rfl (one_cons rfl (one_cons (rep_one (hm.ow_rep 0 rfl)) one_nil)))) rfl rfl) ?_))))))
  rintro _ w hm
  exact tAk hm [0, 1, 2, 3, 4, 5, 6, 7, 9, 10, 11] rfl fun hS => tP rfl (fun w => yA rfl) (tE (gRt (grct 8 results54 hm rfl isAgg44 sizeOf44 ⟨v0_2, v0_6, b0_4, (.slice p0_2 u.codes.length c0_2), v0_3, hz, rfl, (Heap.le_refl _), h1, hm.pk [11, 1, 3, 0, 4] rfl rfl⟩)))

theorem impl_StepsOf_ok (w0 : World) (u : Unit_) (v1 : Value) (h1 : GT.rep (hp w0) [v1] u.codes) (in_ : List Int) (v2 : Value) (h2 : GT.rep (hp w0) [v2] in_) :
    ConM Try.prog 25 [(.agg #[v1]), v2] w0 (impl_StepsOf u in_) fun r v w' => v = (nV r) ∧ Below w0.heap.size w0 w' := by
  unfold impl_StepsOf
  refine gcon func25 rfl fun r => ?_
  have hm := Mem.start w0
  refine gS (gR (gBx hm rfl fun b0_1 w hm => gA rfl (gE (gS (gS (gR (gY (yn (hm.blk_at 0 rfl) isAgg40 sizeOf40 rfl) (gM rfl (gC hm rfl call53 (impl_unitRuns_ok _ u v1 (hm.now h1) in_ v2 (hm.now h2) 60000) fun r0_1 hx0_1 w hm => gN rfl (gE (gsn 10 rfl (fun h0_1 => ?_) fun h0_1 => ?_)))))))))))
  ·
   exact gct rfl (gS (gR (gA rfl (gE (gRt (gr1 results25 rfl ⟨rfl, hm.below⟩))))))
  refine gcf rfl (gSk (gS (gR (gY (yn (hm.blk_at 0 rfl) isAgg40 sizeOf40 rfl) (gM rfl (gCg rfl call54 (impl_runUnit_ok _ _ hm.lez u v1 h1 in_ v2 h2 60000 ) ?_))))))
  rintro r0_2 hx0_2 v0_2 w ⟨v0_3, v0_4, b0_2, v0_5, v0_6, hz0_1, rfl, hle0_1, h0_2, hB⟩
  replace hm := Mem.giveA hm hle0_1 hB; clear hB
  refine gM rfl (gX rfl (gX rfl (gAl hm zeroValue44 rfl fun b0_3 w hm => gSN hm 0 sizeOf44 (one_cons (rep_one (hm.ow_rep 2 rfl)) (one_cons rfl (one_cons rfl (one_cons (rep_one (hm.ow_rep 3 rfl)) one_nil)))) rfl fun w hm => gA rfl (gE (gS (gS (gR (gF fo_44_1 rfl (gL hm 0 isAgg3 rfl (gB rfl (gE (gsd 19 rfl (fun h0_3 => ?_) fun h0_3 => ?_))))))))))))
  ·
   refine gct rfl (gS (gR (gA rfl (gE (gRt ?_)))))
   replace hm := hm.thaw hle0_1
   exact gr1 results25 rfl ⟨rfl, hm.below⟩
  refine gcf rfl (gSk (gS (gR (gM rfl (gY (yG rfl (y_nilptr rfl rfl)) (gF fo_106_2 rfl (gL hm 1 isAgg3 rfl (gA rfl (gE (gRt ?_))))))))))
  replace hm := hm.thaw hle0_1
  exact gr1 results25 rfl ⟨rfl, hm.below⟩

theorem spec_l7Regs_ok (w0 : World) (c_ : Code_) (v1 : Value) (h1 : GT.rep (hp w0) [v1] c_.blocks) (list : List Int) (v2 : Value) (h2 : GT.rep (hp w0) [v2] list) :
    ConM Try.prog 144 [(.agg #[(nV c_.params), (nV c_.regs), v1]), v2] w0 (spec_l7Regs c_ list) fun r v w' => v = (.bool (r)) ∧ Below w0.heap.size w0 w' := by
  unfold spec_l7Regs
  refine gcon func144 rfl fun r => ?_
  have hm := Mem.start w0
  refine gS (gR (gBx hm rfl fun b0_1 w hm => gA rfl (gE (gS (gS (gR (gA rfl (gE (gBk (gNf hm (fun i1_1 xs1_1 => [(1, v2), (2, (pV b0_1)), (5, (nV i1_1))]) (fun i1_1 xs1_1 => [blk b0_1 [(nV c_.params), (nV c_.regs), v1] 55]) [0] rfl ?_ ?_))))))))))
  ·
   repeat clear hm
   intro r0_1 hq0_1 i1_1 xs1_1 w hm hi0_1 hi0_2 q0_1 ho0_1
   refine gS (gS (gR (gM rfl (gM rfl ?_))))
   obtain ⟨p1_1, c1_1, rfl, hl1_1⟩ := ro_slice h2
   refine gY (yV st_26 rfl) (gB rfl (gE (go _ 9 rfl (decide_eq_true (by omega)) (gct rfl (gSk (gS (gBk (gS (gW (.p 0 (.p 1 (.p 2 (.p 4 (.q 3 (.e 5 (.p 6 (.e 7 (.p 8 .fin) .nil)) .nil)))))) [5] [0, 1, 2, 4, 6, 8] hm [0] [blk b0_1 [(nV c_.params), (nV c_.regs), v1] 55] rfl mxo (by kernel_rfl) (fun _ _ _ h => h.2) fun w hm hS => tP rfl (fun w => yM rfl) (tP rfl (fun w => yM rfl) (gg fun x1_1 h1_1 hx1_2 => ?_)))))))))))
   obtain ⟨b1_1, o1_1, c1_2, he⟩ := idx_form h2 hx1_2
   simp only [Value.slice.injEq, Option.some.injEq] at he; obtain ⟨rfl, _, rfl⟩ := he
   refine tP rfl (fun w => yI st_26 h1_1 (idx_lt hx1_2) rfl) (tP rfl (fun w => yF fo_55_1 rfl) (tQ rfl hS (fun w hm => yl isAgg3 ((flat_cells (cs := [(nV x1_1)]) (hm.now h2) hx1_2 rfl).cell (j := 0) rfl) rfl) (tO (tY rfl (yL hm 0 isAgg3 rfl) (tAs hS (tP rfl (fun w => yB rfl) (tO (gb fun r1_1 hx1_3 => tf rfl rfl (fun a hf => e_call hf rfl call56 rfl (spec_l1In_ok _ x1_1 0 (w64 (c_.regs - 1)) _ hx1_3)) ?_))))))))
   rintro v1_1 w ⟨rfl, hB⟩
   replace hm := hm.below' hB; clear hB
   refine tAn rfl (tP rfl (fun w => yN rfl) (tE (gsn 20 rfl (fun h1_2 => ?_) fun h1_2 => ?_)))
   ·
    exact gct rfl (gS (gR (gA rfl (gE (gRt (gLr ho0_1 hq0_1 (gr1 results144 rfl ⟨rfl, hm.below⟩)))))))
   exact gcf rfl (gSk (gR (gM rfl (gP (by omega) (by omega) rfl (gA rfl (gE (gze hm [0] rfl)))))))
  repeat clear hm
  intro i0_1 xs0_1 w hm hi0_3 hi0_4
  refine gS (gS (gR (gM rfl (gM rfl ?_))))
  obtain ⟨p0_1, c0_1, rfl, hl0_1⟩ := ro_slice h2
  exact gY (yV st_26 rfl) (gB rfl (gE (go _ 9 rfl (decide_eq_false (by omega)) (gcf rfl (gXt (gHh (gS (gR (gA rfl (gE (gRt (gr1 results144 rfl ⟨rfl, hm.below⟩))))))))))))

theorem spec_l7Ins_ok (w0 : World) (u : Unit_) (v1 : Value) (h1 : GT.rep (hp w0) [v1] u.codes) (k_ : Int) (x_ : Ins_) (v2 : Value) (h2 : GT.rep (hp w0) [v2] x_.args) :
    ConM Try.prog 143 [(.agg #[v1]), (nV k_), (.agg #[(nV x_.op), (nV x_.to), v2, (nV x_.n_)])] w0 (spec_l7Ins u k_ x_) fun r v w' => v = (.bool (r)) ∧ Below w0.heap.size w0 w' := by
  unfold spec_l7Ins
  refine gcon func143 rfl fun r => ?_
  have hm := Mem.start w0
  refine gS (gR (gBx hm rfl fun b0_1 w hm => gBx hm rfl fun b0_2 w hm => gA rfl (gE (gS (gR (gF fo_40_0 rfl (gL hm 1 isAgg38 rfl (gM rfl (gg fun x0_1 h0_1 hx0_2 => ?_)))))))))
  obtain ⟨b0_3, o0_1, c0_1, he⟩ := idx_form' h1 hx0_2
  subst he
  obtain ⟨_, _, hc0_1, hr0_1⟩ := ro_get' h1 hx0_2
  obtain ⟨_, _, rfl, rfl, _, _, rfl, rfl, h0_2⟩ := hr0_1
  obtain ⟨v0_1, rfl, -⟩ := id h0_2
  replace h0_2 : GT.rep (hp w0) [v0_1] x0_1.blocks := h0_2
  replace hc0_1 : CellsAt (hp w0) b0_3 (o0_1 + (k_).toNat * 3) [(nV x0_1.params), (nV x0_1.regs), v0_1] := hc0_1
  refine gI st_38 h0_1 (idx_lt hx0_2) rfl (gY (yn (hc0_1.mono hm.lez) isAgg55 sizeOf55 rfl) (gAl hm zeroValue55 rfl fun b0_4 w hm => gSN hm 0 sizeOf55 (one_cons rfl (one_cons rfl (one_cons (rep_one h0_2) one_nil))) rfl fun w hm => gE (gS (gS (gJ hm (fun s0_1 => [(1, (nV k_)), (3, (pV b0_1)), (5, (pV b0_2)), (7, (pV b0_4)), (23, (.bool (s0_1)))]) (fun s0_1 => [blk b0_1 [(sV b0_3 o0_1 u.codes.length c0_1)] 40, blk b0_2 [(nV x_.op), (nV x_.to), v2, (nV x_.n_)] 57, blk b0_4 [(nV x0_1.params), (nV x0_1.regs), v0_1] 55]) (fun s0_1 => ?_) ?_)))))
  ·
   refine gR (gF fo_57_0 rfl (gL hm 1 isAgg3 rfl (gC hm rfl call56 (spec_l1In_ok _ x_.op 1 14) fun r1_1 hx1_1 w hm => gN rfl (gM rfl (gsn 17 rfl (fun h1_1 => ?_) fun h1_1 => ?_)))))
   ·
    exact gO rfl (gO rfl (gO rfl (gO rfl (gO rfl (gKt rfl (gE (gz hm [2, 1, 0] rfl)))))))
   exact gY (yn (hm.blk_at 0 rfl) isAgg55 sizeOf55 rfl) (gF fo_57_2 rfl (gL hm 1 isAgg26 rfl (gC hm rfl call144 (spec_l7Regs_ok _ x0_1 v0_1 (hm.now h0_2) x_.args v2 (hm.now h2)) fun r1_2 hx1_2 w hm => gN rfl (gKf rfl (gE (gz hm [2, 1, 0] rfl))))))
  repeat clear hm
  intro s0_1 w hm
  refine gs 23 rfl (fun h0_3 => ?_) fun h0_3 => ?_
  ·
   exact gct rfl (gS (gR (gA rfl (gE (gRt (gr1 results143 rfl ⟨rfl, hm.below⟩))))))
  refine gcf rfl (gSk (gS (gS (gJ hm (fun s0_2 => [(1, (nV k_)), (3, (pV b0_1)), (5, (pV b0_2)), (44, (.bool (s0_2)))]) (fun s0_2 => [blk b0_1 [(sV b0_3 o0_1 u.codes.length c0_1)] 40, blk b0_2 [(nV x_.op), (nV x_.to), v2, (nV x_.n_)] 57]) (fun s0_2 => ?_) ?_))))
  ·
   refine gW (.p 0 (.p 3 (.p 5 (.q 1 (.q 4 (.q 6 (.p 7 (.e 2 (.e 8 (.p 9 (.p 10 (.p 11 (.e 12 (.e 13 (.p 14 (.p 15 (.p 16 (.e 17 (.p 18 (.p 19 (.p 20 .fin))) .nil)))) .nil) .nil)))) .nil) .nil)))))))) [1, 2, 4, 6] [0, 3, 5, 7, 9, 10, 11, 14, 15, 16, 18, 19, 20] hm [0, 1, 2] [blk b0_1 [(sV b0_3 o0_1 u.codes.length c0_1)] 40, blk b0_2 [(nV x_.op), (nV x_.to), v2, (nV x_.n_)] 57, blk b0_4 [(nV x0_1.params), (nV x0_1.regs), v0_1] 55] rfl mxo (by kernel_rfl) (fun _ _ _ h => h.2) fun w hm hS => tP rfl (fun w => yF fo_57_0 rfl) (tP rfl (fun w => yF fo_57_1 rfl) (tP rfl (fun w => yF fo_55_1 rfl) (tQ rfl hS (fun w hm => yL hm 1 isAgg3 rfl) (tQ rfl hS (fun w hm => yL hm 1 isAgg3 rfl) (tQ rfl hS (fun w hm => yL hm 2 isAgg3 rfl) (tP rfl (fun w => yB rfl) (tO (gb fun r1_3 hx1_3 => tf rfl rfl (fun a hf => e_call hf rfl call128 rfl (spec_l7Makes_ok _ x_.op _ hx1_3)) ?_))))))))
   rintro v1_3 w ⟨rfl, hB⟩
   replace hm := hm.below' hB; clear hB
   refine tAk hm [0, 1, 2] rfl fun hS => tO (gb fun r1_4 hx1_4 => tf rfl rfl (fun a hf => e_call hf rfl call56 rfl (spec_l1In_ok _ x_.to 0 (w64 (x0_1.regs - 1)) _ hx1_4)) ?_)
   rintro v1_4 w ⟨rfl, hB⟩
   replace hm := hm.below' hB; clear hB
   refine tAn rfl (tP rfl (fun w => yG rfl (y_neqb underlying4 rfl rfl rfl)) (tP rfl (fun w => yM rfl) (gsd 34 rfl (fun h1_2 => ?_) fun h1_2 => ?_)))
   ·
    exact tPo rfl rfl (tO (tEo rfl rfl (tAn rfl (tO (tEo rfl rfl (tAn rfl (tPo rfl rfl (tPo rfl rfl (tPo rfl rfl (tO (tEo rfl rfl (tAn rfl (tPo rfl rfl (tPo rfl rfl (tP rfl (fun w => yKt rfl) (tE (gz hm [0, 1] rfl)))))))))))))))))
   refine tP rfl (fun w => yF fo_57_0 rfl) (tO (tY rfl (yL hm 1 isAgg3 rfl) (tAn rfl (tO (gb fun r1_5 hx1_5 => tf rfl rfl (fun a hf => e_call hf rfl call128 rfl (spec_l7Makes_ok _ x_.op _ hx1_5)) ?_)))))
   rintro v1_5 w ⟨rfl, hB⟩
   replace hm := hm.below' hB; clear hB
   refine tAn rfl (tP rfl (fun w => yN rfl) (tP rfl (fun w => yM rfl) (gsn 39 rfl (fun h1_3 => ?_) fun h1_3 => ?_)))
   ·
    exact tP rfl (fun w => yF fo_57_1 rfl) (tO (tY rfl (yL hm 1 isAgg3 rfl) (tAn rfl (tP rfl (fun w => yB rfl) (tP rfl (fun w => yKt rfl) (tP rfl (fun w => yKf rfl) (tE (gz hm [0, 1] rfl))))))))
   exact tPo rfl rfl (tO (tEo rfl rfl (tAn rfl (tPo rfl rfl (tP rfl (fun w => yKf rfl) (tP rfl (fun w => yKf rfl) (tE (gz hm [0, 1] rfl))))))))
  repeat clear hm
  intro s0_2 w hm
  refine gs 44 rfl (fun h0_4 => ?_) fun h0_4 => ?_
  ·
   exact gct rfl (gS (gR (gA rfl (gE (gRt (gr1 results143 rfl ⟨rfl, hm.below⟩))))))
  refine gcf rfl (gSk (gS (gS (gR (gF fo_57_0 rfl (gL hm 1 isAgg3 rfl (gB rfl (gE (gsd 47 rfl (fun h0_5 => ?_) fun h0_5 => ?_)))))))))
  ·
   refine gct rfl (gS (gJ hm (fun s0_3 => [(6, (.bool (s0_3)))]) (fun s0_3 => []) (fun s0_3 => ?_) ?_))
   ·
    refine gW (.p 0 (.p 2 (.p 3 (.e 1 (.e 4 (.p 5 (.p 6 (.p 9 (.p 11 (.q 7 (.p 8 (.q 10 (.e 12 (.p 13 (.p 14 (.e 15 (.p 16 (.p 17 (.p 18 .fin))) .nil))) .nil)))))))) .nil) .nil)))) [7, 10, 12, 15] [0, 2, 3, 5, 6, 8, 9, 11, 13, 14, 16, 17, 18] hm [0, 1] [blk b0_1 [(sV b0_3 o0_1 u.codes.length c0_1)] 40, blk b0_2 [(nV x_.op), (nV x_.to), v2, (nV x_.n_)] 57] rfl mxo (by kernel_rfl) (fun _ _ _ h => h.2) fun w hm hS => tP rfl (fun w => yF fo_57_3 rfl) (tP rfl (fun w => yM rfl) (tP rfl (fun w => yB rfl) (tO (tY rfl (yL hm 1 isAgg3 rfl) (tAn rfl (tO (gb fun r1_6 hx1_6 => tf rfl rfl (fun a hf => e_call hf rfl call56 rfl (spec_l1In_ok _ x_.n_ 0 (w64 (k_ - 1)) _ hx1_6)) ?_)))))))
    rintro v1_6 w ⟨rfl, hB⟩
    replace hm := hm.below' hB; clear hB
    refine tAk hm [0, 1] rfl fun hS => tP rfl (fun w => yM rfl) (gs 53 rfl (fun h1_4 => ?_) fun h1_4 => ?_)
    ·
     refine tP rfl (fun w => yF fo_57_2 rfl) (tP rfl (fun w => yF fo_40_0 rfl) (tP rfl (fun w => yF fo_57_3 rfl) (tQ rfl hS (fun w hm => yL hm 1 isAgg26 rfl) ?_)))
     obtain ⟨p1_1, c1_1, rfl, hl1_1⟩ := ro_slice h2
     refine tP rfl (fun w => yV st_26 rfl) (tQ rfl hS (fun w hm => yL hm 0 isAgg38 rfl) (tO (tY rfl (yL hm 1 isAgg3 rfl) (tAs hS (gg fun x1_1 h1_5 hx1_8 => ?_)))))
     obtain ⟨_, _, hc1_1, hr1_1⟩ := ro_get' h1 hx1_8
     obtain ⟨_, _, rfl, rfl, _, _, rfl, rfl, h1_6⟩ := hr1_1
     obtain ⟨v1_7, rfl, -⟩ := id h1_6
     replace h1_6 : GT.rep (hp w0) [v1_7] x1_1.blocks := h1_6
     replace hc1_1 : CellsAt (hp w0) b0_3 (o0_1 + (x_.n_).toNat * 3) [(nV x1_1.params), (nV x1_1.regs), v1_7] := hc1_1
     exact tP rfl (fun w => yI st_38 h1_5 (idx_lt hx1_8) rfl) (tP rfl (fun w => yF fo_55_0 rfl) (tO (tY rfl (yl isAgg3 ((hc1_1.mono hm.lez).cell (j := 0) rfl) rfl) (tAs hS (tP rfl (fun w => yB rfl) (tP rfl (fun w => yKt rfl) (tP rfl (fun w => yA rfl) (tE (gz hm [] rfl)))))))))
    exact tPo rfl rfl (tPo rfl rfl (tPo rfl rfl (tQo rfl hS rfl (tPo rfl rfl (tQo rfl hS rfl (tO (tEo rfl rfl (tAs hS (tPo rfl rfl (tPo rfl rfl (tO (tEo rfl rfl (tAs hS (tPo rfl rfl (tP rfl (fun w => yKf rfl) (tP rfl (fun w => yA rfl) (tE (gz hm [] rfl))))))))))))))))))
   repeat clear hm
   intro s0_3 w hm
   exact gRt (gr1 results143 rfl ⟨rfl, hm.below⟩)
  refine gcf rfl (gSk (gS (gJ hm (fun s0_4 => [(6, (.bool (s0_4)))]) (fun s0_4 => []) (fun s0_4 => ?_) ?_)))
  ·
   refine gW (.p 0 (.p 3 (.q 1 (.p 2 (.e 4 (.e 5 (.p 6 (.p 7 (.p 8 (.e 9 (.e 10 (.p 11 (.p 12 (.p 13 (.e 14 (.p 15 (.p 16 (.p 17 (.e 18 (.p 19 (.p 20 (.p 21 (.p 22 .fin)))) .nil)))) .nil)))) .nil) .nil)))) .nil) .nil))))) [4, 5] [0, 2, 3, 6, 7, 8, 11, 12, 13, 15, 16, 17, 19, 20, 21, 22] hm [0, 1] [blk b0_1 [(sV b0_3 o0_1 u.codes.length c0_1)] 40, blk b0_2 [(nV x_.op), (nV x_.to), v2, (nV x_.n_)] 57] rfl mxo (by kernel_rfl) (fun _ _ _ h => h.2) fun w hm hS => tP rfl (fun w => yF fo_57_2 rfl) (tP rfl (fun w => yF fo_57_0 rfl) (tQ rfl hS (fun w hm => yL hm 1 isAgg26 rfl) ?_))
   obtain ⟨p1_2, c1_2, rfl, hl1_2⟩ := ro_slice h2
   refine tP rfl (fun w => yV st_26 rfl) (tO (tY rfl (yL hm 1 isAgg3 rfl) (tAs hS (tO (gb fun r1_7 hx1_9 => tf rfl rfl (fun a hf => e_call hf rfl call135 rfl (spec_l7Args_ok _ x_.op _ hx1_9)) ?_)))))
   rintro v1_8 w ⟨rfl, hB⟩
   replace hm := hm.below' hB; clear hB
   refine tAk hm [0, 1] rfl fun hS => tP rfl (fun w => yB rfl) (tP rfl (fun w => yM rfl) (gsd 73 rfl (fun h1_7 => ?_) fun h1_7 => ?_))
   ·
    refine tP rfl (fun w => yF fo_57_3 rfl) (tO (tY rfl (yL hm 1 isAgg3 rfl) (tAn rfl (tO (gb fun r1_8 hx1_10 => tf rfl rfl (fun a hf => e_call hf rfl call56 rfl (spec_l1In_ok _ x_.n_ 0 255 _ hx1_10)) ?_)))))
    rintro v1_9 w ⟨rfl, hB⟩
    replace hm := hm.below' hB; clear hB
    refine tAn rfl (tP rfl (fun w => yKt rfl) (tP rfl (fun w => yM rfl) (gs 78 rfl (fun h1_8 => ?_) fun h1_8 => ?_)))
    ·
     refine tP rfl (fun w => yF fo_57_3 rfl) (tO (tY rfl (yL hm 1 isAgg3 rfl) (tAn rfl (tP rfl (fun w => yB rfl) (tP rfl (fun w => yM rfl) (gsd 82 rfl (fun h1_9 => ?_) fun h1_9 => ?_))))))
     ·
      exact tPo rfl rfl (tO (tEo rfl rfl (tAn rfl (tPo rfl rfl (tP rfl (fun w => yKt rfl) (tP rfl (fun w => yKt rfl) (tP rfl (fun w => yA rfl) (tE (gz hm [] rfl)))))))))
     exact tP rfl (fun w => yF fo_57_0 rfl) (tO (tY rfl (yL hm 1 isAgg3 rfl) (tAn rfl (tP rfl (fun w => yB rfl) (tP rfl (fun w => yKf rfl) (tP rfl (fun w => yKt rfl) (tP rfl (fun w => yA rfl) (tE (gz hm [] rfl)))))))))
    exact tPo rfl rfl (tO (tEo rfl rfl (tAn rfl (tPo rfl rfl (tPo rfl rfl (tPo rfl rfl (tO (tEo rfl rfl (tAn rfl (tPo rfl rfl (tPo rfl rfl (tP rfl (fun w => yKf rfl) (tP rfl (fun w => yA rfl) (tE (gz hm [] rfl)))))))))))))))
   exact tPo rfl rfl (tO (tEo rfl rfl (tAn rfl (tO (tEo rfl rfl (tAn rfl (tP rfl (fun w => yKf rfl) (tP rfl (fun w => yM rfl) (tPo rfl rfl (tO (tEo rfl rfl (tAn rfl (tPo rfl rfl (tPo rfl rfl (tPo rfl rfl (tO (tEo rfl rfl (tAn rfl (tPo rfl rfl (tPo rfl rfl (tP rfl (fun w => yKf rfl) (tP rfl (fun w => yA rfl) (tE (gz hm [] rfl))))))))))))))))))))))))
  repeat clear hm
  intro s0_4 w hm
  exact gRt (gr1 results143 rfl ⟨rfl, hm.below⟩)

theorem spec_l7Block_ok (w0 : World) (u : Unit_) (v1 : Value) (h1 : GT.rep (hp w0) [v1] u.codes) (k_ : Int) (b_ : Int) :
    ConM Try.prog 112 [(.agg #[v1]), (nV k_), (nV b_)] w0 (spec_l7Block u k_ b_) fun r v w' => v = (.bool (r)) ∧ Below w0.heap.size w0 w' := by
  unfold spec_l7Block
  refine gcon func112 rfl fun r => ?_
  have hm := Mem.start w0
  refine gS (gR (gBx hm rfl fun b0_1 w hm => gA rfl (gE (gS (gR (gF fo_40_0 rfl (gL hm 0 isAgg38 rfl (gM rfl (gg fun x0_1 h0_1 hx0_2 => ?_)))))))))
  obtain ⟨b0_2, o0_1, c0_1, he⟩ := idx_form' h1 hx0_2
  subst he
  obtain ⟨_, _, hc0_1, hr0_1⟩ := ro_get' h1 hx0_2
  obtain ⟨_, _, rfl, rfl, _, _, rfl, rfl, h0_2⟩ := hr0_1
  obtain ⟨v0_1, rfl, -⟩ := id h0_2
  replace h0_2 : GT.rep (hp w0) [v0_1] x0_1.blocks := h0_2
  replace hc0_1 : CellsAt (hp w0) b0_2 (o0_1 + (k_).toNat * 3) [(nV x0_1.params), (nV x0_1.regs), v0_1] := hc0_1
  refine gI st_38 h0_1 (idx_lt hx0_2) rfl (gY (yn (hc0_1.mono hm.lez) isAgg55 sizeOf55 rfl) (gAl hm zeroValue55 rfl fun b0_3 w hm => gSN hm 0 sizeOf55 (one_cons rfl (one_cons rfl (one_cons (rep_one h0_2) one_nil))) rfl fun w hm => gE (gS (gR (gF fo_55_2 rfl (gL hm 0 isAgg53 rfl (gM rfl (gg fun x0_2 h0_3 hx0_4 => ?_))))))))
  obtain ⟨b0_4, o0_2, c0_2, he⟩ := idx_form' h0_2 hx0_4
  subst he
  obtain ⟨_, _, hc0_2, hr0_2⟩ := ro_get' h0_2 hx0_4
  obtain ⟨_, _, rfl, h0_4, _, _, rfl, h0_5, _, _, rfl, rfl, _, _, rfl, rfl, h0_6⟩ := hr0_2
  obtain ⟨v0_2, rfl, -⟩ := id h0_4
  replace h0_4 : GT.rep (hp w0) [v0_2] x0_2.phis := h0_4
  obtain ⟨v0_3, rfl, -⟩ := id h0_5
  replace h0_5 : GT.rep (hp w0) [v0_3] x0_2.ins := h0_5
  obtain ⟨v0_4, rfl, -⟩ := id h0_6
  replace h0_6 : GT.rep (hp w0) [v0_4] x0_2.next_ := h0_6
  replace hc0_2 : CellsAt (hp w0) b0_4 (o0_2 + (b_).toNat * 5) [v0_2, v0_3, (nV x0_2.jump), (nV x0_2.on), v0_4] := hc0_2
  refine gI st_53 h0_3 (idx_lt hx0_4) rfl (gY (yn (hc0_2.mono hm.lez) isAgg61 sizeOf61 rfl) (gAl hm zeroValue61 rfl fun b0_5 w hm => gSN hm 0 sizeOf61 (one_cons (rep_one h0_4) (one_cons (rep_one h0_5) (one_cons rfl (one_cons rfl (one_cons (rep_one h0_6) one_nil))))) rfl fun w hm => gE (gS (gR (gA rfl (gE (gS (gS (gR (gF fo_61_2 rfl (gL hm 0 isAgg3 rfl (gE (gJge (fun s0_1 a w => 0 ≤ x0_2.jump ∧ x0_2.jump ≤ 3 ∧ 0 ≤ s0_1 ∧ s0_1 ≤ 2 ∧ St 136 [(1, (nV k_)), (2, (nV b_)), (3, (pV b0_1)), (7, (pV b0_3)), (8, (pV b0_5)), (9, (nV s0_1))] w0 (hp w0) [blk b0_1 [(sV b0_2 o0_1 u.codes.length c0_1)] 40, blk b0_3 [(nV x0_1.params), (nV x0_1.regs), (sV b0_4 o0_2 x0_1.blocks.length c0_2)] 55, blk b0_5 [v0_2, v0_3, (nV x0_2.jump), (nV x0_2.on), v0_4] 61] a w) (fun c0_3 hq0_1 => ?_) ?_)))))))))))))
  ·
   refine gBk (gS (gR (gB rfl (gA rfl (gE (gJge (fun s1_1 a w => 0 ≤ x0_2.jump ∧ x0_2.jump ≤ 3 ∧ 0 ≤ s1_1 ∧ s1_1 ≤ 2 ∧ St 136 [(1, (nV k_)), (2, (nV b_)), (3, (pV b0_1)), (7, (pV b0_3)), (8, (pV b0_5)), (9, (nV s1_1))] w0 (hp w0) [blk b0_1 [(sV b0_2 o0_1 u.codes.length c0_1)] 40, blk b0_3 [(nV x0_1.params), (nV x0_1.regs), (sV b0_4 o0_2 x0_1.blocks.length c0_2)] 55, blk b0_5 [v0_2, v0_3, (nV x0_2.jump), (nV x0_2.on), v0_4] 61] a w) (fun c1_1 hq1_1 => ?_) ?_))))))
   ·
    refine gsd 26 rfl (fun h2_1 => ?_) fun h2_1 => ?_
    ·
     refine gct rfl (gS (gR (gF fo_61_3 rfl (gL hm 0 isAgg3 rfl (gB rfl (gE (gsd 30 rfl (fun h2_2 => ?_) fun h2_2 => ?_)))))))
     ·
      exact gct rfl (gS (gR (gA rfl (gE (gRt (gEr hq1_1 (gEr hq0_1 (gr1 results112 rfl ⟨rfl, hm.below⟩))))))))
     exact gcf rfl (gSk (gZe fun a hf => ⟨(by first | omega | (dsimp only; omega)), (by first | omega | (dsimp only; omega)), (by first | omega | (dsimp only; omega)), (by first | omega | (dsimp only; omega)), hf.sb rfl, hm.pk [2, 1, 0] rfl rfl⟩))
    refine gcf rfl (gS (gR (gB rfl (gA rfl (gE (gJge (fun s2_1 a w => 0 ≤ x0_2.jump ∧ x0_2.jump ≤ 3 ∧ 0 ≤ s2_1 ∧ s2_1 ≤ 2 ∧ St 136 [(1, (nV k_)), (2, (nV b_)), (3, (pV b0_1)), (7, (pV b0_3)), (8, (pV b0_5)), (9, (nV s2_1))] w0 (hp w0) [blk b0_1 [(sV b0_2 o0_1 u.codes.length c0_1)] 40, blk b0_3 [(nV x0_1.params), (nV x0_1.regs), (sV b0_4 o0_2 x0_1.blocks.length c0_2)] 55, blk b0_5 [v0_2, v0_3, (nV x0_2.jump), (nV x0_2.on), v0_4] 61] a w) (fun c2_1 hq2_1 => ?_) ?_))))))
    ·
     refine gsd 31 rfl (fun h3_1 => ?_) fun h3_1 => ?_
     ·
      exact gct rfl (gR (gA rfl (gE (gZe fun a hf => ⟨(by first | omega | (dsimp only; omega)), (by first | omega | (dsimp only; omega)), (by first | omega | (dsimp only; omega)), (by first | omega | (dsimp only; omega)), hf.sb rfl, hm.pk [2, 1, 0] rfl rfl⟩))))
     refine gcf rfl (gS (gR (gB rfl (gA rfl (gE (gsd 33 rfl (fun h3_2 => ?_) fun h3_2 => ?_))))))
     ·
      exact gct rfl (gR (gA rfl (gE (gZe fun a hf => ⟨(by first | omega | (dsimp only; omega)), (by first | omega | (dsimp only; omega)), (by first | omega | (dsimp only; omega)), (by first | omega | (dsimp only; omega)), hf.sb rfl, hm.pk [2, 1, 0] rfl rfl⟩))))
     exact gcf rfl (gS (gR (gA rfl (gE (gRt (gEr hq2_1 (gEr hq1_1 (gEr hq0_1 (gr1 results112 rfl ⟨rfl, hm.below⟩)))))))))
    repeat clear hm
    rintro s2_1 a w ⟨hn2_1, hn2_2, hn2_3, hn2_4, hf, hm⟩
    exact gv hf (gZe fun a hf => ⟨(by first | omega | (dsimp only; omega)), (by first | omega | (dsimp only; omega)), (by first | omega | (dsimp only; omega)), (by first | omega | (dsimp only; omega)), hf.sb rfl, hm.pk [0, 1, 2] rfl rfl⟩)
   repeat clear hm
   rintro s1_1 a w ⟨hn1_1, hn1_2, hn1_3, hn1_4, hf, hm⟩
   exact gv hf (gZe fun a hf => ⟨(by first | omega | (dsimp only; omega)), (by first | omega | (dsimp only; omega)), (by first | omega | (dsimp only; omega)), (by first | omega | (dsimp only; omega)), hf.sb rfl, hm.pk [0, 1, 2] rfl rfl⟩)
  repeat clear hm
  rintro s0_1 a w ⟨hn0_1, hn0_2, hn0_3, hn0_4, hf, hm⟩
  refine gv hf (gS (gS (gJg (fun s0_2 a w => 0 ≤ x0_2.jump ∧ x0_2.jump ≤ 3 ∧ St 136 [(1, (nV k_)), (2, (nV b_)), (3, (pV b0_1)), (7, (pV b0_3)), (8, (pV b0_5)), (53, (.bool (s0_2)))] w0 (hp w0) [blk b0_1 [(sV b0_2 o0_1 u.codes.length c0_1)] 40, blk b0_3 [(nV x0_1.params), (nV x0_1.regs), (sV b0_4 o0_2 x0_1.blocks.length c0_2)] 55, blk b0_5 [v0_2, v0_3, (nV x0_2.jump), (nV x0_2.on), v0_4] 61] a w) (fun s0_2 => ?_) ?_)))
  ·
   refine gR (gF fo_61_4 rfl (gL hm 2 isAgg26 rfl ?_))
   obtain ⟨p1_1, c1_2, rfl, hl1_1⟩ := ro_slice h0_6
   refine gY (yV st_26 rfl) (gM rfl (gB rfl (gM rfl (gsd 40 rfl (fun h1_1 => ?_) fun h1_1 => ?_))))
   ·
    exact gO rfl (gO rfl (gO rfl (gO rfl (gO rfl (gO rfl (gO rfl (gO rfl (gO rfl (gO rfl (gO rfl (gO rfl (gKt rfl (gE (gZ fun a hf => ⟨(by first | omega | (dsimp only; omega)), (by first | omega | (dsimp only; omega)), hf.sb rfl, hm.pk [0, 1, 2] rfl rfl⟩))))))))))))))
   refine gF fo_61_2 rfl (gL hm 2 isAgg3 rfl (gB rfl (gM rfl (gsd 44 rfl (fun h1_2 => ?_) fun h1_2 => ?_))))
   ·
    exact gF fo_61_3 rfl (gL hm 2 isAgg3 rfl (gF fo_55_1 rfl (gL hm 1 isAgg3 rfl (gB rfl (gC hm rfl call56 (spec_l1In_ok _ x0_2.on 0 (w64 (x0_1.regs - 1))) fun r1_1 hx1_1 w hm => gN rfl (gKt rfl (gKf rfl (gE (gZ fun a hf => ⟨(by first | omega | (dsimp only; omega)), (by first | omega | (dsimp only; omega)), hf.sb rfl, hm.pk [0, 1, 2] rfl rfl⟩)))))))))
   exact gO rfl (gO rfl (gO rfl (gO rfl (gO rfl (gO rfl (gO rfl (gKf rfl (gKf rfl (gE (gZ fun a hf => ⟨(by first | omega | (dsimp only; omega)), (by first | omega | (dsimp only; omega)), hf.sb rfl, hm.pk [0, 1, 2] rfl rfl⟩))))))))))
  repeat clear hm
  rintro s0_2 a w ⟨hn0_5, hn0_6, hf, hm⟩
  refine gv hf (gs 53 rfl (fun h0_7 => ?_) fun h0_7 => ?_)
  ·
   exact gct rfl (gS (gR (gA rfl (gE (gRt (gr1 results112 rfl ⟨rfl, hm.below⟩))))))
  refine gcf rfl (gSk (gS (gS (gR (gA rfl (gE (gBk (gNf hm (fun i1_1 xs1_1 => [(1, (nV k_)), (2, (nV b_)), (3, (pV b0_1)), (7, (pV b0_3)), (8, (pV b0_5)), (10, (nV i1_1))]) (fun i1_1 xs1_1 => [blk b0_1 [(sV b0_2 o0_1 u.codes.length c0_1)] 40, blk b0_3 [(nV x0_1.params), (nV x0_1.regs), (sV b0_4 o0_2 x0_1.blocks.length c0_2)] 55, blk b0_5 [v0_2, v0_3, (nV x0_2.jump), (nV x0_2.on), v0_4] 61]) [0, 1, 2] rfl ?_ ?_))))))))
  ·
   repeat clear hm
   intro r0_1 hq0_3 i1_1 xs1_1 w hm hi0_1 hi0_2 q0_1 ho0_1
   refine gS (gS (gR (gM rfl (gF fo_61_4 rfl (gL hm 2 isAgg26 rfl ?_)))))
   obtain ⟨p1_2, c1_3, rfl, hl1_2⟩ := ro_slice h0_6
   refine gY (yV st_26 rfl) (gB rfl (gE (go _ 58 rfl (decide_eq_true (by omega)) (gct rfl (gSk (gS (gBk (gS (gW (.p 0 (.p 2 (.p 5 (.q 1 (.p 3 (.q 4 (.e 6 (.p 7 (.p 8 (.e 9 (.p 10 .fin) .nil))) .nil))))))) [6] [0, 2, 3, 5, 7, 8, 10] hm [0, 1, 2] [blk b0_1 [(sV b0_2 o0_1 u.codes.length c0_1)] 40, blk b0_3 [(nV x0_1.params), (nV x0_1.regs), (sV b0_4 o0_2 x0_1.blocks.length c0_2)] 55, blk b0_5 [v0_2, v0_3, (nV x0_2.jump), (nV x0_2.on), (.slice p1_2 x0_2.next_.length c1_3)] 61] rfl mxo (by kernel_rfl) (fun _ _ _ h => h.2) fun w hm hS => tP rfl (fun w => yF fo_61_4 rfl) (tP rfl (fun w => yM rfl) (tP rfl (fun w => yF fo_55_2 rfl) (tQ rfl hS (fun w hm => yL hm 2 isAgg26 rfl) (gg fun x1_1 h1_3 hx1_3 => ?_)))))))))))))
   obtain ⟨b1_1, o1_1, c1_4, he⟩ := idx_form h0_6 hx1_3
   simp only [Value.slice.injEq, Option.some.injEq] at he; obtain ⟨rfl, _, rfl⟩ := he
   refine tP rfl (fun w => yI st_26 h1_3 (idx_lt hx1_3) rfl) (tQ rfl hS (fun w hm => yl isAgg3 ((flat_cells (cs := [(nV x1_1)]) (hm.now h0_6) hx1_3 rfl).cell (j := 0) rfl) rfl) (tO (tY rfl (yL hm 1 isAgg53 rfl) (tAs hS ?_))))
   have hl1_3 := rep_len h0_2
   refine tP rfl (fun w => yV st_53 rfl) (tP rfl (fun w => yS (by omega) (by omega) rfl) (tO (gb fun r1_2 hx1_4 => tf rfl rfl (fun a hf => e_call hf rfl call56 rfl (spec_l1In_ok _ x1_1 1 (((x0_1.blocks.length : Int)) - 1) _ hx1_4)) ?_)))
   rintro v1_2 w ⟨rfl, hB⟩
   replace hm := hm.below' hB; clear hB
   refine tAn rfl (tP rfl (fun w => yN rfl) (tE (gsn 71 rfl (fun h1_4 => ?_) fun h1_4 => ?_)))
   ·
    exact gct rfl (gS (gR (gA rfl (gE (gRt (gLr ho0_1 hq0_3 (gr1 results112 rfl ⟨rfl, hm.below⟩)))))))
   exact gcf rfl (gSk (gR (gM rfl (gP (by omega) (by omega) rfl (gA rfl (gE (gze hm [0, 1, 2] rfl)))))))
  repeat clear hm
  intro i0_1 xs0_1 w hm hi0_3 hi0_4
  refine gS (gS (gR (gM rfl (gF fo_61_4 rfl (gL hm 2 isAgg26 rfl ?_)))))
  obtain ⟨p0_1, c0_4, rfl, hl0_1⟩ := ro_slice h0_6
  refine gY (yV st_26 rfl) (gB rfl (gE (go _ 58 rfl (decide_eq_false (by omega)) (gcf rfl (gXt (gHh (gS (gS (gR (gA rfl (gE (gBk (gNf hm (fun i1_2 xs1_2 => [(1, (nV k_)), (2, (nV b_)), (3, (pV b0_1)), (7, (pV b0_3)), (8, (pV b0_5)), (11, (nV i1_2))]) (fun i1_2 xs1_2 => [blk b0_1 [(sV b0_2 o0_1 u.codes.length c0_1)] 40, blk b0_3 [(nV x0_1.params), (nV x0_1.regs), (sV b0_4 o0_2 x0_1.blocks.length c0_2)] 55, blk b0_5 [v0_2, v0_3, (nV x0_2.jump), (nV x0_2.on), (.slice p0_1 x0_2.next_.length c0_4)] 61]) [0, 1, 2] rfl ?_ ?_)))))))))))))
  ·
   repeat clear hm
   intro r0_2 hq0_4 i1_2 xs1_2 w hm hi0_5 hi0_6 q0_2 ho0_2
   refine gS (gS (gR (gM rfl (gF fo_61_1 rfl (gL hm 2 isAgg58 rfl ?_)))))
   obtain ⟨p1_3, c1_5, rfl, hl1_4⟩ := ro_slice h0_5
   refine gY (yV st_58 rfl) (gB rfl (gE (go _ 76 rfl (decide_eq_true (by omega)) (gct rfl (gSk (gS (gBk (gS (gW (.p 1 (.p 2 (.p 4 (.q 0 (.e 3 (.p 5 (.e 6 (.e 7 (.p 8 .fin) .nil) .nil)) .nil))))) [3, 6] [1, 2, 4, 5, 8] hm [0, 1, 2] [blk b0_1 [(sV b0_2 o0_1 u.codes.length c0_1)] 40, blk b0_3 [(nV x0_1.params), (nV x0_1.regs), (sV b0_4 o0_2 x0_1.blocks.length c0_2)] 55, blk b0_5 [v0_2, (.slice p1_3 x0_2.ins.length c1_5), (nV x0_2.jump), (nV x0_2.on), (.slice p0_1 x0_2.next_.length c0_4)] 61] rfl mxo (by kernel_rfl) (fun _ _ _ h => h.2) fun w hm hS => tP rfl (fun w => yM rfl) (tP rfl (fun w => yF fo_61_1 rfl) (tP rfl (fun w => yM rfl) (tQ rfl hS (fun w hm => yn (hm.blk_at 0 rfl) isAgg40 sizeOf40 rfl) (tO (tY rfl (yL hm 2 isAgg58 rfl) (tAs hS (gg fun x1_2 h1_5 hx1_6 => ?_))))))))))))))))
   obtain ⟨b1_2, o1_2, c1_6, he⟩ := idx_form' h0_5 hx1_6
   simp only [Value.slice.injEq, Option.some.injEq] at he; obtain ⟨rfl, _, rfl⟩ := he
   obtain ⟨_, _, hc1_1, hr1_1⟩ := ro_get' h0_5 hx1_6
   obtain ⟨_, _, rfl, rfl, _, _, rfl, rfl, _, _, rfl, h1_6, rfl⟩ := hr1_1
   obtain ⟨v1_3, rfl, -⟩ := id h1_6
   replace h1_6 : GT.rep (hp w0) [v1_3] x1_2.args := h1_6
   replace hc1_1 : CellsAt (hp w0) b1_2 (o1_2 + (i1_2).toNat * 4) [(nV x1_2.op), (nV x1_2.to), v1_3, (nV x1_2.n_)] := hc1_1
   refine tP rfl (fun w => yI st_58 h1_5 (idx_lt hx1_6) rfl) (tO (tY rfl (yn (hc1_1.mono hm.lez) isAgg57 sizeOf57 rfl) (tAs hS (tO (gb fun r1_3 hx1_7 => tf rfl rfl (fun a hf => e_call hf rfl call143 rfl (spec_l7Ins_ok _ u (sV b0_2 o0_1 u.codes.length c0_1) (hm.now h1) k_ x1_2 v1_3 (hm.now h1_6) _ hx1_7)) ?_)))))
   rintro v1_4 w ⟨rfl, hB⟩
   replace hm := hm.below' hB; clear hB
   refine tAn rfl (tP rfl (fun w => yN rfl) (tE (gsn 87 rfl (fun h1_7 => ?_) fun h1_7 => ?_)))
   ·
    exact gct rfl (gS (gR (gA rfl (gE (gRt (gLr ho0_2 hq0_4 (gr1 results112 rfl ⟨rfl, hm.below⟩)))))))
   exact gcf rfl (gSk (gR (gM rfl (gP (by omega) (by omega) rfl (gA rfl (gE (gze hm [0, 1, 2] rfl)))))))
  repeat clear hm
  intro i0_2 xs0_2 w hm hi0_7 hi0_8
  refine gS (gS (gR (gM rfl (gF fo_61_1 rfl (gL hm 2 isAgg58 rfl ?_)))))
  obtain ⟨p0_2, c0_5, rfl, hl0_2⟩ := ro_slice h0_5
  refine gY (yV st_58 rfl) (gB rfl (gE (go _ 76 rfl (decide_eq_false (by omega)) (gcf rfl (gXt (gHh (gS (gR (gY (yn (hm.blk_at 1 rfl) isAgg55 sizeOf55 rfl) (gM rfl (gCg rfl call78 (spec_l7Preds_ok _ x0_1 (sV b0_4 o0_2 x0_1.blocks.length c0_2) (hm.now h0_2) b_) ?_)))))))))))
  rintro r0_3 hx0_5 v0_5 w ⟨_, rfl, hB⟩
  replace hm := hm.give hB; clear hB
  refine gA rfl (gE (gS (gS (gR (gA rfl (gE ?_))))))
  obtain ⟨p0_3, c0_6, rfl, hl0_3⟩ := ro_slice (hm.ow_rep 0 rfl)
  refine gBk (gNf hm (fun i1_3 xs1_3 => [(2, (nV b_)), (7, (pV b0_3)), (8, (pV b0_5)), (12, (.slice p0_3 r0_3.length c0_6)), (13, (nV i1_3))]) (fun i1_3 xs1_3 => [blk b0_3 [(nV x0_1.params), (nV x0_1.regs), (sV b0_4 o0_2 x0_1.blocks.length c0_2)] 55, blk b0_5 [v0_2, (.slice p0_2 x0_2.ins.length c0_5), (nV x0_2.jump), (nV x0_2.on), (.slice p0_1 x0_2.next_.length c0_4)] 61, ow [(.slice p0_3 r0_3.length c0_6)] r0_3]) [2, 3, 0] rfl ?_ ?_)
  ·
   repeat clear hm
   intro r0_4 hq0_5 i1_3 xs1_3 w hm hi0_9 hi0_10 q0_3 ho0_4
   refine gS (gS (gR (gM rfl (gF fo_61_0 rfl (gL hm 1 isAgg59 rfl ?_)))))
   obtain ⟨p1_4, c1_7, rfl, hl1_5⟩ := ro_slice h0_4
   refine gY (yV st_59 rfl) (gB rfl (gE (go _ 95 rfl (decide_eq_true (by omega)) (gct rfl (gSk (gS (gBk (gS (gJ hm (fun s1_2 => [(2, (nV b_)), (7, (pV b0_3)), (8, (pV b0_5)), (12, (.slice p0_3 r0_3.length c0_6)), (13, (nV i1_3)), (135, (.bool (s1_2)))]) (fun s1_2 => [blk b0_3 [(nV x0_1.params), (nV x0_1.regs), (sV b0_4 o0_2 x0_1.blocks.length c0_2)] 55, blk b0_5 [(.slice p1_4 x0_2.phis.length c1_7), (.slice p0_2 x0_2.ins.length c0_5), (nV x0_2.jump), (nV x0_2.on), (.slice p0_1 x0_2.next_.length c0_4)] 61, ow [(.slice p0_3 r0_3.length c0_6)] r0_3]) (fun s1_2 => ?_) ?_)))))))))
   ·
    refine gW (.p 0 (.p 1 (.p 2 (.p 3 (.p 5 (.p 10 (.p 11 (.e 4 (.p 6 (.p 7 (.e 8 (.p 9 (.p 12 (.p 13 (.p 14 (.p 16 (.p 18 (.q 15 (.e 17 (.p 19 (.p 20 (.e 21 (.e 22 (.p 23 (.p 24 (.p 25 (.p 26 (.p 28 (.p 32 (.q 27 (.p 29 (.p 30 (.q 31 (.e 33 (.p 34 (.e 35 (.p 36 (.p 37 .fin)) .nil)) .nil))))))))))) .nil) .nil))) .nil)))))))) .nil))) .nil)))))))) [17, 21, 33] [0, 1, 2, 3, 5, 6, 7, 9, 10, 11, 12, 13, 14, 16, 18, 19, 20, 23, 24, 25, 26, 28, 29, 30, 32, 34, 36, 37] hm [0, 1, 2] [blk b0_3 [(nV x0_1.params), (nV x0_1.regs), (sV b0_4 o0_2 x0_1.blocks.length c0_2)] 55, blk b0_5 [(.slice p1_4 x0_2.phis.length c1_7), (.slice p0_2 x0_2.ins.length c0_5), (nV x0_2.jump), (nV x0_2.on), (.slice p0_1 x0_2.next_.length c0_4)] 61, ow [(.slice p0_3 r0_3.length c0_6)] r0_3] rfl mxo (by kernel_rfl) (fun _ _ _ h => h.2) fun w hm hS => tP rfl (fun w => yM rfl) (tP rfl (fun w => yB rfl) (tP rfl (fun w => yM rfl) (gsd 100 rfl (fun h2_3 => ?_) fun h2_3 => ?_)))
    ·
     refine tPo rfl rfl (tPo rfl rfl (tPo rfl rfl (tPo rfl rfl (tO (tEo rfl rfl (tAn rfl (tPo rfl rfl (tPo rfl rfl (tO (tEo rfl rfl (tAn rfl (tPo rfl rfl (tPo rfl rfl (tP rfl (fun w => yKt rfl) (tP rfl (fun w => yM rfl) (tPo rfl rfl (tPo rfl rfl (tQo rfl hS rfl (tO (tEo rfl rfl (tAs hS (tPo rfl rfl (tPo rfl rfl (tO (tEo rfl rfl (tAs hS (tO (tEo rfl rfl (tAn rfl (tPo rfl rfl ?_))))))))))))))))))))))))))))))
     exact tP rfl (fun w => yKt rfl) (tP rfl (fun w => yM rfl) (tPo rfl rfl (tPo rfl rfl (tPo rfl rfl (tQo rfl hS rfl (tPo rfl rfl (tPo rfl rfl (tQo rfl hS rfl (tO (tEo rfl rfl (tAs hS (tPo rfl rfl (tO (tEo rfl rfl (tAn rfl (tPo rfl rfl (tP rfl (fun w => yKt rfl) (tE (gz hm [0, 1, 2] rfl)))))))))))))))))))
    refine tP rfl (fun w => yF fo_61_0 rfl) (tP rfl (fun w => yM rfl) (tP rfl (fun w => yM rfl) (tP rfl (fun w => yV st_26 rfl) (tO (tY rfl (yL hm 1 isAgg59 rfl) (tAn rfl (gg fun x2_1 h2_4 hx2_2 => ?_)))))))
    obtain ⟨b2_1, o2_1, c2_2, he⟩ := idx_form' h0_4 hx2_2
    simp only [Value.slice.injEq, Option.some.injEq] at he; obtain ⟨rfl, _, rfl⟩ := he
    obtain ⟨_, _, hc2_1, hr2_1⟩ := ro_get' h0_4 hx2_2
    obtain ⟨_, _, rfl, rfl, h2_5⟩ := hr2_1
    obtain ⟨v2_1, rfl, -⟩ := id h2_5
    replace h2_5 : GT.rep (hp w0) [v2_1] x2_1.args := h2_5
    replace hc2_1 : CellsAt (hp w0) b2_1 (o2_1 + (i1_3).toNat * 2) [(nV x2_1.to), v2_1] := hc2_1
    refine tP rfl (fun w => yI st_59 h2_4 (idx_lt hx2_2) rfl) (tP rfl (fun w => yF fo_127_1 rfl) (tO (tY rfl (yl isAgg26 ((hc2_1.mono hm.lez).cell (j := 1) rfl) rfl) (tAn rfl ?_))))
    obtain ⟨p2_1, c2_3, rfl, hl2_1⟩ := ro_slice h2_5
    refine tP rfl (fun w => yV st_26 rfl) (tP rfl (fun w => yB rfl) (tP rfl (fun w => yKf rfl) (tP rfl (fun w => yM rfl) (gsd 112 rfl (fun h2_6 => ?_) fun h2_6 => ?_))))
    ·
     refine tPo rfl rfl (tPo rfl rfl (tQo rfl hS rfl (tO (tEo rfl rfl (tAs hS (tPo rfl rfl (tPo rfl rfl (tO (tEo rfl rfl (tAs hS (tO (tEo rfl rfl (tAn rfl (tPo rfl rfl (tP rfl (fun w => yKt rfl) (tP rfl (fun w => yM rfl) (tPo rfl rfl (tPo rfl rfl (tPo rfl rfl (tQo rfl hS rfl (tPo rfl rfl (tPo rfl rfl (tQo rfl hS rfl (tO (tEo rfl rfl (tAs hS (tPo rfl rfl (tO (tEo rfl rfl (tAn rfl ?_))))))))))))))))))))))))))))))
     exact tPo rfl rfl (tP rfl (fun w => yKt rfl) (tE (gz hm [0, 1, 2] rfl)))
    refine tP rfl (fun w => yF fo_61_0 rfl) (tP rfl (fun w => yM rfl) (tQ rfl hS (fun w hm => yn (hm.blk_at 0 rfl) isAgg55 sizeOf55 rfl) (tO (tY rfl (yL hm 1 isAgg59 rfl) (tAs hS (tP rfl (fun w => yI st_59 h2_4 (idx_lt hx2_2) rfl) (tP rfl (fun w => yF fo_127_1 rfl) (tO (tY rfl (yl isAgg26 ((hc2_1.mono hm.lez).cell (j := 1) rfl) rfl) (tAs hS (tO (gb fun r2_1 hx2_3 => tf rfl rfl (fun a hf => e_call hf rfl call144 rfl (spec_l7Regs_ok _ x0_1 (sV b0_4 o0_2 x0_1.blocks.length c0_2) (hm.now h0_2) x2_1.args (.slice p2_1 x2_1.args.length c2_3) (hm.now h2_5) _ hx2_3)) ?_))))))))))))
    rintro v2_2 w ⟨rfl, hB⟩
    replace hm := hm.below' hB; clear hB
    refine tAk hm [0, 1, 2] rfl fun hS => tP rfl (fun w => yN rfl) (tP rfl (fun w => yKf rfl) (tP rfl (fun w => yM rfl) (gsn 123 rfl (fun h2_7 => ?_) fun h2_7 => ?_)))
    ·
     exact tPo rfl rfl (tPo rfl rfl (tPo rfl rfl (tQo rfl hS rfl (tPo rfl rfl (tPo rfl rfl (tQo rfl hS rfl (tO (tEo rfl rfl (tAs hS (tPo rfl rfl (tO (tEo rfl rfl (tAn rfl (tPo rfl rfl (tP rfl (fun w => yKt rfl) (tE (gz hm [0, 1, 2] rfl)))))))))))))))))
    refine tP rfl (fun w => yF fo_61_0 rfl) (tP rfl (fun w => yM rfl) (tP rfl (fun w => yF fo_55_1 rfl) (tQ rfl hS (fun w hm => yL hm 1 isAgg59 rfl) (tP rfl (fun w => yI st_59 h2_4 (idx_lt hx2_2) rfl) (tP rfl (fun w => yF fo_127_0 rfl) (tQ rfl hS (fun w hm => yl isAgg3 ((hc2_1.mono hm.lez).cell (j := 0) rfl) rfl) (tO (tY rfl (yL hm 0 isAgg3 rfl) (tAs hS (tP rfl (fun w => yB rfl) (tO (gb fun r2_2 hx2_4 => tf rfl rfl (fun a hf => e_call hf rfl call56 rfl (spec_l1In_ok _ x2_1.to 0 (w64 (x0_1.regs - 1)) _ hx2_4)) ?_))))))))))))
    rintro v2_3 w ⟨rfl, hB⟩
    replace hm := hm.below' hB; clear hB
    exact tAn rfl (tP rfl (fun w => yN rfl) (tP rfl (fun w => yKf rfl) (tE (gz hm [0, 1, 2] rfl))))
   repeat clear hm
   intro s1_2 w hm
   refine gs 135 rfl (fun h1_8 => ?_) fun h1_8 => ?_
   ·
    exact gct rfl (gS (gR (gA rfl (gE (gRt (gLr ho0_4 hq0_5 (gr1 results112 rfl ⟨rfl, hm.below⟩)))))))
   exact gcf rfl (gSk (gR (gM rfl (gP (by omega) (by omega) rfl (gA rfl (gE (gze hm [0, 1, 2] rfl)))))))
  repeat clear hm
  intro i0_3 xs0_3 w hm hi0_11 hi0_12
  refine gS (gS (gR (gM rfl (gF fo_61_0 rfl (gL hm 1 isAgg59 rfl ?_)))))
  obtain ⟨p0_4, c0_7, rfl, hl0_4⟩ := ro_slice h0_4
  exact gY (yV st_59 rfl) (gB rfl (gE (go _ 95 rfl (decide_eq_false (by omega)) (gcf rfl (gXt (gHh (gS (gR (gA rfl (gE (gRt (gr1 results112 rfl ⟨rfl, hm.below⟩))))))))))))

theorem spec_UnitValid_ok (w0 : World) (u : Unit_) (v1 : Value) (h1 : GT.rep (hp w0) [v1] u.codes) :
    ConM Try.prog 86 [(.agg #[v1])] w0 (spec_UnitValid u) fun r v w' => v = (.bool (r)) ∧ Below w0.heap.size w0 w' := by
  unfold spec_UnitValid
  refine gcon func86 rfl fun r => ?_
  have hm := Mem.start w0
  refine gS (gR (gBx hm rfl fun b0_1 w hm => gA rfl (gE (gS (gS (gR (gF fo_40_0 rfl (gL hm 0 isAgg38 rfl ?_))))))))
  obtain ⟨p0_1, c0_1, rfl, hl0_1⟩ := ro_slice h1
  refine gY (yV st_38 rfl) (gC hm rfl call56 (spec_l1In_ok _ (u.codes.length : Int) 1 4) fun r0_1 hx0_1 w hm => gN rfl (gE (gsn 11 rfl (fun h0_1 => ?_) fun h0_1 => ?_)))
  ·
   exact gct rfl (gS (gR (gA rfl (gE (gRt (gr1 results86 rfl ⟨rfl, hm.below⟩))))))
  refine gcf rfl (gSk (gS (gR (gA rfl (gE (gS (gS (gR (gA rfl (gE (gBk (gNf hm (fun i1_1 xs1_1 => [(1, (pV b0_1)), (3, (nV xs1_1)), (4, (nV i1_1))]) (fun i1_1 xs1_1 => [blk b0_1 [(.slice p0_1 u.codes.length c0_1)] 40]) [0] rfl ?_ ?_))))))))))))
  ·
   repeat clear hm
   intro r0_2 hq0_1 i1_1 xs1_1 w hm hi0_1 hi0_2 q0_1 ho0_2
   refine gS (gS (gR (gM rfl (gF fo_40_0 rfl (gL hm 0 isAgg38 rfl (gY (yV st_38 rfl) (gB rfl (gE (go _ 16 rfl (decide_eq_true (by omega)) (gct rfl (gSk (gS (gBk (gS (gR (gF fo_40_0 rfl (gL hm 0 isAgg38 rfl (gM rfl (gg fun x1_1 h1_1 hx1_2 => ?_)))))))))))))))))))
   obtain ⟨b1_1, o1_1, c1_1, he⟩ := idx_form' h1 hx1_2
   simp only [Value.slice.injEq, Option.some.injEq] at he; obtain ⟨rfl, _, rfl⟩ := he
   obtain ⟨_, _, hc1_1, hr1_1⟩ := ro_get' h1 hx1_2
   obtain ⟨_, _, rfl, rfl, _, _, rfl, rfl, h1_2⟩ := hr1_1
   obtain ⟨v1_1, rfl, -⟩ := id h1_2
   replace h1_2 : GT.rep (hp w0) [v1_1] x1_1.blocks := h1_2
   replace hc1_1 : CellsAt (hp w0) b1_1 (o1_1 + (i1_1).toNat * 3) [(nV x1_1.params), (nV x1_1.regs), v1_1] := hc1_1
   refine gI st_38 h1_1 (idx_lt hx1_2) rfl (gY (yn (hc1_1.mono hm.lez) isAgg55 sizeOf55 rfl) (gAl hm zeroValue55 rfl fun b1_2 w hm => gSN hm 0 sizeOf55 (one_cons rfl (one_cons rfl (one_cons (rep_one h1_2) one_nil))) rfl fun w hm => gE (gS (gS (gJ hm (fun s1_1 => [(1, (pV b0_1)), (3, (nV xs1_1)), (4, (nV i1_1)), (5, (pV b1_2)), (42, (.bool (s1_1)))]) (fun s1_1 => [blk b0_1 [(sV b1_1 o1_1 u.codes.length c0_1)] 40, blk b1_2 [(nV x1_1.params), (nV x1_1.regs), v1_1] 55]) (fun s1_1 => ?_) ?_)))))
   ·
    refine gR (gF fo_55_0 rfl (gL hm 0 isAgg3 rfl (gC hm rfl call56 (spec_l1In_ok _ x1_1.params 0 3) fun r2_1 hx2_1 w hm => gN rfl (gM rfl (gsn 28 rfl (fun h2_1 => ?_) fun h2_1 => ?_)))))
    ·
     exact gO rfl (gO rfl (gO rfl (gO rfl (gO rfl (gO rfl (gKt rfl (gM rfl (gO rfl (gO rfl (gO rfl (gO rfl (gO rfl (gKt rfl (gE (gz hm [1, 0] rfl)))))))))))))))
    refine gF fo_55_1 rfl (gL hm 0 isAgg3 rfl (gF fo_55_0 rfl (gL hm 0 isAgg3 rfl (gC hm rfl call56 (spec_l1In_ok _ x1_1.regs x1_1.params 300) fun r2_2 hx2_2 w hm => gN rfl (gKf rfl (gM rfl (gsn 36 rfl (fun h2_2 => ?_) fun h2_2 => ?_)))))))
    ·
     exact gO rfl (gO rfl (gO rfl (gO rfl (gO rfl (gKt rfl (gE (gz hm [1, 0] rfl)))))))
    refine gF fo_55_2 rfl (gL hm 0 isAgg53 rfl ?_)
    obtain ⟨p2_1, c2_1, rfl, hl2_1⟩ := ro_slice h1_2
    exact gY (yV st_53 rfl) (gC hm rfl call56 (spec_l1In_ok _ (x1_1.blocks.length : Int) 1 160) fun r2_3 hx2_3 w hm => gN rfl (gKf rfl (gE (gz hm [1, 0] rfl))))
   repeat clear hm
   intro s1_1 w hm
   refine gs 42 rfl (fun h1_3 => ?_) fun h1_3 => ?_
   ·
    exact gct rfl (gS (gR (gA rfl (gE (gRt (gLr ho0_2 hq0_1 (gr1 results86 rfl ⟨rfl, hm.below⟩)))))))
   refine gcf rfl (gSk (gS (gR (gA rfl (gE (gBk (gNf hm (fun i2_1 xs2_1 => [(1, (pV b0_1)), (3, (nV xs2_1)), (4, (nV i1_1)), (5, (pV b1_2)), (6, (nV i2_1))]) (fun i2_1 xs2_1 => [blk b0_1 [(sV b1_1 o1_1 u.codes.length c0_1)] 40, blk b1_2 [(nV x1_1.params), (nV x1_1.regs), v1_1] 55]) [0, 1] rfl ?_ ?_)))))))
   ·
    repeat clear hm
    intro r1_1 hq1_2 i2_1 xs2_1 w hm hi1_1 hi1_2 q1_1 ho1_1
    refine gS (gS (gR (gM rfl (gF fo_55_2 rfl (gL hm 1 isAgg53 rfl ?_)))))
    obtain ⟨p2_2, c2_2, rfl, hl2_2⟩ := ro_slice h1_2
    refine gY (yV st_53 rfl) (gB rfl (gE (go _ 47 rfl (decide_eq_true (by omega)) (gct rfl (gSk (gS (gBk (gS (gW (.p 0 (.p 1 (.p 3 (.p 9 (.p 11 (.q 2 (.p 4 (.p 5 (.q 6 (.p 7 (.p 8 (.e 10 (.p 12 (.p 13 (.e 14 (.p 15 (.p 16 (.p 17 .fin))) .nil))) .nil)))))))))))) [10, 14] [0, 1, 3, 4, 5, 7, 8, 9, 11, 12, 13, 15, 16, 17] hm [0, 1] [blk b0_1 [(sV b1_1 o1_1 u.codes.length c0_1)] 40, blk b1_2 [(nV x1_1.params), (nV x1_1.regs), (.slice p2_2 x1_1.blocks.length c2_2)] 55] rfl mxo (by kernel_rfl) (fun _ _ _ h => h.2) fun w hm hS => tP rfl (fun w => yM rfl) (tP rfl (fun w => yF fo_55_2 rfl) (tP rfl (fun w => yM rfl) (tP rfl (fun w => yF fo_55_2 rfl) (tP rfl (fun w => yM rfl) (tQ rfl hS (fun w hm => yL hm 1 isAgg53 rfl) (gg fun x2_1 h2_3 hx2_5 => ?_)))))))))))))))
    obtain ⟨b2_1, o2_1, c2_3, he⟩ := idx_form' h1_2 hx2_5
    simp only [Value.slice.injEq, Option.some.injEq] at he; obtain ⟨rfl, _, rfl⟩ := he
    obtain ⟨_, _, hc2_1, hr2_1⟩ := ro_get' h1_2 hx2_5
    obtain ⟨_, _, rfl, h2_4, _, _, rfl, h2_5, _, _, rfl, rfl, _, _, rfl, rfl, h2_6⟩ := hr2_1
    obtain ⟨v2_4, rfl, -⟩ := id h2_4
    replace h2_4 : GT.rep (hp w0) [v2_4] x2_1.phis := h2_4
    obtain ⟨v2_5, rfl, -⟩ := id h2_5
    replace h2_5 : GT.rep (hp w0) [v2_5] x2_1.ins := h2_5
    obtain ⟨v2_6, rfl, -⟩ := id h2_6
    replace h2_6 : GT.rep (hp w0) [v2_6] x2_1.next_ := h2_6
    replace hc2_1 : CellsAt (hp w0) b2_1 (o2_1 + (i2_1).toNat * 5) [v2_4, v2_5, (nV x2_1.jump), (nV x2_1.on), v2_6] := hc2_1
    refine tP rfl (fun w => yI st_53 h2_3 (idx_lt hx2_5) rfl) (tP rfl (fun w => yF fo_61_1 rfl) (tQ rfl hS (fun w hm => yl isAgg58 ((hc2_1.mono hm.lez).cell (j := 1) rfl) rfl) ?_))
    obtain ⟨p2_3, c2_4, rfl, hl2_3⟩ := ro_slice h2_5
    refine tP rfl (fun w => yV st_58 rfl) (tP rfl (fun w => yB rfl) (tO (tY rfl (yL hm 1 isAgg53 rfl) (tAs hS (tP rfl (fun w => yI st_53 h2_3 (idx_lt hx2_5) rfl) (tP rfl (fun w => yF fo_61_0 rfl) (tO (tY rfl (yl isAgg59 ((hc2_1.mono hm.lez).cell (j := 0) rfl) rfl) (tAs hS ?_)))))))))
    obtain ⟨p2_4, c2_5, rfl, hl2_4⟩ := ro_slice h2_4
    refine tP rfl (fun w => yV st_59 rfl) (tP rfl (fun w => yB rfl) (tP rfl (fun w => yA rfl) (tE (gS (gJ hm (fun s2_1 => [(1, (pV b0_1)), (3, (nV (w64 ((w64 (xs2_1 + ((x2_1.ins.length : Int)))) + ((x2_1.phis.length : Int)))))), (4, (nV i1_1)), (5, (pV b1_2)), (6, (nV i2_1)), (75, (.bool (s2_1)))]) (fun s2_1 => [blk b0_1 [(sV b1_1 o1_1 u.codes.length c0_1)] 40, blk b1_2 [(nV x1_1.params), (nV x1_1.regs), (sV b2_1 o2_1 x1_1.blocks.length c2_2)] 55]) (fun s2_1 => ?_) ?_)))))
    ·
     refine gR (gM rfl (gB rfl (gM rfl (gsd 69 rfl (fun h3_1 => ?_) fun h3_1 => ?_))))
     ·
      exact gO rfl (gO rfl (gO rfl (gO rfl (gO rfl (gKt rfl (gE (gz hm [0, 1] rfl)))))))
     exact gY (yn (hm.blk_at 0 rfl) isAgg40 sizeOf40 rfl) (gM rfl (gM rfl (gC hm rfl call112 (spec_l7Block_ok _ u (sV b1_1 o1_1 u.codes.length c0_1) (hm.now h1) i1_1 i2_1) fun r3_1 hx3_1 w hm => gN rfl (gKf rfl (gE (gz hm [0, 1] rfl))))))
    repeat clear hm
    intro s2_1 w hm
    refine gs 75 rfl (fun h2_7 => ?_) fun h2_7 => ?_
    ·
     exact gct rfl (gS (gR (gA rfl (gE (gRt (gLr ho1_1 hq1_2 (gLr ho0_2 hq0_1 (gr1 results86 rfl ⟨rfl, hm.below⟩))))))))
    exact gcf rfl (gSk (gR (gM rfl (gP (by omega) (by omega) rfl (gA rfl (gE (gze hm [0, 1] rfl)))))))
   repeat clear hm
   intro i1_2 xs1_2 w hm hi1_3 hi1_4
   refine gS (gS (gR (gM rfl (gF fo_55_2 rfl (gL hm 1 isAgg53 rfl ?_)))))
   obtain ⟨p1_1, c1_2, rfl, hl1_1⟩ := ro_slice h1_2
   exact gY (yV st_53 rfl) (gB rfl (gE (go _ 47 rfl (decide_eq_false (by omega)) (gcf rfl (gXt (gHh (gR (gM rfl (gP (by omega) (by omega) rfl (gA rfl (gE (gze hm [0] rfl))))))))))))
  repeat clear hm
  intro i0_1 xs0_1 w hm hi0_3 hi0_4
  exact gS (gS (gR (gM rfl (gF fo_40_0 rfl (gL hm 0 isAgg38 rfl (gY (yV st_38 rfl) (gB rfl (gE (go _ 16 rfl (decide_eq_false (by omega)) (gcf rfl (gXt (gHh (gS (gR (gA rfl (gE (gRt (gr1 results86 rfl ⟨rfl, hm.below⟩))))))))))))))))))

theorem spec_l5Values_ok (w0 : World) (list : List Int) (v1 : Value) (h1 : GT.rep (hp w0) [v1] list) :
    ConM Try.prog 87 [v1] w0 (spec_l5Values list) fun r v w' => v = (.bool (r)) ∧ Below w0.heap.size w0 w' := by
  unfold spec_l5Values
  refine gcon func87 rfl fun r => ?_
  have hm := Mem.start w0
  refine gS (gR (gA rfl (gE (gS (gS (gR (gA rfl (gE (gBk (gNf hm (fun i1_1 xs1_1 => [(0, v1), (3, (nV i1_1))]) (fun i1_1 xs1_1 => []) [] rfl ?_ ?_))))))))))
  ·
   repeat clear hm
   intro r0_1 hq0_1 i1_1 xs1_1 w hm hi0_1 hi0_2 q0_1 ho0_1
   refine gS (gS (gR (gM rfl (gM rfl ?_))))
   obtain ⟨p1_1, c1_1, rfl, hl1_1⟩ := ro_slice h1
   refine gY (yV st_26 rfl) (gB rfl (gE (go _ 7 rfl (decide_eq_true (by omega)) (gct rfl (gSk (gS (gBk (gS (gR (gM rfl (gM rfl (gg fun x1_1 h1_1 hx1_2 => ?_))))))))))))
   obtain ⟨b1_1, o1_1, c1_2, he⟩ := idx_form h1 hx1_2
   simp only [Value.slice.injEq, Option.some.injEq] at he; obtain ⟨rfl, _, rfl⟩ := he
   refine gI st_26 h1_1 (idx_lt hx1_2) rfl (gY (yl isAgg3 ((flat_cells (cs := [(nV x1_1)]) (hm.now h1) hx1_2 rfl).cell (j := 0) rfl) rfl) (gC hm rfl call56 (spec_l1In_ok _ x1_1 0 255) fun r1_1 hx1_3 w hm => gN rfl (gE (gsn 15 rfl (fun h1_2 => ?_) fun h1_2 => ?_))))
   ·
    exact gct rfl (gS (gR (gA rfl (gE (gRt (gLr ho0_1 hq0_1 (gr1 results87 rfl ⟨rfl, hm.below⟩)))))))
   exact gcf rfl (gSk (gR (gM rfl (gP (by omega) (by omega) rfl (gA rfl (gE (gze hm [] rfl)))))))
  repeat clear hm
  intro i0_1 xs0_1 w hm hi0_3 hi0_4
  refine gS (gS (gR (gM rfl (gM rfl ?_))))
  obtain ⟨p0_1, c0_1, rfl, hl0_1⟩ := ro_slice h1
  exact gY (yV st_26 rfl) (gB rfl (gE (go _ 7 rfl (decide_eq_false (by omega)) (gcf rfl (gXt (gHh (gS (gR (gA rfl (gE (gRt (gr1 results87 rfl ⟨rfl, hm.below⟩))))))))))))

theorem spec_l8Fits_ok (w0 : World) (u : Unit_) (v1 : Value) (h1 : GT.rep (hp w0) [v1] u.codes) (in_ : List Int) (v2 : Value) (h2 : GT.rep (hp w0) [v2] in_) :
    ConM Try.prog 55 [(.agg #[v1]), v2] w0 (spec_l8Fits u in_) fun r v w' => v = (.bool (r)) ∧ Below w0.heap.size w0 w' := by
  unfold spec_l8Fits
  refine gcon func55 rfl fun r => ?_
  have hm := Mem.start w0
  refine gS (gR (gBx hm rfl fun b0_1 w hm => gA rfl (gE (gS (gJ hm (fun s0_1 => [(4, (.bool (s0_1)))]) (fun s0_1 => []) (fun s0_1 => ?_) ?_)))))
  ·
   refine gR (gY (yn (hm.blk_at 0 rfl) isAgg40 sizeOf40 rfl) (gC hm rfl call86 (spec_UnitValid_ok _ u v1 (hm.now h1)) fun r1_1 hx1_1 w hm => gM rfl (gs 7 rfl (fun h1_1 => ?_) fun h1_1 => ?_)))
   ·
    refine gM rfl (gC hm rfl call87 (spec_l5Values_ok _ in_ v2 (hm.now h2)) fun r1_2 hx1_2 w hm => gKt rfl (gM rfl (gs 11 rfl (fun h1_2 => ?_) fun h1_2 => ?_)))
    ·
     refine gM rfl ?_
     obtain ⟨p1_1, c1_1, rfl, hl1_1⟩ := ro_slice h2
     refine gY (yV st_26 rfl) (gF fo_40_0 rfl (gL hm 0 isAgg38 rfl (gF fo_40_0 rfl (gL hm 0 isAgg38 rfl ?_))))
     obtain ⟨p1_2, c1_2, rfl, hl1_2⟩ := ro_slice h1
     refine gY (yV st_38 rfl) (gY (yS (by omega) (by omega) rfl) (gg fun x1_1 h1_3 hx1_4 => ?_))
     obtain ⟨b1_1, o1_1, c1_3, he⟩ := idx_form' h1 hx1_4
     simp only [Value.slice.injEq, Option.some.injEq] at he; obtain ⟨rfl, _, rfl⟩ := he
     obtain ⟨_, _, hc1_1, hr1_1⟩ := ro_get' h1 hx1_4
     obtain ⟨_, _, rfl, rfl, _, _, rfl, rfl, h1_4⟩ := hr1_1
     obtain ⟨v1_3, rfl, -⟩ := id h1_4
     replace h1_4 : GT.rep (hp w0) [v1_3] x1_1.blocks := h1_4
     replace hc1_1 : CellsAt (hp w0) b1_1 (o1_1 + (((u.codes.length : Int)) - 1).toNat * 3) [(nV x1_1.params), (nV x1_1.regs), v1_3] := hc1_1
     exact gI st_38 h1_3 (idx_lt hx1_4) rfl (gF fo_55_0 rfl (gY (yl isAgg3 ((hc1_1.mono hm.lez).cell (j := 0) rfl) rfl) (gB rfl (gKt rfl (gA rfl (gE (gz hm [] rfl)))))))
    exact gO rfl (gO rfl (gO rfl (gO rfl (gO rfl (gO rfl (gO rfl (gO rfl (gO rfl (gO rfl (gO rfl (gO rfl (gKf rfl (gA rfl (gE (gz hm [] rfl)))))))))))))))
   exact gO rfl (gO rfl (gKf rfl (gM rfl (gO rfl (gO rfl (gO rfl (gO rfl (gO rfl (gO rfl (gO rfl (gO rfl (gO rfl (gO rfl (gO rfl (gO rfl (gKf rfl (gA rfl (gE (gz hm [] rfl)))))))))))))))))))
  repeat clear hm
  intro s0_1 w hm
  exact gRt (gr1 results55 rfl ⟨rfl, hm.below⟩)

theorem pspec_l8Run__stop_ok (w0 : World) (hz : Heap) (r_ : l8Run) (bp0 : Nat) (v1p : Value) (h1p : GT.rep hz [v1p] r_.u.codes) (v2p : Value) (v3p : Value) (v4p : Value) (end_ : Int) (hm0 : Mem w0 hz w0 [blk bp0 [v1p, v2p, (nV r_.out.end_), (nV r_.out.value), v3p, (nV r_.steps), (.bool (r_.over)), v4p] 101, ow [v2p] r_.out.said, ow [v3p] r_.out.cells, ow [v4p] r_.trace]) :
    ConM Try.prog 145 [(pV bp0), (nV end_)] w0 (pspec_l8Run__stop r_ end_) fun r v w' => ∃ (x2 : Value) (x3 : Value) (x4 : Value), v = (.tuple #[]) ∧ Mem w0 hz w' [blk bp0 [v1p, x2, (nV r.out.end_), (nV r.out.value), x3, (nV r.steps), (.bool (r.over)), x4] 101, ow [x2] r.out.said, ow [x3] r.out.cells, ow [x4] r.trace] := by
  unfold pspec_l8Run__stop
  refine gcon func145 rfl fun r => ?_
  have hm := hm0
  refine gS (gR (gM rfl (gY (yG rfl (y_nilptr rfl rfl)) (gF fo_101_3 rfl (gL hm 0 isAgg4 rfl (gN rfl (gE (gJ hm (fun s0_1 => []) (fun s0_1 => [blk bp0 [v1p, v2p, (nV s0_1.1), (nV r_.out.value), v3p, (nV r_.steps), (.bool (s0_1.2)), v4p] 101, ow [v2p] r_.out.said, ow [v3p] r_.out.cells, ow [v4p] r_.trace]) (fun s0_1 => ?_) ?_))))))))
  ·
   refine gsn 8 rfl (fun h1_1 => ?_) fun h1_1 => ?_
   ·
    exact gct rfl (gS (gR (gM rfl (gM rfl (gY (yG rfl (y_nilptr rfl rfl)) (gF fo_101_1 rfl (gF fo_44_1 rfl (gS1 hm 0 sizeOf3 rfl rfl fun w hm => gE (gR (gM rfl (gY (yG rfl (y_nilptr rfl rfl)) (gF fo_101_3 rfl (gS1 hm 0 sizeOf4 rfl rfl fun w hm => gE (gz hm [0, 1, 2, 3] rfl))))))))))))))
   exact gcf rfl (gSk (gz hm [0, 1, 2, 3] rfl))
  repeat clear hm
  intro s0_1 w hm
  exact gre results145 ⟨v2p, v3p, v4p, rfl, hm.pk [0, 1, 2, 3] rfl rfl⟩

theorem pspec_l8Run__take_ok (w0 : World) (hz : Heap) (r_ : l8Run) (bp0 : Nat) (v1p : Value) (h1p : GT.rep hz [v1p] r_.u.codes) (v2p : Value) (v3p : Value) (v4p : Value) (hm0 : Mem w0 hz w0 [blk bp0 [v1p, v2p, (nV r_.out.end_), (nV r_.out.value), v3p, (nV r_.steps), (.bool (r_.over)), v4p] 101, ow [v2p] r_.out.said, ow [v3p] r_.out.cells, ow [v4p] r_.trace]) :
    ConM Try.prog 113 [(pV bp0)] w0 (pspec_l8Run__take r_) fun r v w' => ∃ (x2 : Value) (x3 : Value) (x4 : Value), v = (.bool (r.1)) ∧ Mem w0 hz w' [blk bp0 [v1p, x2, (nV r.2.out.end_), (nV r.2.out.value), x3, (nV r.2.steps), (.bool (r.2.over)), x4] 101, ow [x2] r.2.out.said, ow [x3] r.2.out.cells, ow [x4] r.2.trace] := by
  unfold pspec_l8Run__take
  refine gcon func113 rfl fun r => ?_
  have hm := hm0
  refine gS (gR (gA rfl (gE (gS (gS (gR (gM rfl (gY (yG rfl (y_nilptr rfl rfl)) (gF fo_101_2 rfl (gL hm 0 isAgg3 rfl (gB rfl (gE (gJg (fun s0_1 a w => ∃ (v0_1 : Value) (v0_2 : Value) (v0_3 : Value), St 22 [(0, (pV bp0))] w0 hz [blk bp0 [v1p, v0_1, (nV s0_1.2.1), (nV s0_1.2.2.1), v0_2, (nV s0_1.2.2.2.2.1), (.bool (s0_1.2.2.2.2.2.1)), v0_3] 101, ow [v0_1] s0_1.1, ow [v0_2] s0_1.2.2.2.1, ow [v0_3] s0_1.2.2.2.2.2.2] a w) (fun s0_1 => ?_) ?_)))))))))))))
  ·
   refine gsd 7 rfl (fun h1_1 => ?_) fun h1_1 => ?_
   ·
    refine gct rfl (gR (gM rfl ?_))
    obtain ⟨hz1_1, hle, hm1, hsub, hk1_1⟩ := hm.take2 (L1 := [blk bp0 [v1p, v2p, (nV r_.out.end_), (nV r_.out.value), v3p, (nV r_.steps), (.bool (r_.over)), v4p] 101, ow [v2p] r_.out.said, ow [v3p] r_.out.cells, ow [v4p] r_.trace]) (L2 := []) [0, 1, 2, 3] [] (by decide) rfl rfl
    refine gCg rfl call145 (pspec_l8Run__stop_ok _ hz1_1 r_ bp0 v1p (GT.mono hle h1p) v2p v3p v4p 3 hm1 ) ?_
    rintro r1_1 hx1_1 v1_1 w ⟨v1_2, v1_3, v1_4, rfl, hB⟩
    replace hm := hk1_1 _ _ hB; clear hB
    exact gE (gZ fun a hf => ⟨v1_2, v1_3, v1_4, hf.sb rfl, hm.pk [0, 1, 2, 3] rfl rfl⟩)
   exact gcf rfl (gSk (gZ fun a hf => ⟨v2p, v3p, v4p, hf.sb rfl, hm.pk [0, 1, 2, 3] rfl rfl⟩))
  repeat clear hm
  rintro s0_1 a w ⟨v0_1, v0_2, v0_3, hf, hm⟩
  refine gv hf (gS (gS (gR (gM rfl (gY (yG rfl (y_nilptr rfl rfl)) (gF fo_101_3 rfl (gL hm 0 isAgg4 rfl (gE (gs 13 rfl (fun h0_1 => ?_) fun h0_1 => ?_)))))))))
  ·
   exact gct rfl (gS (gR (gA rfl (gE (gRt (gr1 results113 rfl ⟨v0_1, v0_2, v0_3, rfl, hm.pk [0, 1, 2, 3] rfl rfl⟩))))))
  exact gcf rfl (gSk (gS (gR (gM rfl (gM rfl (gY (yG rfl (y_nilptr rfl rfl)) (gF fo_101_2 rfl (gL hm 0 isAgg3 rfl (gB rfl (gY (yG rfl (y_nilptr rfl rfl)) (gF fo_101_2 rfl (gS1 hm 0 sizeOf3 rfl rfl fun w hm => gE (gS (gR (gA rfl (gE (gRt (gr1 results113 rfl ⟨v0_1, v0_2, v0_3, rfl, hm.pk [0, 1, 2, 3] rfl rfl⟩))))))))))))))))))

theorem pspec_l8Run__phis_ok (w0 : World) (hz : Heap) (r_ : l8Run) (bp0 : Nat) (v1p : Value) (h1p : GT.rep hz [v1p] r_.u.codes) (v2p : Value) (h2p : GT.rep hz [v2p] r_.out.said) (v3p : Value) (h3p : GT.rep hz [v3p] r_.out.cells) (v4p : Value) (h4p : GT.rep hz [v4p] r_.trace) (hbbp0 : hz bp0 = some (.cells ([v1p, v2p, (nV r_.out.end_), (nV r_.out.value), v3p, (nV r_.steps), (.bool (r_.over)), v4p] : List Value).toArray 101 (0, 0))) (c_ : Code_) (v1 : Value) (h1 : GT.rep hz [v1] c_.blocks) (from_ : Int) (b_ : Int) (regs : List Int) (v2 : Value) (hm0 : Mem w0 hz w0 [ow [v2] regs]) :
    ConM Try.prog 115 [(pV bp0), (.agg #[(nV c_.params), (nV c_.regs), v1]), (nV from_), (nV b_), v2] w0 (pspec_l8Run__phis r_ c_ from_ b_ regs) fun r v w' => v = (.tuple #[]) ∧ Mem w0 hz w' [ow [v2] r] := by
  unfold pspec_l8Run__phis
  refine gcon func115 rfl fun r => ?_
  have hm := hm0
  refine gS (gR (gBx hm rfl fun b0_1 w hm => gE (gS (gS (gR (gF fo_55_2 rfl (gL hm 0 isAgg53 rfl (gM rfl (gg fun x0_1 h0_1 hx0_2 => ?_)))))))))
  obtain ⟨b0_2, o0_1, c0_1, he⟩ := idx_form' h1 hx0_2
  subst he
  obtain ⟨_, _, hc0_1, hr0_1⟩ := ro_get' h1 hx0_2
  obtain ⟨_, _, rfl, h0_2, _, _, rfl, h0_3, _, _, rfl, rfl, _, _, rfl, rfl, h0_4⟩ := hr0_1
  obtain ⟨v0_1, rfl, -⟩ := id h0_2
  replace h0_2 : GT.rep hz [v0_1] x0_1.phis := h0_2
  obtain ⟨v0_2, rfl, -⟩ := id h0_3
  replace h0_3 : GT.rep hz [v0_2] x0_1.ins := h0_3
  obtain ⟨v0_3, rfl, -⟩ := id h0_4
  replace h0_4 : GT.rep hz [v0_3] x0_1.next_ := h0_4
  replace hc0_1 : CellsAt hz b0_2 (o0_1 + (b_).toNat * 5) [v0_1, v0_2, (nV x0_1.jump), (nV x0_1.on), v0_3] := hc0_1
  refine gI st_53 h0_1 (idx_lt hx0_2) rfl (gF fo_61_0 rfl (gY (yl isAgg59 ((hc0_1.mono hm.lez).cell (j := 0) rfl) rfl) ?_))
  obtain ⟨p0_1, c0_2, rfl, hl0_1⟩ := ro_slice h0_2
  refine gY (yV st_59 rfl) (gB rfl (gE (gsd 22 rfl (fun h0_5 => ?_) fun h0_5 => ?_)))
  ·
   exact gct rfl (gRt (gr0 results115 ⟨rfl, hm.pk [1] rfl rfl⟩))
  refine gcf rfl (gSk (gS (gR (gY (yn (hm.blk_at 0 rfl) isAgg55 sizeOf55 rfl) (gM rfl (gCg rfl call78 (spec_l7Preds_ok _ c_ (sV b0_2 o0_1 c_.blocks.length c0_1) (hm.now h1) b_) ?_))))))
  rintro r0_1 hx0_3 v0_4 w ⟨_, rfl, hB⟩
  replace hm := hm.give hB; clear hB
  refine gA rfl (gE (gS (gR (gA rfl (gE (gS ?_))))))
  obtain ⟨p0_2, c0_3, rfl, hl0_2⟩ := ro_slice (hm.ow_rep 2 rfl)
  obtain ⟨p0_3, c0_4, rfl, hl0_3⟩ := ro_slice (hm.ow_rep 0 rfl)
  refine gJ hm (fun s0_1 => [(3, (nV b_)), (4, (.slice p0_2 regs.length c0_3)), (6, (pV b0_1)), (11, (nV s0_1))]) (fun s0_1 => [ow [(.slice p0_2 regs.length c0_3)] regs, blk b0_1 [(nV c_.params), (nV c_.regs), (sV b0_2 o0_1 c_.blocks.length c0_1)] 55]) (fun s0_1 => ?_) ?_
  ·
   refine gBk (gMf hm (fun xs2_1 => [(2, (nV from_)), (3, (nV b_)), (4, (.slice p0_2 regs.length c0_3)), (6, (pV b0_1)), (10, (.slice p0_3 r0_1.length c0_4)), (11, (nV xs2_1))]) (fun xs2_1 => [ow [(.slice p0_2 regs.length c0_3)] regs, blk b0_1 [(nV c_.params), (nV c_.regs), (sV b0_2 o0_1 c_.blocks.length c0_1)] 55, ow [(.slice p0_3 r0_1.length c0_4)] r0_1]) [2, 1, 0] rfl ?_)
   repeat clear hm
   intro r1_1 hq1_1 xs2_1 w hm q1_1 ho1_1
   refine gS (gS (gR (gM rfl (gM rfl (gg fun x2_1 h2_1 hx2_2 => ?_)))))
   obtain ⟨b2_1, o2_1, c2_1, he⟩ := idx_form (hm.ow_rep 2 rfl) hx2_2
   simp only [Value.slice.injEq, Option.some.injEq] at he; obtain ⟨rfl, _, rfl⟩ := he
   refine gI st_26 h2_1 (idx_lt hx2_2) rfl (gY (yl isAgg3 ((flat_cells (cs := [(nV x2_1)]) (hm.ow_rep 2 rfl) hx2_2 rfl).cell (j := 0) rfl) rfl) (gM rfl (gB rfl (gE (gsd 31 rfl (fun h2_2 => ?_) fun h2_2 => ?_)))))
   ·
    exact gct rfl (gSk (gBk (gR (gM rfl (gB rfl (gA rfl (gE (gze hm [0, 1, 2] rfl))))))))
   exact gcf rfl (gXt (gHh (gLp ho1_1 hq1_1 (gz hm [0, 1] rfl))))
  repeat clear hm
  intro s0_1 w hm
  refine gS (gR (gf rfl (fun a hf => e_build0 (α := Int) et_26 hm rfl) ?_))
  rintro v0_6 w hm
  refine gA rfl (gE (gS (gS (gR (gA rfl (gE ?_))))))
  obtain ⟨p0_4, c0_5, rfl, hl0_4⟩ := ro_slice (hm.ow_rep 0 rfl)
  refine gBk (gNg (fun i1_1 xs1_1 a w => ∃ (v1_1 : Value), St 87 [(3, (nV b_)), (4, (.slice p0_2 regs.length c0_3)), (6, (pV b0_1)), (11, (nV s0_1)), (12, v1_1), (13, (nV i1_1))] w0 hz [ow [(.slice p0_2 regs.length c0_3)] regs, blk b0_1 [(nV c_.params), (nV c_.regs), (sV b0_2 o0_1 c_.blocks.length c0_1)] 55, ow [v1_1] xs1_1] a w) (fun a hf => ⟨(.slice p0_4 ([] : List Int).length c0_5), hf.sb rfl, hm.pk [1, 2, 0] rfl rfl⟩) ?_ ?_)
  ·
   repeat clear hm
   rintro _ _ i1_1 xs1_1 a w ⟨v1_1, hf, hm⟩ hi0_1 hi0_2 q0_1 _
   refine gv hf (gS (gS (gR (gM rfl (gF fo_55_2 rfl (gL hm 1 isAgg53 rfl (gM rfl (gI st_53 h0_1 (idx_lt hx0_2) rfl (gF fo_61_0 rfl (gY (yl isAgg59 ((hc0_1.mono hm.lez).cell (j := 0) rfl) rfl) (gY (yV st_59 rfl) (gB rfl (gE (go _ 43 rfl (decide_eq_true (by omega)) (gct rfl (gSk (gS (gBk (gR (gM rfl (gM rfl (gF fo_55_2 rfl (gL hm 1 isAgg53 rfl (gM rfl (gI st_53 h0_1 (idx_lt hx0_2) rfl (gF fo_61_0 rfl (gY (yl isAgg59 ((hc0_1.mono hm.lez).cell (j := 0) rfl) rfl) (gM rfl (gg fun x1_1 h1_1 hx1_2 => ?_)))))))))))))))))))))))))))))
   obtain ⟨b1_1, o1_1, c1_1, he⟩ := idx_form' h0_2 hx1_2
   simp only [Value.slice.injEq, Option.some.injEq] at he; obtain ⟨rfl, _, rfl⟩ := he
   obtain ⟨_, _, hc1_1, hr1_1⟩ := ro_get' h0_2 hx1_2
   obtain ⟨_, _, rfl, rfl, h1_2⟩ := hr1_1
   obtain ⟨v1_2, rfl, -⟩ := id h1_2
   replace h1_2 : GT.rep hz [v1_2] x1_1.args := h1_2
   replace hc1_1 : CellsAt hz b1_1 (o1_1 + (i1_1).toNat * 2) [(nV x1_1.to), v1_2] := hc1_1
   refine gI st_59 h1_1 (idx_lt hx1_2) rfl (gF fo_127_1 rfl (gY (yl isAgg26 ((hc1_1.mono hm.lez).cell (j := 1) rfl) rfl) (gM rfl (gg fun x1_2 h1_3 hx1_4 => ?_))))
   obtain ⟨b1_2, o1_2, c1_2, he⟩ := idx_form h1_2 hx1_4
   subst he
   refine gI st_26 h1_3 (idx_lt hx1_4) rfl (gY (yl isAgg3 ((flat_cells (cs := [(nV x1_2)]) (hm.now h1_2) hx1_4 rfl).cell (j := 0) rfl) rfl) (gg fun x1_3 h1_4 hx1_6 => ?_))
   obtain ⟨b1_3, o1_3, c1_3, he⟩ := idx_form (hm.ow_rep 0 rfl) hx1_6
   simp only [Value.slice.injEq, Option.some.injEq] at he; obtain ⟨rfl, _, rfl⟩ := he
   refine gI st_26 h1_4 (idx_lt hx1_6) rfl (gY (yl isAgg3 ((flat_cells (cs := [(nV x1_3)]) (hm.ow_rep 0 rfl) hx1_6 rfl).cell (j := 0) rfl) rfl) (gf rfl (fun a hf => e_build (vs := #[(0, (nV x1_3))]) (cs := [(nV x1_3)]) et_26 hf hm rfl rfl (by kernel_rfl) rfl rfl) ?_))
   rintro _ w ⟨b1_4, rfl, hm⟩
   replace hm := hm.lit (xs := ([x1_3] : List Int)) 0 rfl rfl rfl rfl
   refine gb fun ys1_1 hx1_7 => ?_
   obtain ⟨h1_5, h1_5e⟩ := appM_some.1 hx1_7
   refine gf rfl (fun a hf => e_append 3 et_26 hf hm rfl (hm.ow_rep 0 rfl) rfl rfl rfl h1_5) ?_
   rintro v1_3 w hm
   rw [h1_5e] at hm
   exact gA rfl (gE (gR (gM rfl (gP (by omega) (by omega) rfl (gA rfl (gE (gZe fun a hf => ⟨v1_3, hf.sb rfl, hm.pk [1, 2, 3] rfl rfl⟩)))))))
  repeat clear hm
  rintro i0_1 xs0_1 a w ⟨v0_7, hf, hm⟩ hi0_3 hi0_4
  refine gv hf (gS (gS (gR (gM rfl (gF fo_55_2 rfl (gL hm 1 isAgg53 rfl (gM rfl (gI st_53 h0_1 (idx_lt hx0_2) rfl (gF fo_61_0 rfl (gY (yl isAgg59 ((hc0_1.mono hm.lez).cell (j := 0) rfl) rfl) (gY (yV st_59 rfl) (gB rfl (gE (go _ 43 rfl (decide_eq_false (by omega)) (gcf rfl (gXt (gHh (gS (gR (gA rfl (gE ?_)))))))))))))))))))))
  obtain ⟨p0_5, c0_6, rfl, hl0_5⟩ := ro_slice (hm.ow_rep 2 rfl)
  refine gBk (gNf hm (fun i1_2 xs1_2 => [(3, (nV b_)), (4, (.slice p0_2 regs.length c0_3)), (6, (pV b0_1)), (12, (.slice p0_5 xs0_1.length c0_6)), (14, (nV i1_2))]) (fun i1_2 xs1_2 => [ow [(.slice p0_2 regs.length c0_3)] xs1_2, blk b0_1 [(nV c_.params), (nV c_.regs), (sV b0_2 o0_1 c_.blocks.length c0_1)] 55, ow [(.slice p0_5 xs0_1.length c0_6)] xs0_1]) [0, 1, 2] rfl ?_ ?_)
  ·
   repeat clear hm
   intro _ _ i1_2 xs1_2 w hm hi0_5 hi0_6 q0_2 _
   refine gS (gS (gR (gM rfl (gM rfl (gY (yV st_26 rfl) (gB rfl (gE (go _ 68 rfl (decide_eq_true (by omega)) (gct rfl (gSk (gS (gBk (gW (.p 0 (.p 1 (.p 3 (.p 7 (.p 11 (.p 12 (.p 13 (.q 2 (.p 4 (.p 5 (.q 6 (.p 8 (.p 9 (.q 10 (.e 14 (.p 15 (.e 16 .fin .nil)) .nil))))))))))))))) [14] [0, 1, 3, 4, 5, 7, 8, 9, 11, 12, 13, 15] hm [0, 1, 2] [ow [(.slice p0_2 regs.length c0_3)] xs1_2, blk b0_1 [(nV c_.params), (nV c_.regs), (sV b0_2 o0_1 c_.blocks.length c0_1)] 55, ow [(.slice p0_5 xs0_1.length c0_6)] xs0_1] rfl mxo (by kernel_rfl) (fun _ _ _ h => h.2) fun w hm hS => tP rfl (fun w => yM rfl) (tP rfl (fun w => yF fo_55_2 rfl) (tP rfl (fun w => yM rfl) (tP rfl (fun w => yM rfl) (tP rfl (fun w => yM rfl) (tP rfl (fun w => yM rfl) (gg fun x1_4 h1_6 hx1_9 => ?_)))))))))))))))))))
   obtain ⟨b1_5, o1_4, c1_4, he⟩ := idx_form (hm.ow_rep 2 rfl) hx1_9
   simp only [Value.slice.injEq, Option.some.injEq] at he; obtain ⟨rfl, _, rfl⟩ := he
   refine tP rfl (fun w => yI st_26 h1_6 (idx_lt hx1_9) rfl) (tQ rfl hS (fun w hm => yL hm 1 isAgg53 rfl) (tP rfl (fun w => yI st_53 h0_1 (idx_lt hx0_2) rfl) (tP rfl (fun w => yF fo_61_0 rfl) (tQ rfl hS (fun w hm => yl isAgg59 ((hc0_1.mono hm.lez).cell (j := 0) rfl) rfl) (gg fun x1_5 h1_7 hx1_11 => ?_)))))
   obtain ⟨b1_6, o1_5, c1_5, he⟩ := idx_form' h0_2 hx1_11
   simp only [Value.slice.injEq, Option.some.injEq] at he; obtain ⟨rfl, _, rfl⟩ := he
   obtain ⟨_, _, hc1_2, hr1_2⟩ := ro_get' h0_2 hx1_11
   obtain ⟨_, _, rfl, rfl, h1_8⟩ := hr1_2
   obtain ⟨v1_4, rfl, -⟩ := id h1_8
   replace h1_8 : GT.rep hz [v1_4] x1_5.args := h1_8
   replace hc1_2 : CellsAt hz b1_6 (o1_5 + (i1_2).toNat * 2) [(nV x1_5.to), v1_4] := hc1_2
   refine tP rfl (fun w => yI st_59 h1_7 (idx_lt hx1_11) rfl) (tP rfl (fun w => yF fo_127_0 rfl) (tQ rfl hS (fun w hm => yl isAgg3 ((hc1_2.mono hm.lez).cell (j := 0) rfl) rfl) (tO (tY rfl (yl isAgg3 ((flat_cells (cs := [(nV x1_4)]) (hm.ow_rep 2 rfl) hx1_9 rfl).cell (j := 0) rfl) rfl) (tAs hS (gg fun x1_6 h1_9 hx1_13 => ?_))))))
   obtain ⟨b1_7, o1_6, c1_6, he⟩ := idx_form (hm.ow_rep 0 rfl) hx1_13
   simp only [Value.slice.injEq, Option.some.injEq] at he; obtain ⟨rfl, _, rfl⟩ := he
   have hL1_1 := rep_slice_len (hm.ow_rep 0 rfl)
   refine tP rfl (fun w => yI st_26 h1_9 (idx_lt2 hx1_13 hL1_1) rfl) (tO (tf0 rfl rfl (fun a hf => e_setElem (x1 := x1_4) (j := 0) (vs := [(nV x1_4)]) 0 hf hm rfl hx1_13 rfl sizeOf3 rfl rfl rfl (one_cons rfl one_nil) rfl rfl) ?_))
   rintro _ w hm
   have hx1_14 := List.getElem?_set_self (a := x1_4) (idx_lt hx1_13)
   exact tAn rfl (tE (gR (gM rfl (gP (by omega) (by omega) rfl (gA rfl (gE (gze hm [0, 1, 2] rfl)))))))
  repeat clear hm
  intro i0_2 xs0_2 w hm hi0_7 hi0_8
  exact gS (gS (gR (gM rfl (gM rfl (gY (yV st_26 rfl) (gB rfl (gE (go _ 68 rfl (decide_eq_false (by omega)) (gcf rfl (gXt (gHh (gre results115 ⟨rfl, hm.pk [0] rfl rfl⟩))))))))))))

theorem spec_l8Pure_ok (w0 : World) (op : Int) :
    ConM Try.prog 146 [(nV op)] w0 (spec_l8Pure op) fun r v w' => v = (.bool (r)) ∧ Below w0.heap.size w0 w' := by
  unfold spec_l8Pure
  refine gcon func146 rfl fun r => ?_
  have hm := Mem.start w0
  exact gS (gR (gA rfl (gE (gS (gR (gM rfl (gC hm rfl call56 (spec_l1In_ok _ op 1 10) fun r0_1 hx0_1 w hm => gA rfl (gE (gRt (gr1 results146 rfl ⟨rfl, hm.below⟩))))))))))

theorem spec_l5Truth_ok (w0 : World) (is : Bool) :
    ConM Try.prog 172 [(.bool (is))] w0 (spec_l5Truth is) fun r v w' => v = (nV r) ∧ Below w0.heap.size w0 w' := by
  unfold spec_l5Truth
  refine gcon func172 rfl fun r => ?_
  have hm := Mem.start w0
  refine gS (gR (gA rfl (gE (gS (gS (gR (gM rfl (gE (gs 3 rfl (fun h0_1 => ?_) fun h0_1 => ?_)))))))))
  ·
   exact gct rfl (gS (gR (gA rfl (gE (gRt (gr1 results172 rfl ⟨rfl, hm.below⟩))))))
  exact gcf rfl (gSk (gS (gR (gA rfl (gE (gRt (gr1 results172 rfl ⟨rfl, hm.below⟩)))))))

theorem spec_l5Two_ok (w0 : World) (op : Int) (a_ : Int) (b_ : Int) :
    ConM Try.prog 173 [(nV op), (nV a_), (nV b_)] w0 (spec_l5Two op a_ b_) fun r v w' => v = (.tuple #[(nV r.1), (nV r.2)]) ∧ Below w0.heap.size w0 w' := by
  unfold spec_l5Two
  refine gcon func173 rfl fun r => ?_
  have hm := Mem.start w0
  refine gS (gR (gA rfl (gA rfl (gE (gS (gS (gR (gM rfl (gE (gBk (gS (gR (gB rfl (gA rfl (gE (gsd 9 rfl (fun h0_1 => ?_) fun h0_1 => ?_))))))))))))))))
  ·
   exact gct rfl (gS (gR (gM rfl (gM rfl (gB rfl (gY (yG rfl (y_rem rfl rfl rfl (by decide))) (gA rfl (gA rfl (gE (gRt (gr2 results173 rfl ⟨rfl, hm.below⟩)))))))))))
  refine gcf rfl (gS (gR (gB rfl (gA rfl (gE (gsd 15 rfl (fun h0_2 => ?_) fun h0_2 => ?_))))))
  ·
   exact gct rfl (gS (gR (gM rfl (gM rfl (gB rfl (gB rfl (gY (yG rfl (y_rem rfl rfl rfl (by decide))) (gA rfl (gA rfl (gE (gRt (gr2 results173 rfl ⟨rfl, hm.below⟩))))))))))))
  refine gcf rfl (gS (gR (gB rfl (gA rfl (gE (gsd 22 rfl (fun h0_3 => ?_) fun h0_3 => ?_))))))
  ·
   exact gct rfl (gS (gR (gM rfl (gM rfl (gB rfl (gY (yG rfl (y_rem rfl rfl rfl (by decide))) (gA rfl (gA rfl (gE (gRt (gr2 results173 rfl ⟨rfl, hm.below⟩)))))))))))
  refine gcf rfl (gS (gR (gB rfl (gA rfl (gE (gsd 28 rfl (fun h0_4 => ?_) fun h0_4 => ?_))))))
  ·
   exact gct rfl (gS (gR (gM rfl (gM rfl (gB rfl (gC hm rfl call172 (spec_l5Truth_ok _ (decide (a_ < b_))) fun r0_1 hx0_1 w hm => gA rfl (gA rfl (gE (gRt (gr2 results173 rfl ⟨rfl, hm.below⟩))))))))))
  refine gcf rfl (gS (gR (gB rfl (gA rfl (gE (gsd 34 rfl (fun h0_5 => ?_) fun h0_5 => ?_))))))
  ·
   exact gct rfl (gS (gR (gM rfl (gM rfl (gB rfl (gC hm rfl call172 (spec_l5Truth_ok _ (decide (a_ = b_))) fun r0_2 hx0_2 w hm => gA rfl (gA rfl (gE (gRt (gr2 results173 rfl ⟨rfl, hm.below⟩))))))))))
  refine gcf rfl (gSk (gS (gS (gR (gM rfl (gB rfl (gE (gsd 41 rfl (fun h0_6 => ?_) fun h0_6 => ?_))))))))
  ·
   exact gct rfl (gS (gR (gA rfl (gA rfl (gE (gRt (gr2 results173 rfl ⟨rfl, hm.below⟩)))))))
  refine gcf rfl (gSk (gS (gS (gR (gM rfl (gB rfl (gE (gsd 43 rfl (fun h0_7 => ?_) fun h0_7 => ?_))))))))
  ·
   refine gct rfl (gS (gR (gM rfl (gM rfl (gb fun q0_1 hx0_3 => ?_)))))
   obtain ⟨h0_8, rfl⟩ := quoM_some.1 hx0_3
   exact gY (yG rfl (y_quo rfl rfl rfl h0_8)) (gA rfl (gA rfl (gE (gRt (gr2 results173 rfl ⟨rfl, hm.below⟩)))))
  refine gcf rfl (gSk (gS (gR (gM rfl (gM rfl (gb fun q0_2 hx0_4 => ?_))))))
  obtain ⟨h0_9, rfl⟩ := remM_some.1 hx0_4
  exact gY (yG rfl (y_rem rfl rfl rfl h0_9)) (gA rfl (gA rfl (gE (gRt (gr2 results173 rfl ⟨rfl, hm.below⟩)))))

theorem spec_l8Do_ok (w0 : World) (op : Int) (a_ : Int) (b_ : Int) :
    ConM Try.prog 147 [(nV op), (nV a_), (nV b_)] w0 (spec_l8Do op a_ b_) fun r v w' => v = (.tuple #[(nV r.1), (nV r.2)]) ∧ Below w0.heap.size w0 w' := by
  unfold spec_l8Do
  refine gcon func147 rfl fun r => ?_
  have hm := Mem.start w0
  refine gS (gR (gA rfl (gA rfl (gE (gS (gS (gR (gM rfl (gE (gBk (gS (gS (gR (gB rfl (gA rfl (gE (gJ hm (fun s0_1 => [(0, (nV op)), (1, (nV a_)), (2, (nV b_)), (8, (nV op)), (9, (.bool (s0_1)))]) (fun s0_1 => []) (fun s0_1 => ?_) ?_)))))))))))))))))
  ·
   refine gsd 9 rfl (fun h1_1 => ?_) fun h1_1 => ?_
   ·
    exact gct rfl (gSk (gz hm [] rfl))
   exact gcf rfl (gR (gB rfl (gA rfl (gE (gz hm [] rfl)))))
  repeat clear hm
  intro s0_1 w hm
  refine gs 9 rfl (fun h0_1 => ?_) fun h0_1 => ?_
  ·
   exact gct rfl (gS (gR (gM rfl (gA rfl (gA rfl (gE (gRt (gr2 results147 rfl ⟨rfl, hm.below⟩))))))))
  refine gcf rfl (gS (gR (gB rfl (gA rfl (gE (gsd 13 rfl (fun h0_2 => ?_) fun h0_2 => ?_))))))
  ·
   exact gct rfl (gS (gR (gM rfl (gB rfl (gC hm rfl call172 (spec_l5Truth_ok _ (decide (a_ = 0))) fun r0_1 hx0_1 w hm => gA rfl (gA rfl (gE (gRt (gr2 results147 rfl ⟨rfl, hm.below⟩)))))))))
  exact gcf rfl (gSk (gS (gR (gM rfl (gM rfl (gM rfl (gC hm rfl call173 (spec_l5Two_ok _ op a_ b_) fun r0_2 hx0_2 w hm => gX rfl (gX rfl (gA rfl (gA rfl (gE (gRt (gr2 results147 rfl ⟨rfl, hm.below⟩)))))))))))))

theorem pspec_l8Run__code_all : (∀ (r_ : l8Run) (k_ : Int) (in_ : List Int) (r : Int × l8Run), pspec_l8Run__code r_ k_ in_ = some r → ∀ (w0 : World) (hz : Heap) (bp0 : Nat) (v1p : Value) (h1p : GT.rep hz [v1p] r_.u.codes) (v2p : Value) (v3p : Value) (v4p : Value) (v1 : Value) (h1 : GT.rep hz [v1] in_) (hm0 : Mem w0 hz w0 [blk bp0 [v1p, v2p, (nV r_.out.end_), (nV r_.out.value), v3p, (nV r_.steps), (.bool (r_.over)), v4p] 101, ow [v2p] r_.out.said, ow [v3p] r_.out.cells, ow [v4p] r_.trace]), Con Try.prog 88 [(pV bp0), (nV k_), v1] w0 (fun v w' => ∃ (x2 : Value) (x3 : Value) (x4 : Value), v = (nV r.1) ∧ Mem w0 hz w' [blk bp0 [v1p, x2, (nV r.2.out.end_), (nV r.2.out.value), x3, (nV r.2.steps), (.bool (r.2.over)), x4] 101, ow [x2] r.2.out.said, ow [x3] r.2.out.cells, ow [x4] r.2.trace])) ∧
    (∀ (r_ : l8Run) (x_ : Ins_) (regs : List Int) (r : l8Run × (List Int)), pspec_l8Run__ins r_ x_ regs = some r → ∀ (w0 : World) (hz : Heap) (bp0 : Nat) (v1p : Value) (h1p : GT.rep hz [v1p] r_.u.codes) (v2p : Value) (v3p : Value) (v4p : Value) (v1 : Value) (h1 : GT.rep hz [v1] x_.args) (v2 : Value) (hm0 : Mem w0 hz w0 [blk bp0 [v1p, v2p, (nV r_.out.end_), (nV r_.out.value), v3p, (nV r_.steps), (.bool (r_.over)), v4p] 101, ow [v2p] r_.out.said, ow [v3p] r_.out.cells, ow [v4p] r_.trace, ow [v2] regs]), Con Try.prog 114 [(pV bp0), (.agg #[(nV x_.op), (nV x_.to), v1, (nV x_.n_)]), v2] w0 (fun v w' => ∃ (x2 : Value) (x3 : Value) (x4 : Value), v = (.tuple #[]) ∧ Mem w0 hz w' [blk bp0 [v1p, x2, (nV r.1.out.end_), (nV r.1.out.value), x3, (nV r.1.steps), (.bool (r.1.over)), x4] 101, ow [x2] r.1.out.said, ow [x3] r.1.out.cells, ow [x4] r.1.trace, ow [v2] r.2])) := by
  refine pspec_l8Run__code.mutual_partial_correctness (motive_1 := fun r_ k_ in_ r => ∀ (w0 : World) (hz : Heap) (bp0 : Nat) (v1p : Value) (h1p : GT.rep hz [v1p] r_.u.codes) (v2p : Value) (v3p : Value) (v4p : Value) (v1 : Value) (h1 : GT.rep hz [v1] in_) (hm0 : Mem w0 hz w0 [blk bp0 [v1p, v2p, (nV r_.out.end_), (nV r_.out.value), v3p, (nV r_.steps), (.bool (r_.over)), v4p] 101, ow [v2p] r_.out.said, ow [v3p] r_.out.cells, ow [v4p] r_.trace]), Con Try.prog 88 [(pV bp0), (nV k_), v1] w0 (fun v w' => ∃ (x2 : Value) (x3 : Value) (x4 : Value), v = (nV r.1) ∧ Mem w0 hz w' [blk bp0 [v1p, x2, (nV r.2.out.end_), (nV r.2.out.value), x3, (nV r.2.steps), (.bool (r.2.over)), x4] 101, ow [x2] r.2.out.said, ow [x3] r.2.out.cells, ow [x4] r.2.trace])) (motive_2 := fun r_ x_ regs r => ∀ (w0 : World) (hz : Heap) (bp0 : Nat) (v1p : Value) (h1p : GT.rep hz [v1p] r_.u.codes) (v2p : Value) (v3p : Value) (v4p : Value) (v1 : Value) (h1 : GT.rep hz [v1] x_.args) (v2 : Value) (hm0 : Mem w0 hz w0 [blk bp0 [v1p, v2p, (nV r_.out.end_), (nV r_.out.value), v3p, (nV r_.steps), (.bool (r_.over)), v4p] 101, ow [v2p] r_.out.said, ow [v3p] r_.out.cells, ow [v4p] r_.trace, ow [v2] regs]), Con Try.prog 114 [(pV bp0), (.agg #[(nV x_.op), (nV x_.to), v1, (nV x_.n_)]), v2] w0 (fun v w' => ∃ (x2 : Value) (x3 : Value) (x4 : Value), v = (.tuple #[]) ∧ Mem w0 hz w' [blk bp0 [v1p, x2, (nV r.1.out.end_), (nV r.1.out.value), x3, (nV r.1.steps), (.bool (r.1.over)), x4] 101, ow [x2] r.1.out.said, ow [x3] r.1.out.cells, ow [x4] r.1.trace, ow [v2] r.2])) ?_ ?_
  · intro rec_ ih_ r_ k_ in_ r hq w0 hz bp0 v1p h1p v2p v3p v4p v1 h1 hm0
    have pspec_l8Run__ins_rec : ∀ (w0 : World) (hz : Heap) (r_ : l8Run) (bp0 : Nat) (v1p : Value) (h1p : GT.rep hz [v1p] r_.u.codes) (v2p : Value) (v3p : Value) (v4p : Value) (x_ : Ins_) (v1 : Value) (h1 : GT.rep hz [v1] x_.args) (regs : List Int) (v2 : Value) (hm0 : Mem w0 hz w0 [blk bp0 [v1p, v2p, (nV r_.out.end_), (nV r_.out.value), v3p, (nV r_.steps), (.bool (r_.over)), v4p] 101, ow [v2p] r_.out.said, ow [v3p] r_.out.cells, ow [v4p] r_.trace, ow [v2] regs]) (r : l8Run × (List Int)) (hq : rec_ r_ x_ regs = some r), Con Try.prog 114 [(pV bp0), (.agg #[(nV x_.op), (nV x_.to), v1, (nV x_.n_)]), v2] w0 (fun v w' => ∃ (x2 : Value) (x3 : Value) (x4 : Value), v = (.tuple #[]) ∧ Mem w0 hz w' [blk bp0 [v1p, x2, (nV r.1.out.end_), (nV r.1.out.value), x3, (nV r.1.steps), (.bool (r.1.over)), x4] 101, ow [x2] r.1.out.said, ow [x3] r.1.out.cells, ow [x4] r.1.trace, ow [v2] r.2]) := fun w0 hz r_ bp0 v1p h1p v2p v3p v4p x_ v1 h1 regs v2 hm0 r hq => ih_ r_ x_ regs r hq w0 hz bp0 v1p h1p v2p v3p v4p v1 h1 v2 hm0
    refine gconr (ρ := Int × l8Run) (R := fun r v w' => ∃ (x2 : Value) (x3 : Value) (x4 : Value), v = (nV r.1) ∧ Mem w0 hz w' [blk bp0 [v1p, x2, (nV r.2.out.end_), (nV r.2.out.value), x3, (nV r.2.steps), (.bool (r.2.over)), x4] 101, ow [x2] r.2.out.said, ow [x3] r.2.out.cells, ow [x4] r.2.trace]) func88 rfl hq ?_
    have hm := hm0
    refine gS (gR (gA rfl (gE (gS (gR (gM rfl (gY (yG rfl (y_nilptr rfl rfl)) (gF fo_101_0 rfl (gF fo_40_0 rfl (gL hm 0 isAgg38 rfl (gM rfl (gg fun x0_1 h0_1 hx0_2 => ?_))))))))))))
    obtain ⟨b0_1, o0_1, c0_1, he⟩ := idx_form' h1p hx0_2
    subst he
    obtain ⟨_, _, hc0_1, hr0_1⟩ := ro_get' h1p hx0_2
    obtain ⟨_, _, rfl, rfl, _, _, rfl, rfl, h0_2⟩ := hr0_1
    obtain ⟨v0_1, rfl, -⟩ := id h0_2
    replace h0_2 : GT.rep hz [v0_1] x0_1.blocks := h0_2
    replace hc0_1 : CellsAt hz b0_1 (o0_1 + (k_).toNat * 3) [(nV x0_1.params), (nV x0_1.regs), v0_1] := hc0_1
    refine gI st_38 h0_1 (idx_lt hx0_2) rfl (gY (yn (hc0_1.mono hm.lez) isAgg55 sizeOf55 rfl) (gAl hm zeroValue55 rfl fun b0_2 w hm => gSN hm 0 sizeOf55 (one_cons rfl (one_cons rfl (one_cons (rep_one h0_2) one_nil))) rfl fun w hm => gE (gS (gR (gF fo_55_1 rfl (gL hm 0 isAgg3 rfl (gb fun ys0_1 hx0_3 => ?_)))))))
    obtain ⟨⟨h0_31, h0_32⟩, h0_3e⟩ := makeM_some.1 hx0_3
    refine gf rfl (fun a hf => e_make (x0 := (0 : Int)) et_26 (fun _ => (Flat.own_iff.2 rfl)) hf hm rfl rfl rfl h0_31 (Int.le_refl _) h0_32) ?_
    rintro v0_2 w hm
    rw [h0_3e] at hm
    have h0_3l : (ys0_1.length : Int) = x0_1.regs := by rw [← h0_3e]; simp only [List.length_replicate]; omega
    refine gA rfl (gE (gS (gR (gM rfl (gM rfl (gf rfl (fun a hf => e_copy (α := Int) (xs := ys0_1) (ys := in_) (lo := 0) (hi := ys0_1.length) 0 st_26 (show 0 < 1 from by decide) hf hm rfl (hm.now h1) rfl (by rw [hm.subV_whole (α := Int) 0 rfl]; rfl) rfl (Nat.zero_le _) (Nat.le_refl _)) ?_))))))
    rintro _ w ⟨rfl, hm⟩
    refine gE (gS (gR (gA rfl (gE ?_))))
    obtain ⟨p0_1, c0_2, rfl, hl0_1⟩ := ro_slice (hm.ow_rep 3 rfl)
    obtain ⟨p0_2, c0_3, rfl, hl0_2⟩ := ro_slice (hm.ow_rep 4 rfl)
    obtain ⟨p0_3, c0_4, rfl, hl0_3⟩ := ro_slice (hm.ow_rep 5 rfl)
    obtain ⟨p0_4, c0_5, rfl, hl0_4⟩ := ro_slice (hm.ow_rep 0 rfl)
    refine gBk (gMg (fun xs1_1 a w => ∃ (v1_1 : Value) (v1_2 : Value) (v1_3 : Value), St 111 [(0, (pV bp0)), (1, (nV k_)), (7, (pV b0_2)), (8, (.slice p0_4 (copyL ys0_1 in_ 0 ys0_1.length).length c0_5)), (9, (nV xs1_1.2.2.2.2.2.2.2.2))] w0 hz [blk bp0 [(sV b0_1 o0_1 r_.u.codes.length c0_1), v1_1, (nV xs1_1.2.1), (nV xs1_1.2.2.1), v1_2, (nV xs1_1.2.2.2.2.1), (.bool (xs1_1.2.2.2.2.2.1)), v1_3] 101, ow [v1_1] xs1_1.1, ow [v1_2] xs1_1.2.2.2.1, ow [v1_3] xs1_1.2.2.2.2.2.2.1, blk b0_2 [(nV x0_1.params), (nV x0_1.regs), v0_1] 55, ow [(.slice p0_4 (copyL ys0_1 in_ 0 ys0_1.length).length c0_5)] xs1_1.2.2.2.2.2.2.2.1] a w) (fun a hf => ⟨(.slice p0_1 r_.out.said.length c0_2), (.slice p0_2 r_.out.cells.length c0_3), (.slice p0_3 r_.trace.length c0_4), hf.sb rfl, hm.pk [2, 3, 4, 5, 1, 0] rfl rfl⟩) ?_)
    repeat clear hm
    rintro r0_1 hq0_1 xs1_1 a w ⟨v1_1, v1_2, v1_3, hf, hm⟩ q0_1 ho0_1
    refine gv hf (gBk (gS (gR (gF fo_55_2 rfl (gL hm 4 isAgg53 rfl (gM rfl (gg fun x1_1 h1_1 hx1_2 => ?_)))))))
    obtain ⟨b1_1, o1_1, c1_1, he⟩ := idx_form' h0_2 hx1_2
    subst he
    obtain ⟨_, _, hc1_1, hr1_1⟩ := ro_get' h0_2 hx1_2
    obtain ⟨_, _, rfl, h1_2, _, _, rfl, h1_3, _, _, rfl, rfl, _, _, rfl, rfl, h1_4⟩ := hr1_1
    obtain ⟨v1_4, rfl, -⟩ := id h1_2
    replace h1_2 : GT.rep hz [v1_4] x1_1.phis := h1_2
    obtain ⟨v1_5, rfl, -⟩ := id h1_3
    replace h1_3 : GT.rep hz [v1_5] x1_1.ins := h1_3
    obtain ⟨v1_6, rfl, -⟩ := id h1_4
    replace h1_4 : GT.rep hz [v1_6] x1_1.next_ := h1_4
    replace hc1_1 : CellsAt hz b1_1 (o1_1 + (xs1_1.2.2.2.2.2.2.2.2).toNat * 5) [v1_4, v1_5, (nV x1_1.jump), (nV x1_1.on), v1_6] := hc1_1
    refine gI st_53 h1_1 (idx_lt hx1_2) rfl (gY (yn (hc1_1.mono hm.lez) isAgg61 sizeOf61 rfl) (gAl hm zeroValue61 rfl fun b1_2 w hm => gSN hm 0 sizeOf61 (one_cons (rep_one h1_2) (one_cons (rep_one h1_3) (one_cons rfl (one_cons rfl (one_cons (rep_one h1_4) one_nil))))) rfl fun w hm => gE (gS (gS (gR (gM rfl (gM rfl (gY (yG rfl (y_nilptr rfl rfl)) (gF fo_101_0 rfl (gF fo_40_0 rfl (gL hm 1 isAgg38 rfl ?_)))))))))))
    have hl1_1 := rep_len h1p
    refine gY (yV st_38 rfl) (gY (yS (by omega) (by omega) rfl) (gB rfl (gE (gJg (fun s1_1 a w => ∃ (v1_7 : Value), St 111 [(0, (pV bp0)), (1, (nV k_)), (7, (pV b0_2)), (8, (.slice p0_4 (copyL ys0_1 in_ 0 ys0_1.length).length c0_5)), (9, (nV xs1_1.2.2.2.2.2.2.2.2)), (10, (pV b1_2))] w0 hz [blk bp0 [(sV b0_1 o0_1 r_.u.codes.length c0_1), v1_1, (nV xs1_1.2.1), (nV xs1_1.2.2.1), v1_2, (nV xs1_1.2.2.2.2.1), (.bool (xs1_1.2.2.2.2.2.1)), v1_7] 101, ow [v1_1] xs1_1.1, ow [v1_2] xs1_1.2.2.2.1, ow [v1_7] s1_1, blk b0_2 [(nV x0_1.params), (nV x0_1.regs), (sV b1_1 o1_1 x0_1.blocks.length c1_1)] 55, ow [(.slice p0_4 (copyL ys0_1 in_ 0 ys0_1.length).length c0_5)] xs1_1.2.2.2.2.2.2.2.1, blk b1_2 [v1_4, v1_5, (nV x1_1.jump), (nV x1_1.on), v1_6] 61] a w) (fun s1_1 => ?_) ?_))))
    ·
     refine gsd 40 rfl (fun h2_1 => ?_) fun h2_1 => ?_
     ·
      refine gct rfl (gR (gM rfl (gM rfl (gY (yG rfl (y_nilptr rfl rfl)) (gF fo_101_4 rfl (gL hm 1 isAgg26 rfl (gM rfl (gf rfl (fun a hf => e_build (vs := #[(0, (nV xs1_1.2.2.2.2.2.2.2.2))]) (cs := [(nV xs1_1.2.2.2.2.2.2.2.2)]) et_26 hf hm rfl rfl (by kernel_rfl) rfl rfl) ?_))))))))
      rintro _ w ⟨b2_1, rfl, hm⟩
      replace hm := hm.lit (xs := ([xs1_1.2.2.2.2.2.2.2.2] : List Int)) 0 rfl rfl rfl rfl
      refine gb fun ys2_1 hx2_1 => ?_
      obtain ⟨h2_2, h2_2e⟩ := appM_some.1 hx2_1
      refine gf rfl (fun a hf => e_append 5 et_26 hf hm rfl (hm.ow_rep 0 rfl) rfl rfl rfl h2_2) ?_
      rintro v2_1 w hm
      rw [h2_2e] at hm
      exact gY (yG rfl (y_nilptr rfl rfl)) (gF fo_101_4 rfl (gS1 hm 2 sizeOf26 (rep_one (hm.ow_rep 5 rfl)) rfl fun w hm => gE (gZ fun a hf => ⟨v2_1, hf.sb rfl, hm.pk [2, 3, 4, 5, 6, 7, 1] rfl rfl⟩)))
     exact gcf rfl (gSk (gZ fun a hf => ⟨v1_3, hf.sb rfl, hm.pk [1, 2, 3, 4, 5, 6, 0] rfl rfl⟩))
    repeat clear hm
    rintro s1_1 a w ⟨v1_7, hf, hm⟩
    refine gv hf (gS (gS (gR (gA rfl (gE ?_)))))
    obtain ⟨p1_1, c1_2, rfl, hl1_2⟩ := ro_slice (hm.ow_rep 1 rfl)
    obtain ⟨p1_2, c1_3, rfl, hl1_3⟩ := ro_slice (hm.ow_rep 2 rfl)
    obtain ⟨p1_3, c1_4, rfl, hl1_4⟩ := ro_slice (hm.ow_rep 3 rfl)
    refine gBk (gNg (fun i2_1 xs2_1 a w => ∃ (v2_2 : Value) (v2_3 : Value) (v2_4 : Value), St 111 [(0, (pV bp0)), (1, (nV k_)), (7, (pV b0_2)), (8, (.slice p0_4 (copyL ys0_1 in_ 0 ys0_1.length).length c0_5)), (9, (nV xs1_1.2.2.2.2.2.2.2.2)), (10, (pV b1_2)), (11, (nV i2_1))] w0 hz [blk bp0 [(sV b0_1 o0_1 r_.u.codes.length c0_1), v2_2, (nV xs2_1.2.1), (nV xs2_1.2.2.1), v2_3, (nV xs2_1.2.2.2.2.1), (.bool (xs2_1.2.2.2.2.2.1)), v2_4] 101, ow [v2_2] xs2_1.1, ow [v2_3] xs2_1.2.2.2.1, ow [v2_4] xs2_1.2.2.2.2.2.2.1, blk b0_2 [(nV x0_1.params), (nV x0_1.regs), (sV b1_1 o1_1 x0_1.blocks.length c1_1)] 55, ow [(.slice p0_4 (copyL ys0_1 in_ 0 ys0_1.length).length c0_5)] xs2_1.2.2.2.2.2.2.2, blk b1_2 [v1_4, v1_5, (nV x1_1.jump), (nV x1_1.on), v1_6] 61] a w) (fun a hf => ⟨(.slice p1_1 xs1_1.1.length c1_2), (.slice p1_2 xs1_1.2.2.2.1.length c1_3), (.slice p1_3 s1_1.length c1_4), hf.sb rfl, hm.pk [0, 1, 2, 3, 4, 5, 6] rfl rfl⟩) ?_ ?_)
    ·
     repeat clear hm
     rintro r1_1 hq1_2 i2_1 xs2_1 a w ⟨v2_2, v2_3, v2_4, hf, hm⟩ hi1_1 hi1_2 q1_1 ho1_1
     refine gv hf (gS (gS (gR (gM rfl (gF fo_61_1 rfl (gL hm 6 isAgg58 rfl ?_))))))
     obtain ⟨p2_1, c2_1, rfl, hl2_1⟩ := ro_slice h1_3
     refine gY (yV st_58 rfl) (gB rfl (gE (go _ 55 rfl (decide_eq_true (by omega)) (gct rfl (gSk (gS (gBk (gS (gS (gR (gM rfl ?_)))))))))))
     obtain ⟨hz2_1, hle, hm1, hsub, hk2_1⟩ := hm.take2 (L1 := [blk bp0 [(sV b0_1 o0_1 r_.u.codes.length c0_1), v2_2, (nV xs2_1.2.1), (nV xs2_1.2.2.1), v2_3, (nV xs2_1.2.2.2.2.1), (.bool (xs2_1.2.2.2.2.2.1)), v2_4] 101, ow [v2_2] xs2_1.1, ow [v2_3] xs2_1.2.2.2.1, ow [v2_4] xs2_1.2.2.2.2.2.2.1]) (L2 := [blk b0_2 [(nV x0_1.params), (nV x0_1.regs), (sV b1_1 o1_1 x0_1.blocks.length c1_1)] 55, ow [(.slice p0_4 (copyL ys0_1 in_ 0 ys0_1.length).length c0_5)] xs2_1.2.2.2.2.2.2.2, blk b1_2 [v1_4, (.slice p2_1 x1_1.ins.length c2_1), (nV x1_1.jump), (nV x1_1.on), v1_6] 61]) [0, 1, 2, 3] [4, 5, 6] (by decide) rfl rfl
     refine gCg rfl call113 (pspec_l8Run__take_ok _ hz2_1 (⟨r_.u, (⟨xs2_1.1, xs2_1.2.1, xs2_1.2.2.1, xs2_1.2.2.2.1⟩ : Outcome_), xs2_1.2.2.2.2.1, xs2_1.2.2.2.2.2.1, xs2_1.2.2.2.2.2.2.1⟩ : l8Run) bp0 (sV b0_1 o0_1 r_.u.codes.length c0_1) (GT.mono hle h1p) v2_2 v2_3 v2_4 hm1 ) ?_
     rintro r2_1 hx2_2 v2_5 w ⟨v2_6, v2_7, v2_8, rfl, hB⟩
     replace hm := hk2_1 _ _ hB; clear hB
     refine gE (gJg (fun s2_1 a w => ∃ (v2_9 : Value) (v2_10 : Value) (v2_11 : Value), St 111 [(0, (pV bp0)), (1, (nV k_)), (7, (pV b0_2)), (8, (.slice p0_4 (copyL ys0_1 in_ 0 ys0_1.length).length c0_5)), (9, (nV xs1_1.2.2.2.2.2.2.2.2)), (10, (pV b1_2)), (11, (nV i2_1))] w0 hz [blk bp0 [(sV b0_1 o0_1 r_.u.codes.length c0_1), v2_9, (nV s2_1.2.1), (nV s2_1.2.2.1), v2_10, (nV s2_1.2.2.2.2.1), (.bool (s2_1.2.2.2.2.2.1)), v2_11] 101, ow [v2_9] s2_1.1, ow [v2_10] s2_1.2.2.2.1, ow [v2_11] s2_1.2.2.2.2.2.2.1, blk b0_2 [(nV x0_1.params), (nV x0_1.regs), (sV b1_1 o1_1 x0_1.blocks.length c1_1)] 55, ow [(.slice p0_4 (copyL ys0_1 in_ 0 ys0_1.length).length c0_5)] s2_1.2.2.2.2.2.2.2, blk b1_2 [v1_4, (.slice p2_1 x1_1.ins.length c2_1), (nV x1_1.jump), (nV x1_1.on), v1_6] 61] a w) (fun s2_1 => ?_) ?_)
     ·
      refine gs 59 rfl (fun h3_1 => ?_) fun h3_1 => ?_
      ·
       refine gct rfl (gR (gM rfl (gF fo_61_1 rfl (gL hm 6 isAgg58 rfl (gM rfl (gg fun x3_1 h3_2 hx3_2 => ?_))))))
       obtain ⟨b3_1, o3_1, c3_1, he⟩ := idx_form' h1_3 hx3_2
       simp only [Value.slice.injEq, Option.some.injEq] at he; obtain ⟨rfl, _, rfl⟩ := he
       obtain ⟨_, _, hc3_1, hr3_1⟩ := ro_get' h1_3 hx3_2
       obtain ⟨_, _, rfl, rfl, _, _, rfl, rfl, _, _, rfl, h3_3, rfl⟩ := hr3_1
       obtain ⟨v3_1, rfl, -⟩ := id h3_3
       replace h3_3 : GT.rep hz [v3_1] x3_1.args := h3_3
       replace hc3_1 : CellsAt hz b3_1 (o3_1 + (i2_1).toNat * 4) [(nV x3_1.op), (nV x3_1.to), v3_1, (nV x3_1.n_)] := hc3_1
       refine gI st_58 h3_2 (idx_lt hx3_2) rfl (gY (yn (hc3_1.mono hm.lez) isAgg57 sizeOf57 rfl) (gM rfl ?_))
       obtain ⟨hz3_1, hle, hm1, hsub, hk3_1⟩ := hm.take2 (L1 := [blk bp0 [(sV b0_1 o0_1 r_.u.codes.length c0_1), v2_6, (nV r2_1.2.out.end_), (nV r2_1.2.out.value), v2_7, (nV r2_1.2.steps), (.bool (r2_1.2.over)), v2_8] 101, ow [v2_6] r2_1.2.out.said, ow [v2_7] r2_1.2.out.cells, ow [v2_8] r2_1.2.trace, ow [(.slice p0_4 (copyL ys0_1 in_ 0 ys0_1.length).length c0_5)] xs2_1.2.2.2.2.2.2.2]) (L2 := [blk b0_2 [(nV x0_1.params), (nV x0_1.regs), (sV b1_1 o1_1 x0_1.blocks.length c1_1)] 55, blk b1_2 [v1_4, (sV b3_1 o3_1 x1_1.ins.length c2_1), (nV x1_1.jump), (nV x1_1.on), v1_6] 61]) [0, 1, 2, 3, 5] [4, 6] (by decide) rfl rfl
       refine gCg rfl call114 (pspec_l8Run__ins_rec _ hz3_1 (⟨r_.u, r2_1.2.out, r2_1.2.steps, r2_1.2.over, r2_1.2.trace⟩ : l8Run) bp0 (sV b0_1 o0_1 r_.u.codes.length c0_1) (GT.mono hle h1p) v2_6 v2_7 v2_8 x3_1 v3_1 (GT.mono hle h3_3) xs2_1.2.2.2.2.2.2.2 (.slice p0_4 (copyL ys0_1 in_ 0 ys0_1.length).length c0_5) hm1 ) ?_
       rintro r3_1 hx3_3 v3_2 w ⟨v3_3, v3_4, v3_5, rfl, hB⟩
       replace hm := hk3_1 _ _ hB; clear hB
       exact gE (gZ fun a hf => ⟨v3_3, v3_4, v3_5, hf.sb rfl, hm.pk [0, 1, 2, 3, 5, 4, 6] rfl rfl⟩)
      exact gcf rfl (gSk (gZ fun a hf => ⟨v2_6, v2_7, v2_8, hf.sb rfl, hm.pk [0, 1, 2, 3, 4, 5, 6] rfl rfl⟩))
     repeat clear hm
     rintro s2_1 a w ⟨v2_9, v2_10, v2_11, hf, hm⟩
     refine gv hf (gS (gR (gM rfl (gY (yG rfl (y_nilptr rfl rfl)) (gF fo_101_3 rfl (gL hm 0 isAgg4 rfl (gE (gs 71 rfl (fun h2_3 => ?_) fun h2_3 => ?_))))))))
     ·
      exact gct rfl (gS (gR (gA rfl (gE (gRt (gLr ho1_1 hq1_2 (gLp ho0_1 hq0_1 (gr1 results88 rfl ⟨v2_9, v2_10, v2_11, rfl, hm.pk [0, 1, 2, 3] rfl rfl⟩))))))))
     exact gcf rfl (gSk (gR (gM rfl (gP (by omega) (by omega) rfl (gA rfl (gE (gZe fun a hf => ⟨v2_9, v2_10, v2_11, hf.sb rfl, hm.pk [0, 1, 2, 3, 4, 5, 6] rfl rfl⟩)))))))
    repeat clear hm
    rintro i1_2 xs1_2 a w ⟨v1_8, v1_9, v1_10, hf, hm⟩ hi1_3 hi1_4
    refine gv hf (gS (gS (gR (gM rfl (gF fo_61_1 rfl (gL hm 6 isAgg58 rfl ?_))))))
    obtain ⟨p1_4, c1_5, rfl, hl1_5⟩ := ro_slice h1_3
    refine gY (yV st_58 rfl) (gB rfl (gE (go _ 55 rfl (decide_eq_false (by omega)) (gcf rfl (gXt (gHh (gS (gS (gR (gM rfl ?_))))))))))
    obtain ⟨hz1_1, hle, hm1, hsub, hk1_1⟩ := hm.take2 (L1 := [blk bp0 [(sV b0_1 o0_1 r_.u.codes.length c0_1), v1_8, (nV xs1_2.2.1), (nV xs1_2.2.2.1), v1_9, (nV xs1_2.2.2.2.2.1), (.bool (xs1_2.2.2.2.2.2.1)), v1_10] 101, ow [v1_8] xs1_2.1, ow [v1_9] xs1_2.2.2.2.1, ow [v1_10] xs1_2.2.2.2.2.2.2.1]) (L2 := [blk b0_2 [(nV x0_1.params), (nV x0_1.regs), (sV b1_1 o1_1 x0_1.blocks.length c1_1)] 55, ow [(.slice p0_4 (copyL ys0_1 in_ 0 ys0_1.length).length c0_5)] xs1_2.2.2.2.2.2.2.2, blk b1_2 [v1_4, (.slice p1_4 x1_1.ins.length c1_5), (nV x1_1.jump), (nV x1_1.on), v1_6] 61]) [0, 1, 2, 3] [4, 5, 6] (by decide) rfl rfl
    refine gCg rfl call113 (pspec_l8Run__take_ok _ hz1_1 (⟨r_.u, (⟨xs1_2.1, xs1_2.2.1, xs1_2.2.2.1, xs1_2.2.2.2.1⟩ : Outcome_), xs1_2.2.2.2.2.1, xs1_2.2.2.2.2.2.1, xs1_2.2.2.2.2.2.2.1⟩ : l8Run) bp0 (sV b0_1 o0_1 r_.u.codes.length c0_1) (GT.mono hle h1p) v1_8 v1_9 v1_10 hm1 ) ?_
    rintro r1_2 hx1_3 v1_11 w ⟨v1_12, v1_13, v1_14, rfl, hB⟩
    replace hm := hk1_1 _ _ hB; clear hB
    refine gN rfl (gE (gsn 74 rfl (fun h1_5 => ?_) fun h1_5 => ?_))
    ·
     exact gct rfl (gS (gR (gA rfl (gE (gRt (gLp ho0_1 hq0_1 (gr1 results88 rfl ⟨v1_12, v1_13, v1_14, rfl, hm.pk [0, 1, 2, 3] rfl rfl⟩)))))))
    refine gcf rfl (gSk (gS (gR (gA rfl (gE (gS (gJe hm (fun s1_2 => [(0, (pV bp0)), (1, (nV k_)), (7, (pV b0_2)), (8, (.slice p0_4 (copyL ys0_1 in_ 0 ys0_1.length).length c0_5)), (9, (nV xs1_1.2.2.2.2.2.2.2.2)), (12, (nV s1_2))]) (fun s1_2 => [blk bp0 [(sV b0_1 o0_1 r_.u.codes.length c0_1), v1_12, (nV r1_2.2.out.end_), (nV r1_2.2.out.value), v1_13, (nV r1_2.2.steps), (.bool (r1_2.2.over)), v1_14] 101, ow [v1_12] r1_2.2.out.said, ow [v1_13] r1_2.2.out.cells, ow [v1_14] r1_2.2.trace, blk b0_2 [(nV x0_1.params), (nV x0_1.regs), (sV b1_1 o1_1 x0_1.blocks.length c1_1)] 55, ow [(.slice p0_4 (copyL ys0_1 in_ 0 ys0_1.length).length c0_5)] xs1_2.2.2.2.2.2.2.2]) (fun c1_6 hq1_3 => ?_) ?_)))))))
    ·
     refine gBk (gS (gR (gF fo_61_2 rfl (gL hm 6 isAgg3 rfl (gB rfl (gA rfl (gE (gsd 79 rfl (fun h2_4 => ?_) fun h2_4 => ?_))))))))
     ·
      refine gct rfl (gS (gR (gM rfl (gF fo_61_3 rfl (gL hm 6 isAgg3 rfl (gg fun x2_1 h2_5 hx2_4 => ?_))))))
      obtain ⟨b2_2, o2_1, c2_2, he⟩ := idx_form (hm.ow_rep 5 rfl) hx2_4
      simp only [Value.slice.injEq, Option.some.injEq] at he; obtain ⟨rfl, _, rfl⟩ := he
      have hL2_1 := rep_slice_len (hm.ow_rep 5 rfl)
      exact gI st_26 h2_5 (idx_lt2 hx2_4 hL2_1) rfl (gY (yl isAgg3 ((flat_cells (cs := [(nV x2_1)]) (hm.ow_rep 5 rfl) hx2_4 rfl).cell (j := 0) rfl) rfl) (gA rfl (gE (gRt (gEr hq1_3 (gLp ho0_1 hq0_1 (gr1 results88 rfl ⟨v1_12, v1_13, v1_14, rfl, hm.pk [0, 1, 2, 3] rfl rfl⟩)))))))
     refine gcf rfl (gS (gJ hm (fun s2_2 => [(0, (pV bp0)), (1, (nV k_)), (7, (pV b0_2)), (8, (.slice p0_4 (copyL ys0_1 in_ 0 ys0_1.length).length c0_5)), (9, (nV xs1_1.2.2.2.2.2.2.2.2)), (10, (pV b1_2)), (88, (.bool (s2_2)))]) (fun s2_2 => [blk bp0 [(sV b0_1 o0_1 r_.u.codes.length c0_1), v1_12, (nV r1_2.2.out.end_), (nV r1_2.2.out.value), v1_13, (nV r1_2.2.steps), (.bool (r1_2.2.over)), v1_14] 101, ow [v1_12] r1_2.2.out.said, ow [v1_13] r1_2.2.out.cells, ow [v1_14] r1_2.2.trace, blk b0_2 [(nV x0_1.params), (nV x0_1.regs), (sV b1_1 o1_1 x0_1.blocks.length c1_1)] 55, ow [(.slice p0_4 (copyL ys0_1 in_ 0 ys0_1.length).length c0_5)] xs1_2.2.2.2.2.2.2.2, blk b1_2 [v1_4, (.slice p1_4 x1_1.ins.length c1_5), (nV x1_1.jump), (nV x1_1.on), v1_6] 61]) (fun s2_2 => ?_) ?_))
     ·
      refine gR (gF fo_61_2 rfl (gL hm 6 isAgg3 rfl (gB rfl (gM rfl (gsd 92 rfl (fun h3_4 => ?_) fun h3_4 => ?_)))))
      ·
       exact gO rfl (gO rfl (gO rfl (gO rfl (gO rfl (gO rfl (gKt rfl (gA rfl (gE (gz hm [0, 1, 2, 3, 4, 5, 6] rfl)))))))))
      refine gM rfl (gF fo_61_3 rfl (gL hm 6 isAgg3 rfl (gg fun x3_2 h3_5 hx3_5 => ?_)))
      obtain ⟨b3_2, o3_2, c3_2, he⟩ := idx_form (hm.ow_rep 5 rfl) hx3_5
      simp only [Value.slice.injEq, Option.some.injEq] at he; obtain ⟨rfl, _, rfl⟩ := he
      have hL3_1 := rep_slice_len (hm.ow_rep 5 rfl)
      exact gI st_26 h3_5 (idx_lt2 hx3_5 hL3_1) rfl (gY (yl isAgg3 ((flat_cells (cs := [(nV x3_2)]) (hm.ow_rep 5 rfl) hx3_5 rfl).cell (j := 0) rfl) rfl) (gB rfl (gKf rfl (gA rfl (gE (gz hm [0, 1, 2, 3, 4, 5, 6] rfl))))))
     repeat clear hm
     intro s2_2 w hm
     refine gJ hm (fun s2_3 => [(0, (pV bp0)), (1, (nV k_)), (7, (pV b0_2)), (8, (.slice p0_4 (copyL ys0_1 in_ 0 ys0_1.length).length c0_5)), (9, (nV xs1_1.2.2.2.2.2.2.2.2)), (12, (nV s2_3))]) (fun s2_3 => [blk bp0 [(sV b0_1 o0_1 r_.u.codes.length c0_1), v1_12, (nV r1_2.2.out.end_), (nV r1_2.2.out.value), v1_13, (nV r1_2.2.steps), (.bool (r1_2.2.over)), v1_14] 101, ow [v1_12] r1_2.2.out.said, ow [v1_13] r1_2.2.out.cells, ow [v1_14] r1_2.2.trace, blk b0_2 [(nV x0_1.params), (nV x0_1.regs), (sV b1_1 o1_1 x0_1.blocks.length c1_1)] 55, ow [(.slice p0_4 (copyL ys0_1 in_ 0 ys0_1.length).length c0_5)] xs1_2.2.2.2.2.2.2.2]) (fun s2_3 => ?_) ?_
     ·
      refine gs 88 rfl (fun h3_6 => ?_) fun h3_6 => ?_
      ·
       refine gct rfl (gR (gF fo_61_4 rfl (gL hm 6 isAgg26 rfl (gg fun x3_3 h3_7 hx3_7 => ?_))))
       obtain ⟨b3_3, o3_3, c3_3, he⟩ := idx_form h1_4 hx3_7
       subst he
       exact gI st_26 h3_7 (idx_lt hx3_7) rfl (gY (yl isAgg3 ((flat_cells (cs := [(nV x3_3)]) (hm.now h1_4) hx3_7 rfl).cell (j := 0) rfl) rfl) (gA rfl (gE (gz hm [0, 1, 2, 3, 4, 5] rfl))))
      refine gcf rfl (gR (gF fo_61_4 rfl (gL hm 6 isAgg26 rfl (gg fun x3_4 h3_8 hx3_9 => ?_))))
      obtain ⟨b3_4, o3_4, c3_4, he⟩ := idx_form h1_4 hx3_9
      subst he
      exact gI st_26 h3_8 (idx_lt hx3_9) rfl (gY (yl isAgg3 ((flat_cells (cs := [(nV x3_4)]) (hm.now h1_4) hx3_9 rfl).cell (j := 0) rfl) rfl) (gA rfl (gE (gz hm [0, 1, 2, 3, 4, 5] rfl))))
     repeat clear hm
     intro s2_3 w hm
     exact gze hm [0, 1, 2, 3, 4, 5] rfl
    repeat clear hm
    intro s1_2 w hm
    refine gS (gR (gM rfl (gY (yn (hm.blk_at 4 rfl) isAgg55 sizeOf55 rfl) (gM rfl (gM rfl (gM rfl ?_))))))
    obtain ⟨hz1_3, hle, hm1, hsub, hk1_2⟩ := hm.take2 (L1 := [ow [(.slice p0_4 (copyL ys0_1 in_ 0 ys0_1.length).length c0_5)] xs1_2.2.2.2.2.2.2.2]) (L2 := [blk bp0 [(sV b0_1 o0_1 r_.u.codes.length c0_1), v1_12, (nV r1_2.2.out.end_), (nV r1_2.2.out.value), v1_13, (nV r1_2.2.steps), (.bool (r1_2.2.over)), v1_14] 101, ow [v1_12] r1_2.2.out.said, ow [v1_13] r1_2.2.out.cells, ow [v1_14] r1_2.2.trace, blk b0_2 [(nV x0_1.params), (nV x0_1.regs), (sV b1_1 o1_1 x0_1.blocks.length c1_1)] 55]) [5] [0, 1, 2, 3, 4] (by decide) rfl rfl
    refine gCg rfl call115 (pspec_l8Run__phis_ok _ hz1_3 (⟨r_.u, r1_2.2.out, r1_2.2.steps, r1_2.2.over, r1_2.2.trace⟩ : l8Run) bp0 (sV b0_1 o0_1 r_.u.codes.length c0_1) (GT.mono hle h1p) v1_12 (fz_ow (hsub 1 _ rfl)) v1_13 (fz_ow (hsub 2 _ rfl)) v1_14 (fz_ow (hsub 3 _ rfl)) (fz_blk (hsub 0 _ rfl)) x0_1 (sV b1_1 o1_1 x0_1.blocks.length c1_1) (GT.mono hle h0_2) xs1_1.2.2.2.2.2.2.2.2 s1_2 xs1_2.2.2.2.2.2.2.2 (.slice p0_4 (copyL ys0_1 in_ 0 ys0_1.length).length c0_5) hm1 ) ?_
    rintro r1_3 hx1_4 v1_15 w ⟨rfl, hB⟩
    replace hm := hk1_2 _ _ hB; clear hB
    exact gE (gR (gM rfl (gA rfl (gE (gZe fun a hf => ⟨v1_12, v1_13, v1_14, hf.sb rfl, hm.pk [1, 2, 3, 4, 5, 0] rfl rfl⟩)))))
  · intro rec_ ih_ r_ x_ regs r hq w0 hz bp0 v1p h1p v2p v3p v4p v1 h1 v2 hm0
    have pspec_l8Run__code_rec : ∀ (w0 : World) (hz : Heap) (r_ : l8Run) (bp0 : Nat) (v1p : Value) (h1p : GT.rep hz [v1p] r_.u.codes) (v2p : Value) (v3p : Value) (v4p : Value) (k_ : Int) (in_ : List Int) (v1 : Value) (h1 : GT.rep hz [v1] in_) (hm0 : Mem w0 hz w0 [blk bp0 [v1p, v2p, (nV r_.out.end_), (nV r_.out.value), v3p, (nV r_.steps), (.bool (r_.over)), v4p] 101, ow [v2p] r_.out.said, ow [v3p] r_.out.cells, ow [v4p] r_.trace]) (r : Int × l8Run) (hq : rec_ r_ k_ in_ = some r), Con Try.prog 88 [(pV bp0), (nV k_), v1] w0 (fun v w' => ∃ (x2 : Value) (x3 : Value) (x4 : Value), v = (nV r.1) ∧ Mem w0 hz w' [blk bp0 [v1p, x2, (nV r.2.out.end_), (nV r.2.out.value), x3, (nV r.2.steps), (.bool (r.2.over)), x4] 101, ow [x2] r.2.out.said, ow [x3] r.2.out.cells, ow [x4] r.2.trace]) := fun w0 hz r_ bp0 v1p h1p v2p v3p v4p k_ in_ v1 h1 hm0 r hq => ih_ r_ k_ in_ r hq w0 hz bp0 v1p h1p v2p v3p v4p v1 h1 hm0
    refine gconr (ρ := l8Run × (List Int)) (R := fun r v w' => ∃ (x2 : Value) (x3 : Value) (x4 : Value), v = (.tuple #[]) ∧ Mem w0 hz w' [blk bp0 [v1p, x2, (nV r.1.out.end_), (nV r.1.out.value), x3, (nV r.1.steps), (.bool (r.1.over)), x4] 101, ow [x2] r.1.out.said, ow [x3] r.1.out.cells, ow [x4] r.1.trace, ow [v2] r.2]) func114 rfl hq ?_
    have hm := hm0
    refine gS (gR (gBx hm rfl fun b0_1 w hm => gE (gS (gR (gF fo_57_3 rfl (gL hm 0 isAgg3 rfl (gA rfl (gE (gS (gR (gA rfl (gE (gS (gS (gR (gF fo_57_2 rfl (gL hm 0 isAgg26 rfl ?_)))))))))))))))))
    obtain ⟨p0_1, c0_1, rfl, hl0_1⟩ := ro_slice h1
    refine gY (yV st_26 rfl) (gB rfl (gE (gJ hm (fun s0_1 => [(0, (pV bp0)), (2, v2), (4, (pV b0_1)), (6, (nV s0_1)), (7, (nV 0))]) (fun s0_1 => [blk bp0 [v1p, v2p, (nV r_.out.end_), (nV r_.out.value), v3p, (nV r_.steps), (.bool (r_.over)), v4p] 101, ow [v2p] r_.out.said, ow [v3p] r_.out.cells, ow [v4p] r_.trace, ow [v2] regs, blk b0_1 [(nV x_.op), (nV x_.to), (.slice p0_1 x_.args.length c0_1), (nV x_.n_)] 57]) (fun s0_1 => ?_) ?_)))
    ·
     refine gsd 18 rfl (fun h1_1 => ?_) fun h1_1 => ?_
     ·
      refine gct rfl (gR (gM rfl (gF fo_57_2 rfl (gL hm 0 isAgg26 rfl (gg fun x1_1 h1_2 hx1_2 => ?_)))))
      obtain ⟨b1_1, o1_1, c1_1, he⟩ := idx_form h1 hx1_2
      simp only [Value.slice.injEq, Option.some.injEq] at he; obtain ⟨rfl, _, rfl⟩ := he
      refine gI st_26 h1_2 (idx_lt hx1_2) rfl (gY (yl isAgg3 ((flat_cells (cs := [(nV x1_1)]) (hm.now h1) hx1_2 rfl).cell (j := 0) rfl) rfl) (gg fun x1_2 h1_3 hx1_4 => ?_))
      obtain ⟨b1_2, o1_2, c1_2, he⟩ := idx_form (hm.ow_rep 5 rfl) hx1_4
      subst he
      exact gI st_26 h1_3 (idx_lt hx1_4) rfl (gY (yl isAgg3 ((flat_cells (cs := [(nV x1_2)]) (hm.ow_rep 5 rfl) hx1_4 rfl).cell (j := 0) rfl) rfl) (gA rfl (gE (gz hm [1, 2, 3, 4, 5, 0] rfl))))
     exact gcf rfl (gSk (gz hm [1, 2, 3, 4, 5, 0] rfl))
    repeat clear hm
    intro s0_1 w hm
    refine gS (gS (gR (gF fo_57_2 rfl (gL hm 5 isAgg26 rfl (gY (yV st_26 rfl) (gB rfl (gE (gJ hm (fun s0_2 => [(0, (pV bp0)), (2, v2), (4, (pV b0_1)), (6, (nV s0_1)), (7, (nV s0_2))]) (fun s0_2 => [blk bp0 [v1p, v2p, (nV r_.out.end_), (nV r_.out.value), v3p, (nV r_.steps), (.bool (r_.over)), v4p] 101, ow [v2p] r_.out.said, ow [v3p] r_.out.cells, ow [v4p] r_.trace, ow [v2] regs, blk b0_1 [(nV x_.op), (nV x_.to), (.slice p0_1 x_.args.length c0_1), (nV x_.n_)] 57]) (fun s0_2 => ?_) ?_))))))))
    ·
     refine gsd 29 rfl (fun h1_4 => ?_) fun h1_4 => ?_
     ·
      refine gct rfl (gR (gM rfl (gF fo_57_2 rfl (gL hm 5 isAgg26 rfl (gg fun x1_3 h1_5 hx1_6 => ?_)))))
      obtain ⟨b1_3, o1_3, c1_3, he⟩ := idx_form h1 hx1_6
      simp only [Value.slice.injEq, Option.some.injEq] at he; obtain ⟨rfl, _, rfl⟩ := he
      refine gI st_26 h1_5 (idx_lt hx1_6) rfl (gY (yl isAgg3 ((flat_cells (cs := [(nV x1_3)]) (hm.now h1) hx1_6 rfl).cell (j := 0) rfl) rfl) (gg fun x1_4 h1_6 hx1_8 => ?_))
      obtain ⟨b1_4, o1_4, c1_4, he⟩ := idx_form (hm.ow_rep 4 rfl) hx1_8
      subst he
      exact gI st_26 h1_6 (idx_lt hx1_8) rfl (gY (yl isAgg3 ((flat_cells (cs := [(nV x1_4)]) (hm.ow_rep 4 rfl) hx1_8 rfl).cell (j := 0) rfl) rfl) (gA rfl (gE (gz hm [0, 1, 2, 3, 4, 5] rfl))))
     exact gcf rfl (gSk (gz hm [0, 1, 2, 3, 4, 5] rfl))
    repeat clear hm
    intro s0_2 w hm
    refine gJge (fun s0_3 a w => ∃ (v0_1 : Value) (v0_2 : Value) (v0_3 : Value), St 137 [] w0 hz [blk bp0 [v1p, v0_1, (nV s0_3.2.1), (nV s0_3.2.2.1), v0_2, (nV s0_3.2.2.2.2.1), (.bool (s0_3.2.2.2.2.2.1)), v0_3] 101, ow [v0_1] s0_3.1, ow [v0_2] s0_3.2.2.2.1, ow [v0_3] s0_3.2.2.2.2.2.2.1, ow [v2] s0_3.2.2.2.2.2.2.2] a w) (fun c0_2 hq0_3 => ?_) ?_
    ·
     refine gBk (gS (gR (gF fo_57_0 rfl (gL hm 5 isAgg3 rfl (gC hm rfl call146 (spec_l8Pure_ok _ x_.op) fun r1_1 hx1_9 w hm => gA rfl (gE (gJge (fun s1_1 a w => ∃ (v1_2 : Value) (v1_3 : Value) (v1_4 : Value), St 137 [] w0 hz [blk bp0 [v1p, v1_2, (nV s1_1.2.1), (nV s1_1.2.2.1), v1_3, (nV s1_1.2.2.2.2.1), (.bool (s1_1.2.2.2.2.2.1)), v1_4] 101, ow [v1_2] s1_1.1, ow [v1_3] s1_1.2.2.2.1, ow [v1_4] s1_1.2.2.2.2.2.2.1, ow [v2] s1_1.2.2.2.2.2.2.2] a w) (fun c1_5 hq1_1 => ?_) ?_)))))))
     ·
      refine gs 45 rfl (fun h2_1 => ?_) fun h2_1 => ?_
      ·
       refine gct rfl (gS (gR (gF fo_57_0 rfl (gL hm 5 isAgg3 rfl (gM rfl (gM rfl (gC hm rfl call147 (spec_l8Do_ok _ x_.op s0_1 s0_2) fun r2_1 hx2_1 w hm => gM rfl (gX rfl (gX rfl (gA rfl (gA rfl (gE (gS (gS (gR (gM rfl (gB rfl (gE (gsd 58 rfl (fun h2_2 => ?_) fun h2_2 => ?_)))))))))))))))))))
       ·
        refine gct rfl (gS (gR (gM rfl (gM rfl ?_))))
        obtain ⟨hz2_1, hle, hm1, hsub, hk2_1⟩ := hm.take2 (L1 := [blk bp0 [v1p, v2p, (nV r_.out.end_), (nV r_.out.value), v3p, (nV r_.steps), (.bool (r_.over)), v4p] 101, ow [v2p] r_.out.said, ow [v3p] r_.out.cells, ow [v4p] r_.trace]) (L2 := [ow [v2] regs, blk b0_1 [(nV x_.op), (nV x_.to), (.slice p0_1 x_.args.length c0_1), (nV x_.n_)] 57]) [0, 1, 2, 3] [4, 5] (by decide) rfl rfl
        refine gCg rfl call145 (pspec_l8Run__stop_ok _ hz2_1 r_ bp0 v1p (GT.mono hle h1p) v2p v3p v4p r2_1.2 hm1 ) ?_
        rintro r2_2 hx2_2 v2_2 w ⟨v2_3, v2_4, v2_5, rfl, hB⟩
        replace hm := hk2_1 _ _ hB; clear hB
        exact gE (gRt (gEr hq1_1 (gEr hq0_3 (gr0 results114 ⟨v2_3, v2_4, v2_5, rfl, hm.pk [0, 1, 2, 3, 4] rfl rfl⟩))))
       refine gcf rfl (gSk (gR (gM rfl (gF fo_57_1 rfl (gL hm 5 isAgg3 rfl (gM rfl (gg fun x2_1 h2_3 hx2_4 => ?_)))))))
       obtain ⟨b2_1, o2_1, c2_1, he⟩ := idx_form (hm.ow_rep 4 rfl) hx2_4
       subst he
       refine gI st_26 h2_3 (idx_lt hx2_4) rfl (gf0 rfl (fun a hf => e_setElem (x1 := r2_1.1) (j := 0) (vs := [(nV r2_1.1)]) 4 hf hm rfl hx2_4 rfl sizeOf3 rfl rfl rfl (one_cons rfl one_nil) rfl rfl) ?_)
       rintro _ w hm
       have hx2_5 := List.getElem?_set_self (a := r2_1.1) (idx_lt hx2_4)
       exact gE (gZe fun a hf => ⟨v2p, v3p, v4p, hf.sb rfl, hm.pk [0, 1, 2, 3, 4] rfl rfl⟩)
      refine gcf rfl (gS (gR (gF fo_57_0 rfl (gL hm 5 isAgg3 rfl (gB rfl (gA rfl (gE (gJg (fun s2_1 a w => ∃ (v2_6 : Value) (v2_7 : Value) (v2_8 : Value), St 137 [] w0 hz [blk bp0 [v1p, v2_6, (nV s2_1.2.1), (nV s2_1.2.2.1), v2_7, (nV s2_1.2.2.2.2.1), (.bool (s2_1.2.2.2.2.2.1)), v2_8] 101, ow [v2_6] s2_1.1, ow [v2_7] s2_1.2.2.2.1, ow [v2_8] s2_1.2.2.2.2.2.2.1, ow [v2] s2_1.2.2.2.2.2.2.2] a w) (fun s2_1 => ?_) ?_))))))))
      ·
       refine gsd 67 rfl (fun h3_1 => ?_) fun h3_1 => ?_
       ·
        refine gct rfl (gR (gM rfl (gM rfl (gY (yG rfl (y_nilptr rfl rfl)) (gF fo_101_1 rfl (gF fo_44_0 rfl (gL hm 0 isAgg26 rfl (gM rfl (gf rfl (fun a hf => e_build (vs := #[(0, (nV s0_1))]) (cs := [(nV s0_1)]) et_26 hf hm rfl rfl (by kernel_rfl) rfl rfl) ?_)))))))))
        rintro _ w ⟨b3_1, rfl, hm⟩
        replace hm := hm.lit (xs := ([s0_1] : List Int)) 0 rfl rfl rfl rfl
        refine gb fun ys3_1 hx3_1 => ?_
        obtain ⟨h3_2, h3_2e⟩ := appM_some.1 hx3_1
        refine gf rfl (fun a hf => e_append 2 et_26 hf hm rfl (hm.ow_rep 0 rfl) rfl rfl rfl h3_2) ?_
        rintro v3_1 w hm
        rw [h3_2e] at hm
        exact gY (yG rfl (y_nilptr rfl rfl)) (gF fo_101_1 rfl (gF fo_44_0 rfl (gS1 hm 1 sizeOf26 (rep_one (hm.ow_rep 2 rfl)) rfl fun w hm => gE (gZ fun a hf => ⟨v3_1, v3p, v4p, hf.sb rfl, hm.pk [1, 2, 3, 4, 5] rfl rfl⟩))))
       refine gcf rfl (gS (gR (gF fo_57_0 rfl (gL hm 5 isAgg3 rfl (gB rfl (gA rfl (gE (gJg (fun s3_1 a w => ∃ (v3_2 : Value) (v3_3 : Value) (v3_4 : Value), St 137 [] w0 hz [blk bp0 [v1p, v3_2, (nV s3_1.2.1), (nV s3_1.2.2.1), v3_3, (nV s3_1.2.2.2.2.1), (.bool (s3_1.2.2.2.2.2.1)), v3_4] 101, ow [v3_2] s3_1.1, ow [v3_3] s3_1.2.2.2.1, ow [v3_4] s3_1.2.2.2.2.2.2.1, ow [v2] s3_1.2.2.2.2.2.2.2] a w) (fun s3_1 => ?_) ?_))))))))
       ·
        refine gsd 83 rfl (fun h4_1 => ?_) fun h4_1 => ?_
        ·
         refine gct rfl (gS (gR (gf rfl (fun a hf => e_build0 (α := Int) et_26 hm rfl) ?_)))
         rintro v4_1 w hm
         refine gA rfl (gE (gS (gS (gR (gA rfl (gE ?_))))))
         obtain ⟨p4_1, c4_1, rfl, hl4_1⟩ := ro_slice (hm.ow_rep 2 rfl)
         obtain ⟨p4_2, c4_2, rfl, hl4_2⟩ := ro_slice (hm.ow_rep 3 rfl)
         obtain ⟨p4_3, c4_3, rfl, hl4_3⟩ := ro_slice (hm.ow_rep 4 rfl)
         obtain ⟨p4_4, c4_4, rfl, hl4_4⟩ := ro_slice (hm.ow_rep 5 rfl)
         obtain ⟨p4_5, c4_5, rfl, hl4_5⟩ := ro_slice (hm.ow_rep 0 rfl)
         refine gBk (gNg (fun i5_1 xs5_1 a w => ∃ (v5_1 : Value), St 137 [(0, (pV bp0)), (2, (.slice p4_4 regs.length c4_4)), (4, (pV b0_1)), (10, v5_1), (11, (nV i5_1))] w0 hz [blk bp0 [v1p, (.slice p4_1 r_.out.said.length c4_1), (nV r_.out.end_), (nV r_.out.value), (.slice p4_2 r_.out.cells.length c4_2), (nV r_.steps), (.bool (r_.over)), (.slice p4_3 r_.trace.length c4_3)] 101, ow [(.slice p4_1 r_.out.said.length c4_1)] r_.out.said, ow [(.slice p4_2 r_.out.cells.length c4_2)] r_.out.cells, ow [(.slice p4_3 r_.trace.length c4_3)] r_.trace, ow [(.slice p4_4 regs.length c4_4)] regs, blk b0_1 [(nV x_.op), (nV x_.to), (.slice p0_1 x_.args.length c0_1), (nV x_.n_)] 57, ow [v5_1] xs5_1] a w) (fun a hf => ⟨(.slice p4_5 ([] : List Int).length c4_5), hf.sb rfl, hm.pk [1, 2, 3, 4, 5, 6, 0] rfl rfl⟩) ?_ ?_)
         ·
          repeat clear hm
          rintro _ _ i5_1 xs5_1 a w ⟨v5_1, hf, hm⟩ hi4_1 hi4_2 q4_1 _
          refine gv hf (gS (gS (gR (gM rfl (gF fo_57_2 rfl (gL hm 5 isAgg26 rfl (gY (yV st_26 rfl) (gB rfl (gE (go _ 92 rfl (decide_eq_true (by omega)) (gct rfl (gSk (gS (gBk (gR (gM rfl (gM rfl (gF fo_57_2 rfl (gL hm 5 isAgg26 rfl (gM rfl (gg fun x5_1 h5_1 hx5_2 => ?_)))))))))))))))))))))
          obtain ⟨b5_1, o5_1, c5_1, he⟩ := idx_form h1 hx5_2
          simp only [Value.slice.injEq, Option.some.injEq] at he; obtain ⟨rfl, _, rfl⟩ := he
          refine gI st_26 h5_1 (idx_lt hx5_2) rfl (gY (yl isAgg3 ((flat_cells (cs := [(nV x5_1)]) (hm.now h1) hx5_2 rfl).cell (j := 0) rfl) rfl) (gg fun x5_2 h5_2 hx5_4 => ?_))
          obtain ⟨b5_2, o5_2, c5_2, he⟩ := idx_form (hm.ow_rep 4 rfl) hx5_4
          simp only [Value.slice.injEq, Option.some.injEq] at he; obtain ⟨rfl, _, rfl⟩ := he
          refine gI st_26 h5_2 (idx_lt hx5_4) rfl (gY (yl isAgg3 ((flat_cells (cs := [(nV x5_2)]) (hm.ow_rep 4 rfl) hx5_4 rfl).cell (j := 0) rfl) rfl) (gf rfl (fun a hf => e_build (vs := #[(0, (nV x5_2))]) (cs := [(nV x5_2)]) et_26 hf hm rfl rfl (by kernel_rfl) rfl rfl) ?_))
          rintro _ w ⟨b5_3, rfl, hm⟩
          replace hm := hm.lit (xs := ([x5_2] : List Int)) 0 rfl rfl rfl rfl
          refine gb fun ys5_1 hx5_5 => ?_
          obtain ⟨h5_3, h5_3e⟩ := appM_some.1 hx5_5
          refine gf rfl (fun a hf => e_append 7 et_26 hf hm rfl (hm.ow_rep 0 rfl) rfl rfl rfl h5_3) ?_
          rintro v5_2 w hm
          rw [h5_3e] at hm
          exact gA rfl (gE (gR (gM rfl (gP (by omega) (by omega) rfl (gA rfl (gE (gZe fun a hf => ⟨v5_2, hf.sb rfl, hm.pk [1, 2, 3, 4, 5, 6, 7] rfl rfl⟩)))))))
         repeat clear hm
         rintro i4_1 xs4_1 a w ⟨v4_2, hf, hm⟩ hi4_3 hi4_4
         refine gv hf (gS (gS (gR (gM rfl (gF fo_57_2 rfl (gL hm 5 isAgg26 rfl (gY (yV st_26 rfl) (gB rfl (gE (go _ 92 rfl (decide_eq_false (by omega)) (gcf rfl (gXt (gHh (gS (gR (gM rfl (gF fo_57_3 rfl (gL hm 5 isAgg3 rfl (gM rfl ?_)))))))))))))))))))
         obtain ⟨hz4_1, hle, hm1, hsub, hk4_1⟩ := hm.take2 (L1 := [blk bp0 [v1p, (.slice p4_1 r_.out.said.length c4_1), (nV r_.out.end_), (nV r_.out.value), (.slice p4_2 r_.out.cells.length c4_2), (nV r_.steps), (.bool (r_.over)), (.slice p4_3 r_.trace.length c4_3)] 101, ow [(.slice p4_1 r_.out.said.length c4_1)] r_.out.said, ow [(.slice p4_2 r_.out.cells.length c4_2)] r_.out.cells, ow [(.slice p4_3 r_.trace.length c4_3)] r_.trace]) (L2 := [ow [(.slice p4_4 regs.length c4_4)] regs, blk b0_1 [(nV x_.op), (nV x_.to), (.slice p0_1 x_.args.length c0_1), (nV x_.n_)] 57, ow [v4_2] xs4_1]) [0, 1, 2, 3] [4, 5, 6] (by decide) rfl rfl
         refine gCg rfl call88 (pspec_l8Run__code_rec _ hz4_1 r_ bp0 v1p (GT.mono hle h1p) (.slice p4_1 r_.out.said.length c4_1) (.slice p4_2 r_.out.cells.length c4_2) (.slice p4_3 r_.trace.length c4_3) x_.n_ xs4_1 v4_2 (fz_ow (hsub 2 _ rfl)) hm1 ) ?_
         rintro r4_2 hx4_1 v4_3 w ⟨v4_4, v4_5, v4_6, rfl, hB⟩
         replace hm := hk4_1 _ _ hB; clear hB
         refine gA rfl (gE (gR (gM rfl (gF fo_57_1 rfl (gL hm 5 isAgg3 rfl (gM rfl (gg fun x4_1 h4_2 hx4_3 => ?_)))))))
         obtain ⟨b4_1, o4_1, c4_6, he⟩ := idx_form (hm.ow_rep 4 rfl) hx4_3
         simp only [Value.slice.injEq, Option.some.injEq] at he; obtain ⟨rfl, _, rfl⟩ := he
         refine gI st_26 h4_2 (idx_lt hx4_3) rfl (gf0 rfl (fun a hf => e_setElem (x1 := r4_2.1) (j := 0) (vs := [(nV r4_2.1)]) 4 hf hm rfl hx4_3 rfl sizeOf3 rfl rfl rfl (one_cons rfl one_nil) rfl rfl) ?_)
         rintro _ w hm
         have hx4_4 := List.getElem?_set_self (a := r4_2.1) (idx_lt hx4_3)
         exact gE (gZ fun a hf => ⟨v4_4, v4_5, v4_6, hf.sb rfl, hm.pk [0, 1, 2, 3, 4] rfl rfl⟩)
        refine gcf rfl (gS (gR (gM rfl (gB rfl (gA rfl (gE (gJg (fun s4_1 a w => ∃ (v4_7 : Value) (v4_8 : Value) (v4_9 : Value), St 137 [] w0 hz [blk bp0 [v1p, v4_7, (nV s4_1.2.1), (nV s4_1.2.2.1), v4_8, (nV s4_1.2.2.2.2.1), (.bool (s4_1.2.2.2.2.2.1)), v4_9] 101, ow [v4_7] s4_1.1, ow [v4_8] s4_1.2.2.2.1, ow [v4_9] s4_1.2.2.2.2.2.2.1, ow [v2] s4_1.2.2.2.2.2.2.2] a w) (fun s4_1 => ?_) ?_)))))))
        ·
         refine gsd 116 rfl (fun h5_4 => ?_) fun h5_4 => ?_
         ·
          refine gct rfl (gR (gM rfl ?_))
          obtain ⟨hz5_1, hle, hm1, hsub, hk5_1⟩ := hm.take2 (L1 := [blk bp0 [v1p, v2p, (nV r_.out.end_), (nV r_.out.value), v3p, (nV r_.steps), (.bool (r_.over)), v4p] 101, ow [v2p] r_.out.said, ow [v3p] r_.out.cells, ow [v4p] r_.trace]) (L2 := [ow [v2] regs, blk b0_1 [(nV x_.op), (nV x_.to), (.slice p0_1 x_.args.length c0_1), (nV x_.n_)] 57]) [0, 1, 2, 3] [4, 5] (by decide) rfl rfl
          refine gCg rfl call145 (pspec_l8Run__stop_ok _ hz5_1 r_ bp0 v1p (GT.mono hle h1p) v2p v3p v4p 2 hm1 ) ?_
          rintro r5_1 hx5_6 v5_3 w ⟨v5_4, v5_5, v5_6, rfl, hB⟩
          replace hm := hk5_1 _ _ hB; clear hB
          exact gE (gZ fun a hf => ⟨v5_4, v5_5, v5_6, hf.sb rfl, hm.pk [0, 1, 2, 3, 4] rfl rfl⟩)
         refine gcf rfl (gS (gR (gF fo_57_0 rfl (gL hm 5 isAgg3 rfl (gB rfl (gA rfl (gE (gJ hm (fun s5_1 => []) (fun s5_1 => [blk bp0 [v1p, v2p, (nV r_.out.end_), (nV r_.out.value), v3p, (nV r_.steps), (.bool (r_.over)), v4p] 101, ow [v2p] r_.out.said, ow [v3p] s5_1.1, ow [v4p] r_.trace, ow [v2] s5_1.2]) (fun s5_1 => ?_) ?_))))))))
         ·
          refine gsd 121 rfl (fun h6_1 => ?_) fun h6_1 => ?_
          ·
           refine gct rfl (gW (.p 0 (.p 1 (.p 3 (.p 4 (.p 5 (.p 6 (.p 8 (.q 2 (.e 7 (.p 9 (.e 10 (.p 11 (.e 12 .fin .nil)) .nil)) .nil))))))))) [7, 10] [0, 1, 3, 4, 5, 6, 8, 9, 11] hm [0, 1, 2, 3, 4, 5] [blk bp0 [v1p, v2p, (nV r_.out.end_), (nV r_.out.value), v3p, (nV r_.steps), (.bool (r_.over)), v4p] 101, ow [v2p] r_.out.said, ow [v3p] r_.out.cells, ow [v4p] r_.trace, ow [v2] regs, blk b0_1 [(nV x_.op), (nV x_.to), (.slice p0_1 x_.args.length c0_1), (nV x_.n_)] 57] rfl mxo (by kernel_rfl) (fun _ _ _ h => h.2) fun w hm hS => tP rfl (fun w => yM rfl) (tP rfl (fun w => yF fo_57_1 rfl) (tP rfl (fun w => yM rfl) (tP rfl (fun w => yG rfl (y_nilptr rfl rfl)) (tP rfl (fun w => yF fo_101_1 rfl) (tP rfl (fun w => yF fo_44_3 rfl) (tP rfl (fun w => yM rfl) (tQ rfl hS (fun w hm => yL hm 5 isAgg3 rfl) (tO (tY rfl (yL hm 0 isAgg26 rfl) (tAs hS (gg fun x6_1 h6_2 hx6_2 => ?_))))))))))))
           obtain ⟨b6_1, o6_1, c6_1, he⟩ := idx_form (hm.ow_rep 2 rfl) hx6_2
           subst he
           refine tP rfl (fun w => yI st_26 h6_2 (idx_lt hx6_2) rfl) (tO (tY rfl (yl isAgg3 ((flat_cells (cs := [(nV x6_1)]) (hm.ow_rep 2 rfl) hx6_2 rfl).cell (j := 0) rfl) rfl) (tAs hS (gg fun x6_2 h6_3 hx6_4 => ?_))))
           obtain ⟨b6_2, o6_2, c6_2, he⟩ := idx_form (hm.ow_rep 4 rfl) hx6_4
           subst he
           refine tP rfl (fun w => yI st_26 h6_3 (idx_lt hx6_4) rfl) (tO (tf0 rfl rfl (fun a hf => e_setElem (x1 := x6_1) (j := 0) (vs := [(nV x6_1)]) 4 hf hm rfl hx6_4 rfl sizeOf3 rfl rfl rfl (one_cons rfl one_nil) rfl rfl) ?_))
           rintro _ w hm
           have hx6_5 := List.getElem?_set_self (a := x6_1) (idx_lt hx6_4)
           exact tAn rfl (tE (gz hm [0, 1, 2, 3, 4] rfl))
          refine gcf rfl (gR (gM rfl (gY (yG rfl (y_nilptr rfl rfl)) (gF fo_101_1 rfl (gF fo_44_3 rfl (gL hm 0 isAgg26 rfl (gM rfl (gM rfl (gg fun x6_3 h6_4 hx6_7 => ?_)))))))))
          obtain ⟨b6_3, o6_3, c6_3, he⟩ := idx_form (hm.ow_rep 2 rfl) hx6_7
          subst he
          refine gI st_26 h6_4 (idx_lt hx6_7) rfl (gf0 rfl (fun a hf => e_setElem (x1 := s0_2) (j := 0) (vs := [(nV s0_2)]) 2 hf hm rfl hx6_7 rfl sizeOf3 rfl rfl rfl (one_cons rfl one_nil) rfl rfl) ?_)
          rintro _ w hm
          have hx6_8 := List.getElem?_set_self (a := s0_2) (idx_lt hx6_7)
          exact gE (gz hm [0, 1, 2, 3, 4] rfl)
         repeat clear hm
         intro s5_1 w hm
         exact gZ fun a hf => ⟨v2p, v3p, v4p, hf.sb rfl, hm.pk [0, 1, 2, 3, 4] rfl rfl⟩
        repeat clear hm
        rintro s4_1 a w ⟨v4_7, v4_8, v4_9, hf, hm⟩
        exact gv hf (gZ fun a hf => ⟨v4_7, v4_8, v4_9, hf.sb rfl, hm.pk [0, 1, 2, 3, 4] rfl rfl⟩)
       repeat clear hm
       rintro s3_1 a w ⟨v3_2, v3_3, v3_4, hf, hm⟩
       exact gv hf (gZ fun a hf => ⟨v3_2, v3_3, v3_4, hf.sb rfl, hm.pk [0, 1, 2, 3, 4] rfl rfl⟩)
      repeat clear hm
      rintro s2_1 a w ⟨v2_6, v2_7, v2_8, hf, hm⟩
      exact gv hf (gZe fun a hf => ⟨v2_6, v2_7, v2_8, hf.sb rfl, hm.pk [0, 1, 2, 3, 4] rfl rfl⟩)
     repeat clear hm
     rintro s1_1 a w ⟨v1_2, v1_3, v1_4, hf, hm⟩
     exact gv hf (gZe fun a hf => ⟨v1_2, v1_3, v1_4, hf.sb rfl, hm.pk [0, 1, 2, 3, 4] rfl rfl⟩)
    repeat clear hm
    rintro s0_3 a w ⟨v0_1, v0_2, v0_3, hf, hm⟩
    exact gv hf (gre results114 ⟨v0_1, v0_2, v0_3, rfl, hm.pk [0, 1, 2, 3, 4] rfl rfl⟩)

theorem pspec_l8Run__code_ok (w0 : World) (hz : Heap) (r_ : l8Run) (bp0 : Nat) (v1p : Value) (h1p : GT.rep hz [v1p] r_.u.codes) (v2p : Value) (v3p : Value) (v4p : Value) (k_ : Int) (in_ : List Int) (v1 : Value) (h1 : GT.rep hz [v1] in_) (hm0 : Mem w0 hz w0 [blk bp0 [v1p, v2p, (nV r_.out.end_), (nV r_.out.value), v3p, (nV r_.steps), (.bool (r_.over)), v4p] 101, ow [v2p] r_.out.said, ow [v3p] r_.out.cells, ow [v4p] r_.trace]) (r : Int × l8Run) (hq : pspec_l8Run__code r_ k_ in_ = some r) : Con Try.prog 88 [(pV bp0), (nV k_), v1] w0 (fun v w' => ∃ (x2 : Value) (x3 : Value) (x4 : Value), v = (nV r.1) ∧ Mem w0 hz w' [blk bp0 [v1p, x2, (nV r.2.out.end_), (nV r.2.out.value), x3, (nV r.2.steps), (.bool (r.2.over)), x4] 101, ow [x2] r.2.out.said, ow [x3] r.2.out.cells, ow [x4] r.2.trace]) := pspec_l8Run__code_all.1 r_ k_ in_ r hq w0 hz bp0 v1p h1p v2p v3p v4p v1 h1 hm0

theorem spec_l8Start_ok (w0 : World) (hz : Heap) (hle0 : Heap.le hz (hp w0)) (u : Unit_) (v1 : Value) (h1 : GT.rep hz [v1] u.codes) (in_ : List Int) (v2 : Value) (h2 : GT.rep hz [v2] in_) (steps : Int) :
    ConM Try.prog 57 [(.agg #[v1]), v2, (nV steps)] w0 (spec_l8Start u in_ steps) fun r v w' => ∃ (b1 : Nat) (x2 : Value) (x3 : Value) (x4 : Value) (x5 : Value) (hz2 : Heap), v = (pV b1) ∧ Heap.le hz hz2 ∧ GT.rep hz2 [x2] r.u.codes ∧ Mem w0 hz2 w' [junk w0 hz, blk b1 [x2, x3, (nV r.out.end_), (nV r.out.value), x4, (nV r.steps), (.bool (r.over)), x5] 101, ow [x3] r.out.said, ow [x4] r.out.cells, ow [x5] r.trace] := by
  unfold spec_l8Start
  refine gcon func57 rfl fun r => ?_
  have hm := Mem.startA hle0
  refine gS (gR (gBx hm rfl fun b0_1 w hm => gA rfl (gE (gS (gJg (fun s0_1 a w => ∃ (b0_2 : Nat) (v0_1 : Value) (v0_2 : Value), St 34 [(1, v2), (3, (pV b0_1)), (7, (pV b0_2))] w0 hz [blk b0_1 [v1] 40, blk b0_2 [v1, v0_1, (nV 0), (nV 0), v0_2, (nV steps), (.bool (false)), (.slice none 0 0)] 101, ow [v0_1] ([] : List Int), ow [v0_2] s0_1, junk w0 hz] a w) (fun s0_1 => ?_) ?_)))))
  ·
   refine gW (.p 1 (.q 0 (.e 2 (.e 3 (.p 4 (.p 5 (.e 6 (.p 7 .fin) .nil))) .nil) (.e 3 (.e 2 (.p 4 (.p 5 (.e 6 (.p 7 .fin) .nil))) .nil) .nil)))) [2, 3] [1, 4, 5, 7] hm [0, 1] [blk b0_1 [v1] 40, junk w0 hz] rfl mxo (by kernel_rfl) (fun _ _ _ h => h.2) fun w hm hS => tP rfl (fun w => yM rfl) (tQ rfl hS (fun w hm => yn (hm.blk_at 0 rfl) isAgg40 sizeOf40 rfl) (gb fun pb1_1 hpb1_1 => tMo ?_ ?_))
   ·
    refine tf rfl rfl (fun a hf => e_build0 (α := Int) et_26 hm rfl) ?_
    rintro v1_1 w hm
    refine tAk hm [1, 2] rfl fun hS => tO ?_
    obtain ⟨⟨h1_11, h1_12⟩, h1_1e⟩ := makeM_some.1 hpb1_1
    refine tf rfl rfl (fun a hf => e_make (x0 := (0 : Int)) et_26 (fun _ => (Flat.own_iff.2 rfl)) hf hm rfl rfl rfl h1_11 (Int.le_refl _) h1_12) ?_
    rintro v1_2 w hm
    rw [h1_1e] at hm
    have h1_1l : (pb1_1.length : Int) = 16 := by rw [← h1_1e]; simp only [List.length_replicate]; omega
    refine tAk hm [2, 3] rfl fun hS => ?_
    obtain ⟨p1_1, c1_1, rfl, hl1_1⟩ := ro_slice (hm.ow_rep 1 rfl)
    obtain ⟨p1_2, c1_2, rfl, hl1_2⟩ := ro_slice (hm.ow_rep 0 rfl)
    refine tP rfl (fun w => yG rfl (y_build (vs := [(0, (.slice p1_1 ([] : List Int).length c1_1)), (3, (.slice p1_2 pb1_1.length c1_2))]) (cs := #[(.slice p1_1 ([] : List Int).length c1_1), (nV 0), (nV 0), (.slice p1_2 pb1_1.length c1_2)]) rfl rfl (by kernel_rfl))) ?_
    obtain ⟨p1_3, c1_3, rfl, hl1_3⟩ := ro_slice h1
    refine tP rfl (fun w => yG rfl (y_build (vs := [(0, (.agg #[(.slice p1_3 u.codes.length c1_3)])), (2, (nV steps)), (1, (.agg #[(.slice p1_1 ([] : List Int).length c1_1), (nV 0), (nV 0), (.slice p1_2 pb1_1.length c1_2)]))]) (cs := #[(.slice p1_3 u.codes.length c1_3), (.slice p1_1 ([] : List Int).length c1_1), (nV 0), (nV 0), (.slice p1_2 pb1_1.length c1_2), (nV steps), (.bool (false)), (.slice none 0 0)]) rfl rfl (by kernel_rfl))) (tO (tf rfl rfl (fun a hf => e_box hf hm rfl rfl rfl) ?_))
    rintro _ w ⟨b1_1, rfl, hm⟩
    exact tAn rfl (tP rfl (fun w => yA rfl) (tE (gZ fun a hf => ⟨b1_1, (.slice p1_1 ([] : List Int).length c1_1), (.slice p1_2 pb1_1.length c1_2), hf.sb rfl, hm.pk [3, 0, 2, 1, 4] rfl rfl⟩)))
   refine tO ?_
   obtain ⟨⟨h1_21, h1_22⟩, h1_2e⟩ := makeM_some.1 hpb1_1
   refine tf rfl rfl (fun a hf => e_make (x0 := (0 : Int)) et_26 (fun _ => (Flat.own_iff.2 rfl)) hf hm rfl rfl rfl h1_21 (Int.le_refl _) h1_22) ?_
   rintro v1_3 w hm
   rw [h1_2e] at hm
   have h1_2l : (pb1_1.length : Int) = 16 := by rw [← h1_2e]; simp only [List.length_replicate]; omega
   refine tAk hm [1, 2] rfl fun hS => tO (tf rfl rfl (fun a hf => e_build0 (α := Int) et_26 hm rfl) ?_)
   rintro v1_4 w hm
   refine tAk hm [2, 3] rfl fun hS => ?_
   obtain ⟨p1_4, c1_4, rfl, hl1_4⟩ := ro_slice (hm.ow_rep 0 rfl)
   obtain ⟨p1_5, c1_5, rfl, hl1_5⟩ := ro_slice (hm.ow_rep 1 rfl)
   refine tP rfl (fun w => yG rfl (y_build (vs := [(0, (.slice p1_4 ([] : List Int).length c1_4)), (3, (.slice p1_5 pb1_1.length c1_5))]) (cs := #[(.slice p1_4 ([] : List Int).length c1_4), (nV 0), (nV 0), (.slice p1_5 pb1_1.length c1_5)]) rfl rfl (by kernel_rfl))) ?_
   obtain ⟨p1_6, c1_6, rfl, hl1_6⟩ := ro_slice h1
   refine tP rfl (fun w => yG rfl (y_build (vs := [(0, (.agg #[(.slice p1_6 u.codes.length c1_6)])), (2, (nV steps)), (1, (.agg #[(.slice p1_4 ([] : List Int).length c1_4), (nV 0), (nV 0), (.slice p1_5 pb1_1.length c1_5)]))]) (cs := #[(.slice p1_6 u.codes.length c1_6), (.slice p1_4 ([] : List Int).length c1_4), (nV 0), (nV 0), (.slice p1_5 pb1_1.length c1_5), (nV steps), (.bool (false)), (.slice none 0 0)]) rfl rfl (by kernel_rfl))) (tO (tf rfl rfl (fun a hf => e_box hf hm rfl rfl rfl) ?_))
   rintro _ w ⟨b1_2, rfl, hm⟩
   exact tAn rfl (tP rfl (fun w => yA rfl) (tE (gZ fun a hf => ⟨b1_2, (.slice p1_4 ([] : List Int).length c1_4), (.slice p1_5 pb1_1.length c1_5), hf.sb rfl, hm.pk [3, 0, 1, 2, 4] rfl rfl⟩)))
  repeat clear hm
  rintro s0_1 a w ⟨b0_2, v0_1, v0_2, hf, hm⟩
  refine gv hf (gS (gR (gM rfl (gF fo_40_0 rfl (gL hm 0 isAgg38 rfl ?_)))))
  obtain ⟨p0_1, c0_1, rfl, hl0_1⟩ := ro_slice h1
  refine gY (yV st_38 rfl) (gY (yS (by omega) (by omega) rfl) (gM rfl ?_))
  replace hm := hm.nilow (α := Int)
  obtain ⟨hz0_1, hle, hm1, hsub, hk0_1⟩ := hm.take2 (L1 := [blk b0_2 [(.slice p0_1 u.codes.length c0_1), v0_1, (nV 0), (nV 0), v0_2, (nV steps), (.bool (false)), (.slice none 0 0)] 101, ow [v0_1] ([] : List Int), ow [v0_2] s0_1, ow [(.slice none 0 0)] ([] : List Int)]) (L2 := [blk b0_1 [(.slice p0_1 u.codes.length c0_1)] 40, junk w0 hz]) [2, 3, 4, 0] [1, 5] (by decide) rfl rfl
  refine gCg rfl call88 (pspec_l8Run__code_ok _ hz0_1 (⟨u, (⟨([] : List Int), 0, 0, s0_1⟩ : Outcome_), steps, false, ([] : List Int)⟩ : l8Run) b0_2 (.slice p0_1 u.codes.length c0_1) (GT.mono hle h1) v0_1 v0_2 (.slice none 0 0) (((u.codes.length : Int)) - 1) in_ v2 (GT.mono hle h2) hm1 ) ?_
  rintro r0_1 hx0_1 v0_3 w ⟨v0_4, v0_5, v0_6, rfl, hB⟩
  replace hm := hk0_1 _ _ hB; clear hB
  refine gA rfl (gE (gS (gS (gR (gM rfl (gY (yG rfl (y_nilptr rfl rfl)) (gF fo_101_3 rfl (gL hm 0 isAgg4 rfl (gN rfl (gE (gJ hm (fun s0_2 => [(7, (pV b0_2))]) (fun s0_2 => [blk b0_2 [(.slice p0_1 u.codes.length c0_1), v0_4, (nV r0_1.2.out.end_), (nV s0_2), v0_5, (nV r0_1.2.steps), (.bool (r0_1.2.over)), v0_6] 101, ow [v0_4] r0_1.2.out.said, ow [v0_5] r0_1.2.out.cells, ow [v0_6] r0_1.2.trace, junk w0 hz]) (fun s0_2 => ?_) ?_)))))))))))
  ·
   refine gsn 27 rfl (fun h1_3 => ?_) fun h1_3 => ?_
   ·
    exact gct rfl (gR (gM rfl (gM rfl (gY (yG rfl (y_nilptr rfl rfl)) (gF fo_101_1 rfl (gF fo_44_2 rfl (gS1 hm 0 sizeOf3 rfl rfl fun w hm => gE (gz hm [0, 1, 2, 3, 5] rfl))))))))
   exact gcf rfl (gSk (gz hm [0, 1, 2, 3, 5] rfl))
  repeat clear hm
  intro s0_2 w hm
  exact gS (gR (gM rfl (gA rfl (gE (gRt (gr1 results57 rfl ⟨b0_2, (.slice p0_1 u.codes.length c0_1), v0_4, v0_5, v0_6, hz, rfl, (Heap.le_refl _), h1, hm.pk [4, 0, 1, 2, 3] rfl rfl⟩))))))

theorem spec_StepsOf_ok (w0 : World) (u : Unit_) (v1 : Value) (h1 : GT.rep (hp w0) [v1] u.codes) (in_ : List Int) (v2 : Value) (h2 : GT.rep (hp w0) [v2] in_) :
    ConM Try.prog 26 [(.agg #[v1]), v2] w0 (spec_StepsOf u in_) fun r v w' => v = (nV r) ∧ Below w0.heap.size w0 w' := by
  unfold spec_StepsOf
  refine gcon func26 rfl fun r => ?_
  have hm := Mem.start w0
  refine gS (gR (gBx hm rfl fun b0_1 w hm => gA rfl (gE (gS (gS (gR (gY (yn (hm.blk_at 0 rfl) isAgg40 sizeOf40 rfl) (gM rfl (gC hm rfl call55 (spec_l8Fits_ok _ u v1 (hm.now h1) in_ v2 (hm.now h2)) fun r0_1 hx0_1 w hm => gN rfl (gE (gsn 9 rfl (fun h0_1 => ?_) fun h0_1 => ?_)))))))))))
  ·
   exact gct rfl (gS (gR (gA rfl (gE (gRt (gr1 results26 rfl ⟨rfl, hm.below⟩))))))
  refine gcf rfl (gSk (gS (gR (gY (yn (hm.blk_at 0 rfl) isAgg40 sizeOf40 rfl) (gM rfl (gCg rfl call57 (spec_l8Start_ok _ _ hm.lez u v1 h1 in_ v2 h2 60000 ) ?_))))))
  rintro r0_2 hx0_2 v0_2 w ⟨b0_2, v0_3, v0_4, v0_5, v0_6, hz0_1, rfl, hle0_1, h0_2, hB⟩
  replace hm := Mem.giveA hm hle0_1 hB; clear hB
  refine gA rfl (gE (gS (gS (gR (gM rfl (gY (yG rfl (y_nilptr rfl rfl)) (gF fo_101_1 rfl (gF fo_44_1 rfl (gL hm 0 isAgg3 rfl (gB rfl (gE (gsd 18 rfl (fun h0_3 => ?_) fun h0_3 => ?_))))))))))))
  ·
   refine gct rfl (gS (gR (gA rfl (gE (gRt ?_)))))
   replace hm := hm.thaw hle0_1
   exact gr1 results26 rfl ⟨rfl, hm.below⟩
  refine gcf rfl (gSk (gS (gR (gM rfl (gY (yG rfl (y_nilptr rfl rfl)) (gF fo_101_2 rfl (gL hm 0 isAgg3 rfl (gB rfl (gA rfl (gE (gRt ?_)))))))))))
  replace hm := hm.thaw hle0_1
  exact gr1 results26 rfl ⟨rfl, hm.below⟩

theorem impl_InsCount_ok (w0 : World) (u : Unit_) (v1 : Value) (h1 : GT.rep (hp w0) [v1] u.codes) :
    ConM Try.prog 27 [(.agg #[v1])] w0 (impl_InsCount u) fun r v w' => v = (nV r) ∧ Below w0.heap.size w0 w' := by
  unfold impl_InsCount
  refine gcon func27 rfl fun r => ?_
  have hm := Mem.start w0
  refine gS (gR (gBx hm rfl fun b0_1 w hm => gA rfl (gE (gS (gS (gR (gY (yn (hm.blk_at 0 rfl) isAgg40 sizeOf40 rfl) (gC hm rfl call61 (impl_UnitValid_ok _ u v1 (hm.now h1)) fun r0_1 hx0_1 w hm => gN rfl (gE (gsn 8 rfl (fun h0_1 => ?_) fun h0_1 => ?_))))))))))
  ·
   exact gct rfl (gS (gR (gA rfl (gE (gRt (gr1 results27 rfl ⟨rfl, hm.below⟩))))))
  refine gcf rfl (gSk (gS (gR (gA rfl (gE (gS (gS (gR (gF fo_40_0 rfl (gL hm 0 isAgg38 rfl ?_))))))))))
  obtain ⟨p0_1, c0_1, rfl, hl0_1⟩ := ro_slice h1
  refine gY (yV st_38 rfl) (gM rfl (gE (gBk (gNf hm (fun i1_1 xs1_1 => [(3, (nV xs1_1)), (10, (.slice p0_1 u.codes.length c0_1)), (11, (nV ((u.codes.length : Int)))), (12, (nV i1_1))]) (fun i1_1 xs1_1 => []) [] rfl ?_ ?_))))
  ·
   repeat clear hm
   intro _ _ i1_1 xs1_1 w hm hi0_1 hi0_2 q0_1 _
   refine gS (gR (gB rfl (gE (gS (go _ 13 rfl (decide_eq_true (by omega)) (gct rfl (gSk (gS (gBk (gS (gR (gg fun x1_1 h1_1 hx1_2 => ?_))))))))))))
   obtain ⟨b1_1, o1_1, c1_1, he⟩ := idx_form' h1 hx1_2
   simp only [Value.slice.injEq, Option.some.injEq] at he; obtain ⟨rfl, _, rfl⟩ := he
   obtain ⟨_, _, hc1_1, hr1_1⟩ := ro_get' h1 hx1_2
   obtain ⟨_, _, rfl, rfl, _, _, rfl, rfl, h1_2⟩ := hr1_1
   obtain ⟨v1_1, rfl, -⟩ := id h1_2
   replace h1_2 : GT.rep (hp w0) [v1_1] x1_1.blocks := h1_2
   replace hc1_1 : CellsAt (hp w0) b1_1 (o1_1 + (i1_1).toNat * 3) [(nV x1_1.params), (nV x1_1.regs), v1_1] := hc1_1
   exact gI st_38 h1_1 (idx_lt hx1_2) rfl (gY (yn (hc1_1.mono hm.lez) isAgg55 sizeOf55 rfl) (gAl hm zeroValue55 rfl fun b1_2 w hm => gSN hm 0 sizeOf55 (one_cons rfl (one_cons rfl (one_cons (rep_one h1_2) one_nil))) rfl fun w hm => gE (gR (gM rfl (gY (yn (hm.blk_at 0 rfl) isAgg55 sizeOf55 rfl) (gC hm rfl call62 (impl_codeCount_ok _ x1_1 v1_1 (hm.now h1_2)) fun r1_1 hx1_3 w hm => gB rfl (gA rfl (gE (gR (gP (by omega) (by omega) rfl (gM rfl (gE (gze hm [] rfl)))))))))))))
  repeat clear hm
  intro i0_1 xs0_1 w hm hi0_3 hi0_4
  exact gS (gR (gB rfl (gE (gS (go _ 13 rfl (decide_eq_false (by omega)) (gcf rfl (gXt (gHh (gS (gR (gM rfl (gA rfl (gE (gRt (gr1 results27 rfl ⟨rfl, hm.below⟩)))))))))))))))

theorem impl_RunUnit_ok (w0 : World) (u : Unit_) (v1 : Value) (h1 : GT.rep (hp w0) [v1] u.codes) (in_ : List Int) (v2 : Value) (h2 : GT.rep (hp w0) [v2] in_) (steps : Int) :
    ConM Try.prog 19 [(.agg #[v1]), v2, (nV steps)] w0 (impl_RunUnit u in_ steps) fun r v w' => ∃ (x1 : Value) (x2 : Value), v = (.tuple #[(.agg #[x1, (nV r.1.end_), (nV r.1.value), x2]), (.bool (r.2))]) ∧ Mem w0 (hp w0) w' [ow [x1] r.1.said, ow [x2] r.1.cells] := by
  unfold impl_RunUnit
  refine gcon func19 rfl fun r => ?_
  have hm := Mem.start w0
  refine gS (gR (gBx hm rfl fun b0_1 w hm => gAl hm zeroValue44 rfl fun b0_2 w hm => gA rfl (gE (gS (gS (gR (gY (yn (hm.blk_at 1 rfl) isAgg40 sizeOf40 rfl) (gM rfl (gM rfl (gC hm rfl call53 (impl_unitRuns_ok _ u v1 (hm.now h1) in_ v2 (hm.now h2) steps) fun r0_1 hx0_1 w hm => gN rfl (gE (gsn 14 rfl (fun h0_1 => ?_) fun h0_1 => ?_))))))))))))
  ·
   refine gct rfl (gS (gR (gY (yG rfl (y_build (vs := []) (cs := #[(.slice none 0 0), (nV 0), (nV 0), (.slice none 0 0)]) rfl rfl (by kernel_rfl))) (gSN hm 0 sizeOf44 (one_cons rfl (one_cons rfl (one_cons rfl (one_cons rfl one_nil)))) rfl fun w hm => gA rfl (gE (gRt ?_))))))
   replace hm := hm.nilow (α := Int)
   replace hm := hm.nilow (α := Int)
   exact grct 2 results19 hm rfl isAgg44 sizeOf44 ⟨(.slice none 0 0), (.slice none 0 0), rfl, hm.pk [1, 0] rfl rfl⟩
  refine gcf rfl (gSk (gS (gR (gY (yn (hm.blk_at 1 rfl) isAgg40 sizeOf40 rfl) (gM rfl (gM rfl (gCg rfl call54 (impl_runUnit_ok _ _ hm.lez u v1 h1 in_ v2 h2 steps ) ?_)))))))
  rintro r0_2 hx0_2 v0_2 w ⟨v0_3, v0_4, b0_3, v0_5, v0_6, hz0_1, rfl, hle0_1, h0_2, hB⟩
  replace hm := Mem.giveA hm hle0_1 hB; clear hB
  refine gM rfl (gX rfl (gX rfl (gAl hm zeroValue44 rfl fun b0_4 w hm => gSN hm 0 sizeOf44 (one_cons (rep_one (hm.ow_rep 2 rfl)) (one_cons rfl (one_cons rfl (one_cons (rep_one (hm.ow_rep 3 rfl)) one_nil)))) rfl fun w hm => gA rfl (gE (gS (gR (gY (yn (hm.blk_at 0 rfl) isAgg44 sizeOf44 rfl) (gSN hm 5 sizeOf44 (one_cons (rep_one (hm.ow_rep 2 rfl)) (one_cons rfl (one_cons rfl (one_cons (rep_one (hm.ow_rep 3 rfl)) one_nil)))) rfl fun w hm => gA rfl (gE (gRt ?_))))))))))
  replace hm := hm.thaw hle0_1
  exact grct 5 results19 hm rfl isAgg44 sizeOf44 ⟨v0_3, v0_4, rfl, hm.pk [2, 3] rfl rfl⟩

theorem slices_Equal_S_int_int_ok (w0 : World) (s1 : List Int) (v1 : Value) (h1 : GT.rep (hp w0) [v1] s1) (s2 : List Int) (v2 : Value) (h2 : GT.rep (hp w0) [v2] s2) :
    ConM Try.prog 59 [v1, v2] w0 (slices_Equal_S_int_int s1 s2) fun r v w' => v = (.bool (r)) ∧ Below w0.heap.size w0 w' := by
  unfold slices_Equal_S_int_int
  refine gcon func59 rfl fun r => ?_
  have hm := Mem.start w0
  refine gS (gR (gA rfl (gE (gS (gS (gR (gM rfl ?_)))))))
  obtain ⟨p0_1, c0_1, rfl, hl0_1⟩ := ro_slice h1
  refine gY (yV st_26 rfl) (gM rfl ?_)
  obtain ⟨p0_2, c0_2, rfl, hl0_2⟩ := ro_slice h2
  refine gY (yV st_26 rfl) (gB rfl (gE (gsd 10 rfl (fun h0_1 => ?_) fun h0_1 => ?_)))
  ·
   exact gct rfl (gS (gR (gA rfl (gE (gRt (gr1 results59 rfl ⟨rfl, hm.below⟩))))))
  refine gcf rfl (gSk (gS (gS (gR (gM rfl (gY (yV st_26 rfl) (gM rfl (gE (gBk (gNf hm (fun i1_1 xs1_1 => [(0, (.slice p0_1 s1.length c0_1)), (1, (.slice p0_2 s2.length c0_2)), (12, (nV ((s1.length : Int)))), (13, (nV i1_1))]) (fun i1_1 xs1_1 => []) [] rfl ?_ ?_))))))))))
  ·
   repeat clear hm
   intro r0_1 hq0_1 i1_1 xs1_1 w hm hi0_1 hi0_2 q0_1 ho0_1
   refine gS (gR (gB rfl (gE (gS (go _ 14 rfl (decide_eq_true (by omega)) (gct rfl (gSk (gS (gBk (gS (gR (gM rfl (gA rfl (gE (gS (gW (.p 0 (.p 1 (.p 2 (.p 4 (.p 5 (.p 6 (.q 3 (.e 7 (.p 8 .fin) .nil)))))))) [7] [0, 1, 2, 4, 5, 6, 8] hm [] [] rfl mxo (by kernel_rfl) (fun _ _ _ h => h.2) fun w hm hS => tP rfl (fun w => yM rfl) (tP rfl (fun w => yM rfl) (gg fun x1_1 h1_1 hx1_2 => ?_))))))))))))))))))
   obtain ⟨b1_1, o1_1, c1_1, he⟩ := idx_form h1 hx1_2
   simp only [Value.slice.injEq, Option.some.injEq] at he; obtain ⟨rfl, _, rfl⟩ := he
   refine tP rfl (fun w => yI st_26 h1_1 (idx_lt hx1_2) rfl) (tP rfl (fun w => yM rfl) (tP rfl (fun w => yM rfl) (gg fun x1_2 h1_2 hx1_4 => ?_)))
   obtain ⟨b1_2, o1_2, c1_2, he⟩ := idx_form h2 hx1_4
   simp only [Value.slice.injEq, Option.some.injEq] at he; obtain ⟨rfl, _, rfl⟩ := he
   refine tP rfl (fun w => yI st_26 h1_2 (idx_lt hx1_4) rfl) (tQ rfl hS (fun w hm => yl isAgg3 ((flat_cells (cs := [(nV x1_1)]) (hm.now h1) hx1_2 rfl).cell (j := 0) rfl) rfl) (tO (tY rfl (yl isAgg3 ((flat_cells (cs := [(nV x1_2)]) (hm.now h2) hx1_4 rfl).cell (j := 0) rfl) rfl) (tAs hS (tP rfl (fun w => yB rfl) (tE (gsd 24 rfl (fun h1_3 => ?_) fun h1_3 => ?_)))))))
   ·
    exact gct rfl (gS (gR (gA rfl (gE (gRt (gLr ho0_1 hq0_1 (gr1 results59 rfl ⟨rfl, hm.below⟩)))))))
   exact gcf rfl (gSk (gR (gP (by omega) (by omega) rfl (gM rfl (gE (gze hm [] rfl))))))
  repeat clear hm
  intro i0_1 xs0_1 w hm hi0_3 hi0_4
  exact gS (gR (gB rfl (gE (gS (go _ 14 rfl (decide_eq_false (by omega)) (gcf rfl (gXt (gHh (gS (gR (gA rfl (gE (gRt (gr1 results59 rfl ⟨rfl, hm.below⟩))))))))))))))

theorem impl_SameOutcome_ok (w0 : World) (a_ : Outcome_) (v1 : Value) (h1 : GT.rep (hp w0) [v1] a_.said) (v2 : Value) (h2 : GT.rep (hp w0) [v2] a_.cells) (b_ : Outcome_) (v3 : Value) (h3 : GT.rep (hp w0) [v3] b_.said) (v4 : Value) (h4 : GT.rep (hp w0) [v4] b_.cells) :
    ConM Try.prog 22 [(.agg #[v1, (nV a_.end_), (nV a_.value), v2]), (.agg #[v3, (nV b_.end_), (nV b_.value), v4])] w0 (impl_SameOutcome a_ b_) fun r v w' => v = (.bool (r)) ∧ Below w0.heap.size w0 w' := by
  unfold impl_SameOutcome
  refine gcon func22 rfl fun r => ?_
  have hm := Mem.start w0
  refine gS (gR (gBx hm rfl fun b0_1 w hm => gBx hm rfl fun b0_2 w hm => gA rfl (gE (gS (gJ hm (fun s0_1 => [(4, (.bool (s0_1)))]) (fun s0_1 => []) (fun s0_1 => ?_) ?_)))))
  ·
   refine gR (gF fo_44_0 rfl (gL hm 1 isAgg26 rfl (gF fo_44_0 rfl (gL hm 0 isAgg26 rfl (gC hm rfl call59 (slices_Equal_S_int_int_ok _ a_.said v1 (hm.now h1) b_.said v3 (hm.now h3)) fun r1_1 hx1_1 w hm => gM rfl (gs 10 rfl (fun h1_1 => ?_) fun h1_1 => ?_))))))
   ·
    refine gF fo_44_1 rfl (gL hm 1 isAgg3 rfl (gF fo_44_1 rfl (gL hm 0 isAgg3 rfl (gB rfl (gKt rfl (gM rfl (gsd 17 rfl (fun h1_2 => ?_) fun h1_2 => ?_)))))))
    ·
     refine gF fo_44_2 rfl (gL hm 1 isAgg3 rfl (gF fo_44_2 rfl (gL hm 0 isAgg3 rfl (gB rfl (gKt rfl (gM rfl (gsd 24 rfl (fun h1_3 => ?_) fun h1_3 => ?_)))))))
     ·
      exact gF fo_44_3 rfl (gL hm 1 isAgg26 rfl (gF fo_44_3 rfl (gL hm 0 isAgg26 rfl (gC hm rfl call59 (slices_Equal_S_int_int_ok _ a_.cells v2 (hm.now h2) b_.cells v4 (hm.now h4)) fun r1_2 hx1_2 w hm => gKt rfl (gA rfl (gE (gz hm [] rfl)))))))
     exact gO rfl (gO rfl (gO rfl (gO rfl (gO rfl (gKf rfl (gA rfl (gE (gz hm [] rfl))))))))
    exact gO rfl (gO rfl (gO rfl (gO rfl (gO rfl (gKf rfl (gM rfl (gO rfl (gO rfl (gO rfl (gO rfl (gO rfl (gKf rfl (gA rfl (gE (gz hm [] rfl)))))))))))))))
   exact gO rfl (gO rfl (gO rfl (gO rfl (gO rfl (gKf rfl (gM rfl (gO rfl (gO rfl (gO rfl (gO rfl (gO rfl (gKf rfl (gM rfl (gO rfl (gO rfl (gO rfl (gO rfl (gO rfl (gKf rfl (gA rfl (gE (gz hm [] rfl))))))))))))))))))))))
  repeat clear hm
  intro s0_1 w hm
  exact gRt (gr1 results22 rfl ⟨rfl, hm.below⟩)

theorem laws_FnCalledCode_ok (w0 : World) (code : List UInt8) (v1 : Value) (h1 : GT.rep (hp w0) [v1] code) :
    ConM Try.prog 5 [v1] w0 (laws_FnCalledCode code) fun r v w' => v = (.bool (r)) ∧ Below w0.heap.size w0 w' := by
  unfold laws_FnCalledCode
  refine gcon func5 rfl fun r => ?_
  have hm := Mem.start w0
  refine gS (gR (gA rfl (gE (gS (gS (gR (gM rfl ?_)))))))
  obtain ⟨p0_1, c0_1, rfl, hl0_1⟩ := ro_slice h1
  refine gY (yV st_37 rfl) (gB rfl (gE (gsd 19 rfl (fun h0_1 => ?_) fun h0_1 => ?_)))
  ·
   exact gct rfl (gS (gR (gA rfl (gE (gRt (gr1 results5 rfl ⟨rfl, hm.below⟩))))))
  refine gcf rfl (gSk (gS (gR (gM rfl (gCg rfl call24 (spec_DrawStepsOf_ok _ code (.slice p0_1 code.length c0_1) (hm.now h1)) ?_)))))
  rintro r0_1 hx0_1 v0_1 w ⟨v0_2, v0_3, rfl, hB⟩
  replace hm := hm.give hB; clear hB
  refine gM rfl (gX rfl (gX rfl (gAl hm zeroValue40 rfl fun b0_1 w hm => gSN hm 0 sizeOf40 (one_cons (rep_one (hm.ow_rep 1 rfl)) one_nil) rfl fun w hm => gA rfl (gE (gS (gR (gY (yn (hm.blk_at 0 rfl) isAgg40 sizeOf40 rfl) (gM rfl (gC hm rfl call25 (impl_StepsOf_ok _ r0_1.1 v0_2 (hm.ow_rep 1 rfl) r0_1.2 v0_3 (hm.ow_rep 2 rfl)) fun r0_2 hx0_2 w hm => gA rfl (gE (gS (gS (gJ hm (fun s0_1 => [(3, (pV b0_1)), (4, v0_3), (5, (nV r0_2)), (52, (.bool (s0_1)))]) (fun s0_1 => [blk b0_1 [v0_2] 40, ow [v0_2] r0_1.1.codes, ow [v0_3] r0_1.2]) (fun s0_1 => ?_) ?_)))))))))))))
  ·
   refine gR (gM rfl (gY (yn (hm.blk_at 0 rfl) isAgg40 sizeOf40 rfl) (gM rfl (gC hm rfl call26 (spec_StepsOf_ok _ r0_1.1 v0_2 (hm.ow_rep 1 rfl) r0_1.2 v0_3 (hm.ow_rep 2 rfl)) fun r1_1 hx1_1 w hm => gB rfl (gM rfl (gsd 33 rfl (fun h1_1 => ?_) fun h1_1 => ?_))))))
   ·
    exact gO rfl (gO rfl (gKt rfl (gM rfl (gO rfl (gO rfl (gO rfl (gO rfl (gKt rfl (gM rfl (gO rfl (gO rfl (gO rfl (gKt rfl (gM rfl (gO rfl (gO rfl (gO rfl (gKt rfl (gE (gz hm [0, 1, 2] rfl))))))))))))))))))))
   refine gM rfl (gB rfl (gKf rfl (gM rfl (gsd 37 rfl (fun h1_2 => ?_) fun h1_2 => ?_))))
   ·
    exact gO rfl (gO rfl (gO rfl (gO rfl (gKt rfl (gM rfl (gO rfl (gO rfl (gO rfl (gKt rfl (gM rfl (gO rfl (gO rfl (gO rfl (gKt rfl (gE (gz hm [0, 1, 2] rfl))))))))))))))))
   refine gF fo_40_0 rfl (gL hm 0 isAgg38 rfl ?_)
   obtain ⟨p1_1, c1_1, rfl, hl1_1⟩ := ro_slice (hm.ow_rep 1 rfl)
   refine gY (yV st_38 rfl) (gB rfl (gKf rfl (gM rfl (gsd 43 rfl (fun h1_3 => ?_) fun h1_3 => ?_))))
   ·
    exact gO rfl (gO rfl (gO rfl (gKt rfl (gM rfl (gO rfl (gO rfl (gO rfl (gKt rfl (gE (gz hm [0, 1, 2] rfl))))))))))
   refine gM rfl (gB rfl (gB rfl (gKf rfl (gM rfl (gsd 48 rfl (fun h1_4 => ?_) fun h1_4 => ?_)))))
   ·
    exact gO rfl (gO rfl (gO rfl (gKt rfl (gE (gz hm [0, 1, 2] rfl)))))
   exact gY (yn (hm.blk_at 0 rfl) isAgg40 sizeOf40 rfl) (gC hm rfl call27 (impl_InsCount_ok _ r0_1.1 (.slice p1_1 r0_1.1.codes.length c1_1) (hm.ow_rep 1 rfl)) fun r1_2 hx1_2 w hm => gB rfl (gKf rfl (gE (gz hm [0, 1, 2] rfl))))
  repeat clear hm
  intro s0_1 w hm
  refine gs 52 rfl (fun h0_2 => ?_) fun h0_2 => ?_
  ·
   exact gct rfl (gS (gR (gM rfl (gY (yn (hm.blk_at 0 rfl) isAgg40 sizeOf40 rfl) (gM rfl (gC hm rfl call26 (spec_StepsOf_ok _ r0_1.1 v0_2 (hm.ow_rep 1 rfl) r0_1.2 v0_3 (hm.ow_rep 2 rfl)) fun r0_3 hx0_3 w hm => gB rfl (gA rfl (gE (gRt (gr1 results5 rfl ⟨rfl, hm.below⟩))))))))))
  refine gcf rfl (gSk (gS (gR (gF fo_40_0 rfl (gL hm 0 isAgg38 rfl ?_)))))
  obtain ⟨p0_2, c0_2, rfl, hl0_2⟩ := ro_slice (hm.ow_rep 1 rfl)
  refine gY (yV st_38 rfl) (gY (yS (by omega) (by omega) rfl) (gA rfl (gE (gS (gR (gF fo_40_0 rfl (gL hm 0 isAgg38 rfl (gM rfl (gg fun x0_1 h0_3 hx0_5 => ?_)))))))))
  obtain ⟨b0_2, o0_1, c0_3, he⟩ := idx_form' (hm.ow_rep 1 rfl) hx0_5
  simp only [Value.slice.injEq, Option.some.injEq] at he; obtain ⟨rfl, _, rfl⟩ := he
  obtain ⟨_, _, hc0_1, hr0_1⟩ := ro_get' (hm.ow_rep 1 rfl) hx0_5
  obtain ⟨_, _, rfl, rfl, _, _, rfl, rfl, h0_4⟩ := hr0_1
  obtain ⟨v0_6, rfl, -⟩ := id h0_4
  replace h0_4 : GT.rep (hp _) [v0_6] x0_1.blocks := h0_4
  replace hc0_1 : CellsAt (hp _) b0_2 (o0_1 + (((r0_1.1.codes.length : Int)) - 1).toNat * 3) [(nV x0_1.params), (nV x0_1.regs), v0_6] := hc0_1
  refine gI st_38 h0_3 (idx_lt hx0_5) rfl (gF fo_55_0 rfl (gY (yl isAgg3 (hc0_1.cell (j := 0) rfl) rfl) (gA rfl (gE (gS (gR (gf rfl (fun a hf => e_build0 (α := Int) et_26 hm rfl) ?_)))))))
  rintro v0_7 w hm
  refine gA rfl (gE (gS (gS (gR (gM rfl (gM rfl (gE ?_)))))))
  obtain ⟨p0_3, c0_4, rfl, hl0_3⟩ := ro_slice (hm.ow_rep 3 rfl)
  obtain ⟨p0_4, c0_5, rfl, hl0_4⟩ := ro_slice (hm.ow_rep 0 rfl)
  refine gBk (gb fun _ hfit0_1 => ?_)
  replace hfit0_1 := fitI_some.1 hfit0_1
  refine gNg (fun i1_1 xs1_1 a w => ∃ (v1_3 : Value), St 136 [(3, (pV b0_1)), (4, (.slice p0_3 r0_1.2.length c0_4)), (5, (nV r0_2)), (6, (nV (((r0_1.1.codes.length : Int)) - 1))), (7, (nV x0_1.params)), (8, v1_3), (69, (nV x0_1.params)), (70, (nV i1_1))] w0 (hp w0) [blk b0_1 [(sV b0_2 o0_1 r0_1.1.codes.length c0_2)] 40, ow [(sV b0_2 o0_1 r0_1.1.codes.length c0_2)] r0_1.1.codes, ow [(.slice p0_3 r0_1.2.length c0_4)] r0_1.2, ow [v1_3] xs1_1] a w) (fun a hf => ⟨(.slice p0_4 ([] : List Int).length c0_5), hf.sb rfl, hm.pk [1, 2, 3, 0] rfl rfl⟩) ?_ ?_
  ·
   repeat clear hm
   rintro _ _ i1_1 xs1_1 a w ⟨v1_3, hf, hm⟩ hi0_1 hi0_2 q0_1 _
   refine gv hf (gS (gR (gB rfl (gE (gS (go _ 71 rfl (decide_eq_true (by omega)) (gct rfl (gSk (gS (gBk (gS (gR (gM rfl (gA rfl (gE (gR (gM rfl (gM rfl (gf rfl (fun a hf => e_build (vs := #[(0, (nV i1_1))]) (cs := [(nV i1_1)]) et_26 hf hm rfl rfl (by kernel_rfl) rfl rfl) ?_)))))))))))))))))))
   rintro _ w ⟨b1_1, rfl, hm⟩
   replace hm := hm.lit (xs := ([i1_1] : List Int)) 0 rfl rfl rfl rfl
   refine gb fun ys1_1 hx1_3 => ?_
   obtain ⟨h1_5, h1_5e⟩ := appM_some.1 hx1_3
   refine gf rfl (fun a hf => e_append 4 et_26 hf hm rfl (hm.ow_rep 0 rfl) rfl rfl rfl h1_5) ?_
   rintro v1_4 w hm
   rw [h1_5e] at hm
   exact gA rfl (gE (gR (gP (by omega) (by omega) rfl (gM rfl (gE (gZe fun a hf => ⟨v1_4, hf.sb rfl, hm.pk [1, 2, 3, 4] rfl rfl⟩))))))
  repeat clear hm
  rintro i0_1 xs0_1 a w ⟨v0_8, hf, hm⟩ hi0_3 hi0_4
  refine gv hf (gS (gR (gB rfl (gE (gS (go _ 71 rfl (decide_eq_false (by omega)) (gcf rfl (gXt (gHh (gS (gR (gM rfl (gM rfl (gB rfl (gM rfl (gM rfl (gM rfl ?_)))))))))))))))))
  obtain ⟨p0_5, c0_6, rfl, hl0_5⟩ := ro_slice (hm.ow_rep 3 rfl)
  refine gY (yG rfl (y_build (vs := [(0, (nV 14)), (1, (nV x0_1.params)), (2, (.slice p0_5 xs0_1.length c0_6)), (3, (nV (((r0_1.1.codes.length : Int)) - 1)))]) (cs := #[(nV 14), (nV x0_1.params), (.slice p0_5 xs0_1.length c0_6), (nV (((r0_1.1.codes.length : Int)) - 1))]) rfl rfl (by kernel_rfl))) (gf rfl (fun a hf => e_build (vs := #[(0, (.agg #[(nV 14), (nV x0_1.params), (.slice p0_5 xs0_1.length c0_6), (nV (((r0_1.1.codes.length : Int)) - 1))]))]) (cs := [(nV 14), (nV x0_1.params), (.slice p0_5 xs0_1.length c0_6), (nV (((r0_1.1.codes.length : Int)) - 1))]) et_58 hf hm rfl rfl (by kernel_rfl) rfl rfl) ?_)
  rintro _ w ⟨b0_3, rfl, hm⟩
  replace hm := hm.els_nil (α := Ins_)
  replace hm := hm.own0 (c := [(nV 14)]) (x := (14 : Int)) (fun h => Flat.own_iff.2 rfl)
  replace hm := hm.own0 (c := [(nV x0_1.params)]) (x := (x0_1.params : Int)) (fun h => Flat.own_iff.2 rfl)
  replace hm := hm.own0 (c := [(nV (((r0_1.1.codes.length : Int)) - 1))]) (x := (((r0_1.1.codes.length : Int)) - 1 : Int)) (fun h => Flat.own_iff.2 rfl)
  replace hm := hm.pair (x := (xs0_1 : List Int)) (y := (((r0_1.1.codes.length : Int)) - 1 : Int)) 8 0 (by decide) rfl rfl
  replace hm := hm.pair (x := (x0_1.params : Int)) (y := ((xs0_1, ((r0_1.1.codes.length : Int)) - 1) : (List Int) × Int)) 1 8 (by decide) rfl rfl
  replace hm := hm.pair (x := (14 : Int)) (y := ((x0_1.params, (xs0_1, ((r0_1.1.codes.length : Int)) - 1)) : Int × (List Int) × Int)) 2 1 (by decide) rfl rfl
  replace hm := hm.imp (c' := ow [(nV 14), (nV x0_1.params), (.slice p0_5 xs0_1.length c0_6), (nV (((r0_1.1.codes.length : Int)) - 1))] ((⟨14, x0_1.params, xs0_1, ((r0_1.1.codes.length : Int)) - 1⟩ : Ins_) : Ins_)) 2 rfl (fun F h0 => h0)
  replace hm := hm.pk (L' := [ow [(nV 14), (nV x0_1.params), (.slice p0_5 xs0_1.length c0_6), (nV (((r0_1.1.codes.length : Int)) - 1))] ((⟨14, x0_1.params, xs0_1, ((r0_1.1.codes.length : Int)) - 1⟩ : Ins_) : Ins_), els [] ([] : List Ins_), blk b0_3 [(nV 14), (nV x0_1.params), (.slice p0_5 xs0_1.length c0_6), (nV (((r0_1.1.codes.length : Int)) - 1))] 57, blk b0_1 [(sV b0_2 o0_1 r0_1.1.codes.length c0_2)] 40, ow [(sV b0_2 o0_1 r0_1.1.codes.length c0_2)] r0_1.1.codes, ow [(.slice p0_3 r0_1.2.length c0_4)] r0_1.2]) [2, 3, 4, 5, 6, 7] rfl rfl
  replace hm := (hm.els_cons 1 0 (by decide) rfl rfl).pk (L' := [els [(nV 14), (nV x0_1.params), (.slice p0_5 xs0_1.length c0_6), (nV (((r0_1.1.codes.length : Int)) - 1))] ([(⟨14, x0_1.params, xs0_1, ((r0_1.1.codes.length : Int)) - 1⟩ : Ins_)] : List Ins_), blk b0_3 [(nV 14), (nV x0_1.params), (.slice p0_5 xs0_1.length c0_6), (nV (((r0_1.1.codes.length : Int)) - 1))] 57, blk b0_1 [(sV b0_2 o0_1 r0_1.1.codes.length c0_2)] 40, ow [(sV b0_2 o0_1 r0_1.1.codes.length c0_2)] r0_1.1.codes, ow [(.slice p0_3 r0_1.2.length c0_4)] r0_1.2]) [1, 2, 3, 4, 5] rfl rfl
  replace hm := (hm.lit_els 1 0 (by decide) rfl rfl rfl rfl).pk (L' := [ow [(sV b0_3 0 1 1)] ([(⟨14, x0_1.params, xs0_1, ((r0_1.1.codes.length : Int)) - 1⟩ : Ins_)] : List Ins_), blk b0_1 [(sV b0_2 o0_1 r0_1.1.codes.length c0_2)] 40, ow [(sV b0_2 o0_1 r0_1.1.codes.length c0_2)] r0_1.1.codes, ow [(.slice p0_3 r0_1.2.length c0_4)] r0_1.2]) [1, 2, 3, 4] rfl rfl
  refine gM rfl (gY (yG rfl (y_build (vs := [(1, (sV b0_3 0 1 1)), (2, (nV 3)), (3, (nV x0_1.params))]) (cs := #[(.slice none 0 0), (sV b0_3 0 1 1), (nV 3), (nV x0_1.params), (.slice none 0 0)]) rfl rfl (by kernel_rfl))) (gf rfl (fun a hf => e_build (vs := #[(0, (.agg #[(.slice none 0 0), (sV b0_3 0 1 1), (nV 3), (nV x0_1.params), (.slice none 0 0)]))]) (cs := [(.slice none 0 0), (sV b0_3 0 1 1), (nV 3), (nV x0_1.params), (.slice none 0 0)]) et_53 hf hm rfl rfl (by kernel_rfl) rfl rfl) ?_))
  rintro _ w ⟨b0_4, rfl, hm⟩
  replace hm := hm.els_nil (α := Block_)
  replace hm := hm.own0 (c := [(.slice none 0 0)]) (x := ([] : List Phi_)) (fun h => (own_list.2 (.inl ⟨rfl, rfl⟩)))
  replace hm := hm.own0 (c := [(nV 3)]) (x := (3 : Int)) (fun h => Flat.own_iff.2 rfl)
  replace hm := hm.own0 (c := [(nV x0_1.params)]) (x := (x0_1.params : Int)) (fun h => Flat.own_iff.2 rfl)
  replace hm := hm.own0 (c := [(.slice none 0 0)]) (x := ([] : List Int)) (fun h => (own_list.2 (.inl ⟨rfl, rfl⟩)))
  replace hm := hm.pair (x := (x0_1.params : Int)) (y := ([] : List Int)) 1 0 (by decide) rfl rfl
  replace hm := hm.pair (x := (3 : Int)) (y := ((x0_1.params, []) : Int × (List Int))) 2 1 (by decide) rfl rfl
  replace hm := hm.pair (x := (([(⟨14, x0_1.params, xs0_1, ((r0_1.1.codes.length : Int)) - 1⟩ : Ins_)] : List Ins_) : List Ins_)) (y := ((3, (x0_1.params, [])) : Int × Int × (List Int))) 6 2 (by decide) rfl rfl
  replace hm := hm.pair (x := ([] : List Phi_)) (y := ((([(⟨14, x0_1.params, xs0_1, ((r0_1.1.codes.length : Int)) - 1⟩ : Ins_)] : List Ins_), (3, (x0_1.params, []))) : (List Ins_) × Int × Int × (List Int))) 3 6 (by decide) rfl rfl
  replace hm := hm.imp (c' := ow [(.slice none 0 0), (sV b0_3 0 1 1), (nV 3), (nV x0_1.params), (.slice none 0 0)] ((⟨[], ([(⟨14, x0_1.params, xs0_1, ((r0_1.1.codes.length : Int)) - 1⟩ : Ins_)] : List Ins_), 3, x0_1.params, []⟩ : Block_) : Block_)) 3 rfl (fun F h0 => h0)
  replace hm := hm.pk (L' := [ow [(.slice none 0 0), (sV b0_3 0 1 1), (nV 3), (nV x0_1.params), (.slice none 0 0)] ((⟨[], ([(⟨14, x0_1.params, xs0_1, ((r0_1.1.codes.length : Int)) - 1⟩ : Ins_)] : List Ins_), 3, x0_1.params, []⟩ : Block_) : Block_), els [] ([] : List Block_), blk b0_4 [(.slice none 0 0), (sV b0_3 0 1 1), (nV 3), (nV x0_1.params), (.slice none 0 0)] 61, blk b0_1 [(sV b0_2 o0_1 r0_1.1.codes.length c0_2)] 40, ow [(sV b0_2 o0_1 r0_1.1.codes.length c0_2)] r0_1.1.codes, ow [(.slice p0_3 r0_1.2.length c0_4)] r0_1.2]) [3, 4, 5, 7, 8, 9] rfl rfl
  replace hm := (hm.els_cons 1 0 (by decide) rfl rfl).pk (L' := [els [(.slice none 0 0), (sV b0_3 0 1 1), (nV 3), (nV x0_1.params), (.slice none 0 0)] ([(⟨[], ([(⟨14, x0_1.params, xs0_1, ((r0_1.1.codes.length : Int)) - 1⟩ : Ins_)] : List Ins_), 3, x0_1.params, []⟩ : Block_)] : List Block_), blk b0_4 [(.slice none 0 0), (sV b0_3 0 1 1), (nV 3), (nV x0_1.params), (.slice none 0 0)] 61, blk b0_1 [(sV b0_2 o0_1 r0_1.1.codes.length c0_2)] 40, ow [(sV b0_2 o0_1 r0_1.1.codes.length c0_2)] r0_1.1.codes, ow [(.slice p0_3 r0_1.2.length c0_4)] r0_1.2]) [1, 2, 3, 4, 5] rfl rfl
  replace hm := (hm.lit_els 1 0 (by decide) rfl rfl rfl rfl).pk (L' := [ow [(sV b0_4 0 1 1)] ([(⟨[], ([(⟨14, x0_1.params, xs0_1, ((r0_1.1.codes.length : Int)) - 1⟩ : Ins_)] : List Ins_), 3, x0_1.params, []⟩ : Block_)] : List Block_), blk b0_1 [(sV b0_2 o0_1 r0_1.1.codes.length c0_2)] 40, ow [(sV b0_2 o0_1 r0_1.1.codes.length c0_2)] r0_1.1.codes, ow [(.slice p0_3 r0_1.2.length c0_4)] r0_1.2]) [1, 2, 3, 4] rfl rfl
  refine gY (yG rfl (y_build (vs := [(0, (nV x0_1.params)), (1, (nV (w64 (x0_1.params + 1)))), (2, (sV b0_4 0 1 1))]) (cs := #[(nV x0_1.params), (nV (w64 (x0_1.params + 1))), (sV b0_4 0 1 1)]) rfl rfl (by kernel_rfl))) (gAl hm zeroValue55 rfl fun b0_5 w hm => gSN hm 0 sizeOf55 (one_cons rfl (one_cons rfl (one_cons rfl one_nil))) rfl fun w hm => gE (gS (gJg (fun s0_2 a w => ∃ (hz0_2 : Heap) (v0_9 : Value) (b0_6 : Nat) (v0_10 : Value), Heap.le (hp w0) hz0_2 ∧ GT.rep hz0_2 [v0_9] r0_1.1.codes ∧ St 136 [(3, (pV b0_1)), (4, (.slice p0_3 r0_1.2.length c0_4)), (5, (nV r0_2)), (11, (pV b0_6))] w0 hz0_2 [blk b0_1 [v0_9] 40, ow [(.slice p0_3 r0_1.2.length c0_4)] r0_1.2, blk b0_6 [v0_10] 40, ow (α := List (Sh hz0_2 Code_)) [v0_10] s0_2] a w) (fun s0_2 => ?_) ?_)))
  ·
   refine gW (.p 1 (.q 2 (.q 4 (.e 0 (.e 3 (.e 5 (.e 6 (.p 7 (.e 8 (.e 9 .fin .nil) .nil)) (.e 8 (.e 6 (.p 7 (.e 9 .fin .nil)) .nil) .nil)) (.e 8 (.e 5 (.e 6 (.p 7 (.e 9 .fin .nil)) .nil) .nil) .nil)) (.e 5 (.e 3 (.e 6 (.p 7 (.e 8 (.e 9 .fin .nil) .nil)) (.e 8 (.e 6 (.p 7 (.e 9 .fin .nil)) .nil) .nil)) (.e 8 (.e 3 (.e 6 (.p 7 (.e 9 .fin .nil)) .nil) .nil) .nil)) (.e 8 (.e 3 (.e 5 (.e 6 (.p 7 (.e 9 .fin .nil)) .nil) .nil) (.e 5 (.e 3 (.e 6 (.p 7 (.e 9 .fin .nil)) .nil) .nil) .nil)) .nil))) (.e 5 (.e 0 (.e 3 (.e 6 (.p 7 (.e 8 (.e 9 .fin .nil) .nil)) (.e 8 (.e 6 (.p 7 (.e 9 .fin .nil)) .nil) .nil)) (.e 8 (.e 3 (.e 6 (.p 7 (.e 9 .fin .nil)) .nil) .nil) .nil)) (.e 8 (.e 0 (.e 3 (.e 6 (.p 7 (.e 9 .fin .nil)) .nil) .nil) .nil) .nil)) (.e 8 (.e 0 (.e 3 (.e 5 (.e 6 (.p 7 (.e 9 .fin .nil)) .nil) .nil) (.e 5 (.e 3 (.e 6 (.p 7 (.e 9 .fin .nil)) .nil) .nil) .nil)) (.e 5 (.e 0 (.e 3 (.e 6 (.p 7 (.e 9 .fin .nil)) .nil) .nil) .nil) .nil)) .nil)))))) [0, 2, 3, 4, 5, 8] [1, 7] hm [0, 2, 4] [blk b0_5 [(nV x0_1.params), (nV (w64 (x0_1.params + 1))), (sV b0_4 0 1 1)] 55, blk b0_1 [(sV b0_2 o0_1 r0_1.1.codes.length c0_2)] 40, ow [(.slice p0_3 r0_1.2.length c0_4)] r0_1.2] rfl mxo (by kernel_rfl) (fun _ _ _ h => h.2) fun w hm hS => tP rfl (fun w => yF fo_40_0 rfl) (tQ rfl hS (fun w hm => yL hm 1 isAgg38 rfl) (tQ rfl hS (fun w hm => yn (hm.blk_at 0 rfl) isAgg55 sizeOf55 rfl) (gb fun pb1_1 hpb1_1 => gb fun pb1_2 hpb1_2 => ?_)))
   refine tJg (.e 0 (.e 3 (.e 5 (.e 6 (.p 7 (.e 8 .fin .nil)) (.e 8 (.e 6 (.p 7 .fin) .nil) .nil)) (.e 8 (.e 5 (.e 6 (.p 7 .fin) .nil) .nil) .nil)) (.e 5 (.e 3 (.e 6 (.p 7 (.e 8 .fin .nil)) (.e 8 (.e 6 (.p 7 .fin) .nil) .nil)) (.e 8 (.e 3 (.e 6 (.p 7 .fin) .nil) .nil) .nil)) (.e 8 (.e 3 (.e 5 (.e 6 (.p 7 .fin) .nil) .nil) (.e 5 (.e 3 (.e 6 (.p 7 .fin) .nil) .nil) .nil)) .nil))) (.e 5 (.e 0 (.e 3 (.e 6 (.p 7 (.e 8 .fin .nil)) (.e 8 (.e 6 (.p 7 .fin) .nil) .nil)) (.e 8 (.e 3 (.e 6 (.p 7 .fin) .nil) .nil) .nil)) (.e 8 (.e 0 (.e 3 (.e 6 (.p 7 .fin) .nil) .nil) .nil) .nil)) (.e 8 (.e 0 (.e 3 (.e 5 (.e 6 (.p 7 .fin) .nil) .nil) (.e 5 (.e 3 (.e 6 (.p 7 .fin) .nil) .nil) .nil)) (.e 5 (.e 0 (.e 3 (.e 6 (.p 7 .fin) .nil) .nil) .nil) .nil)) .nil))) (.e 9 .fin .nil) rfl (fun s1_1 a w => ∃ (hz1_1 : Heap) (v1_5 : Value) (b1_2 : Nat) (v1_6 : Value), Heap.le (hp w0) hz1_1 ∧ GT.rep hz1_1 [v1_5] r0_1.1.codes ∧ St 136 [(3, (pV b0_1)), (4, (.slice p0_3 r0_1.2.length c0_4)), (5, (nV r0_2)), (11, (pV b1_2)), (97, (.agg #[v1_6]))] w0 hz1_1 [blk b0_1 [v1_5] 40, ow [(.slice p0_3 r0_1.2.length c0_4)] r0_1.2, blk b1_2 [(.slice none 0 0)] 40, ow (α := List (Sh hz1_1 Code_)) [v1_6] pb1_2] a w) (fun s1_1 => ?_) ?_
   ·
    refine tMo ?_ ?_
    ·
     refine tf rfl rfl (fun a hf => e_build0 (α := Code_) et_38 hm rfl) ?_
     rintro v2_1 w hm
     refine tAk hm [1, 3, 5] rfl fun hS => tMo ?_ ?_
     ·
      obtain ⟨hz2_1, hle2_1, hz_r2_1, hm⟩ := hm.freeze 4 rfl
      replace hm := hm.pk (L' := [ow [v2_1] ([] : List Code_), blk b0_5 [(nV x0_1.params), (nV (w64 (x0_1.params + 1))), (sV b0_4 0 1 1)] 55, ow [(sV b0_4 0 1 1)] ([(⟨[], ([(⟨14, x0_1.params, xs0_1, ((r0_1.1.codes.length : Int)) - 1⟩ : Ins_)] : List Ins_), 3, x0_1.params, []⟩ : Block_)] : List Block_), blk b0_1 [(sV b0_2 o0_1 r0_1.1.codes.length c0_2)] 40, ow [(.slice p0_3 r0_1.2.length c0_4)] r0_1.2]) [0, 1, 2, 3, 5] rfl rfl
      replace hz_r2_1 : GT.rep hz2_1 [(sV b0_2 o0_1 r0_1.1.codes.length c0_2)] r0_1.1.codes := fz_ow hz_r2_1
      obtain ⟨hz2_2, hle2_2, hm⟩ := hm.shallow (α := Code_) 0 rfl
      obtain ⟨h2_1, h2_1e⟩ := appM_some.1 hpb1_1
      refine tf rfl rfl (fun a hf => e_appendSh (α := Code_) (xs := ([] : List Code_)) (ys := r0_1.1.codes) 0 et_38 hf hm rfl (ro_sh hm.lez (GT.mono hle2_2 hz_r2_1)) rfl rfl rfl h2_1) ?_
      rintro v2_2 w hm
      rw [h2_1e] at hm
      refine tAk (hm.thaw (Heap.le_trans hle2_1 hle2_2)) [1, 3, 4] rfl fun hS => tMo ?_ ?_
      ·
       refine tf rfl rfl (fun a hf => e_build (vs := #[(0, (.agg #[(nV x0_1.params), (nV (w64 (x0_1.params + 1))), (sV b0_4 0 1 1)]))]) (cs := [(nV x0_1.params), (nV (w64 (x0_1.params + 1))), (sV b0_4 0 1 1)]) et_38 hf hm rfl rfl (by kernel_rfl) rfl rfl) ?_
       rintro _ w ⟨b2_1, rfl, hm⟩
       replace hm := hm.els_nil (α := Code_)
       replace hm := hm.own0 (c := [(nV x0_1.params)]) (x := (x0_1.params : Int)) (fun h => Flat.own_iff.2 rfl)
       replace hm := hm.own0 (c := [(nV (w64 (x0_1.params + 1)))]) (x := (w64 (x0_1.params + 1) : Int)) (fun h => Flat.own_iff.2 rfl)
       replace hm := hm.pair (x := (w64 (x0_1.params + 1) : Int)) (y := (([(⟨[], ([(⟨14, x0_1.params, xs0_1, ((r0_1.1.codes.length : Int)) - 1⟩ : Ins_)] : List Ins_), 3, x0_1.params, []⟩ : Block_)] : List Block_) : List Block_)) 0 6 (by decide) rfl rfl
       replace hm := hm.pair (x := (x0_1.params : Int)) (y := ((w64 (x0_1.params + 1), ([(⟨[], ([(⟨14, x0_1.params, xs0_1, ((r0_1.1.codes.length : Int)) - 1⟩ : Ins_)] : List Ins_), 3, x0_1.params, []⟩ : Block_)] : List Block_)) : Int × (List Block_))) 1 0 (by decide) rfl rfl
       replace hm := hm.imp (c' := ow [(nV x0_1.params), (nV (w64 (x0_1.params + 1))), (sV b0_4 0 1 1)] ((⟨x0_1.params, w64 (x0_1.params + 1), ([(⟨[], ([(⟨14, x0_1.params, xs0_1, ((r0_1.1.codes.length : Int)) - 1⟩ : Ins_)] : List Ins_), 3, x0_1.params, []⟩ : Block_)] : List Block_)⟩ : Code_) : Code_)) 1 rfl (fun F h0 => h0)
       replace hm := hm.pk (L' := [ow [(nV x0_1.params), (nV (w64 (x0_1.params + 1))), (sV b0_4 0 1 1)] ((⟨x0_1.params, w64 (x0_1.params + 1), ([(⟨[], ([(⟨14, x0_1.params, xs0_1, ((r0_1.1.codes.length : Int)) - 1⟩ : Ins_)] : List Ins_), 3, x0_1.params, []⟩ : Block_)] : List Block_)⟩ : Code_) : Code_), els [] ([] : List Code_), blk b2_1 [(nV x0_1.params), (nV (w64 (x0_1.params + 1))), (sV b0_4 0 1 1)] 55, ow (α := List (Sh hz2_2 Code_)) [v2_2] pb1_1, blk b0_5 [(nV x0_1.params), (nV (w64 (x0_1.params + 1))), (sV b0_4 0 1 1)] 55, blk b0_1 [(sV b0_2 o0_1 r0_1.1.codes.length c0_2)] 40, ow [(.slice p0_3 r0_1.2.length c0_4)] r0_1.2]) [1, 2, 3, 4, 5, 7, 8] rfl rfl
       replace hm := (hm.els_cons 1 0 (by decide) rfl rfl).pk (L' := [els [(nV x0_1.params), (nV (w64 (x0_1.params + 1))), (sV b0_4 0 1 1)] ([(⟨x0_1.params, w64 (x0_1.params + 1), ([(⟨[], ([(⟨14, x0_1.params, xs0_1, ((r0_1.1.codes.length : Int)) - 1⟩ : Ins_)] : List Ins_), 3, x0_1.params, []⟩ : Block_)] : List Block_)⟩ : Code_)] : List Code_), blk b2_1 [(nV x0_1.params), (nV (w64 (x0_1.params + 1))), (sV b0_4 0 1 1)] 55, ow (α := List (Sh hz2_2 Code_)) [v2_2] pb1_1, blk b0_5 [(nV x0_1.params), (nV (w64 (x0_1.params + 1))), (sV b0_4 0 1 1)] 55, blk b0_1 [(sV b0_2 o0_1 r0_1.1.codes.length c0_2)] 40, ow [(.slice p0_3 r0_1.2.length c0_4)] r0_1.2]) [1, 2, 3, 4, 5, 6] rfl rfl
       replace hm := (hm.lit_els 1 0 (by decide) rfl rfl rfl rfl).pk (L' := [ow [(sV b2_1 0 1 1)] ([(⟨x0_1.params, w64 (x0_1.params + 1), ([(⟨[], ([(⟨14, x0_1.params, xs0_1, ((r0_1.1.codes.length : Int)) - 1⟩ : Ins_)] : List Ins_), 3, x0_1.params, []⟩ : Block_)] : List Block_)⟩ : Code_)] : List Code_), ow (α := List (Sh hz2_2 Code_)) [v2_2] pb1_1, blk b0_5 [(nV x0_1.params), (nV (w64 (x0_1.params + 1))), (sV b0_4 0 1 1)] 55, blk b0_1 [(sV b0_2 o0_1 r0_1.1.codes.length c0_2)] 40, ow [(.slice p0_3 r0_1.2.length c0_4)] r0_1.2]) [1, 2, 3, 4, 5] rfl rfl
       refine tAk (hm.thaw (Heap.le_trans hle2_1 hle2_2)) [2, 3, 4] rfl fun hS => tMo ?_ ?_
       ·
        obtain ⟨hz2_3, hle2_3, hz_r2_2, hm⟩ := hm.freeze 0 rfl
        replace hm := hm.pk (L' := [ow (α := List (Sh hz2_2 Code_)) [v2_2] pb1_1, blk b0_5 [(nV x0_1.params), (nV (w64 (x0_1.params + 1))), (sV b0_4 0 1 1)] 55, blk b0_1 [(sV b0_2 o0_1 r0_1.1.codes.length c0_2)] 40, ow [(.slice p0_3 r0_1.2.length c0_4)] r0_1.2]) [1, 2, 3, 4] rfl rfl
        replace hz_r2_2 : GT.rep hz2_3 [(sV b2_1 0 1 1)] ([(⟨x0_1.params, w64 (x0_1.params + 1), ([(⟨[], ([(⟨14, x0_1.params, xs0_1, ((r0_1.1.codes.length : Int)) - 1⟩ : Ins_)] : List Ins_), 3, x0_1.params, []⟩ : Block_)] : List Block_)⟩ : Code_)] : List Code_) := fz_ow hz_r2_2
        obtain ⟨h2_2, h2_2e⟩ := appM_some.1 hpb1_2
        replace hm := hm.sh_up hle2_3 0 rfl
        refine tf rfl rfl (fun a hf => e_appendSh (α := Code_) (xs := pb1_1) (ys := ([(⟨x0_1.params, w64 (x0_1.params + 1), ([(⟨[], ([(⟨14, x0_1.params, xs0_1, ((r0_1.1.codes.length : Int)) - 1⟩ : Ins_)] : List Ins_), 3, x0_1.params, []⟩ : Block_)] : List Block_)⟩ : Code_)] : List Code_)) 0 et_38 hf hm rfl (ro_sh hm.lez hz_r2_2) rfl rfl rfl h2_2) ?_
        rintro v2_3 w hm
        rw [h2_2e] at hm
        refine tAn rfl ?_
        obtain ⟨p2_1, c2_1, rfl, hl2_1⟩ := ro_slice (sh_read (Heap.le_trans (Heap.le_refl _) hm.lez) (hm.ow_rep 0 rfl))
        refine tP rfl (fun w => yG rfl (y_build (vs := [(0, (.slice p2_1 pb1_2.length c2_1))]) (cs := #[(.slice p2_1 pb1_2.length c2_1)]) rfl rfl (by kernel_rfl))) (tO (tf rfl rfl (fun a hf => e_alloc hm zeroValue40 rfl rfl) ?_))
        rintro _ w ⟨b2_2, rfl, hm⟩
        exact tAk (hm.thaw (Heap.le_trans (Heap.le_trans hle2_1 hle2_2) hle2_3)) [2, 3, 4] rfl fun hS => tE (gZ fun a hf => ⟨hz2_3, (sV b0_2 o0_1 r0_1.1.codes.length c0_2), b2_2, (.slice p2_1 pb1_2.length c2_1), (Heap.le_trans (Heap.le_trans hle2_1 hle2_2) hle2_3), (GT.mono (Heap.le_trans hle2_2 hle2_3) hz_r2_1), hf.sb rfl, hm.pk [3, 4, 0, 1] rfl rfl⟩)
       refine tO (tf rfl rfl (fun a hf => e_alloc hm zeroValue40 rfl rfl) ?_)
       rintro _ w ⟨b2_3, rfl, hm⟩
       refine tAk (hm.thaw (Heap.le_trans hle2_1 hle2_2)) [3, 4, 5] rfl fun hS => tO ?_
       obtain ⟨hz2_4, hle2_4, hz_r2_3, hm⟩ := hm.freeze 1 rfl
       replace hm := hm.pk (L' := [blk b2_3 [(.slice none 0 0)] 40, ow (α := List (Sh hz2_2 Code_)) [v2_2] pb1_1, blk b0_5 [(nV x0_1.params), (nV (w64 (x0_1.params + 1))), (sV b0_4 0 1 1)] 55, blk b0_1 [(sV b0_2 o0_1 r0_1.1.codes.length c0_2)] 40, ow [(.slice p0_3 r0_1.2.length c0_4)] r0_1.2]) [0, 2, 3, 4, 5] rfl rfl
       replace hz_r2_3 : GT.rep hz2_4 [(sV b2_1 0 1 1)] ([(⟨x0_1.params, w64 (x0_1.params + 1), ([(⟨[], ([(⟨14, x0_1.params, xs0_1, ((r0_1.1.codes.length : Int)) - 1⟩ : Ins_)] : List Ins_), 3, x0_1.params, []⟩ : Block_)] : List Block_)⟩ : Code_)] : List Code_) := fz_ow hz_r2_3
       obtain ⟨h2_3, h2_3e⟩ := appM_some.1 hpb1_2
       replace hm := hm.sh_up hle2_4 1 rfl
       refine tf rfl rfl (fun a hf => e_appendSh (α := Code_) (xs := pb1_1) (ys := ([(⟨x0_1.params, w64 (x0_1.params + 1), ([(⟨[], ([(⟨14, x0_1.params, xs0_1, ((r0_1.1.codes.length : Int)) - 1⟩ : Ins_)] : List Ins_), 3, x0_1.params, []⟩ : Block_)] : List Block_)⟩ : Code_)] : List Code_)) 1 et_38 hf hm rfl (ro_sh hm.lez hz_r2_3) rfl rfl rfl h2_3) ?_
       rintro v2_4 w hm
       rw [h2_3e] at hm
       refine tAn rfl ?_
       obtain ⟨p2_2, c2_2, rfl, hl2_2⟩ := ro_slice (sh_read (Heap.le_trans (Heap.le_refl _) hm.lez) (hm.ow_rep 1 rfl))
       exact tP rfl (fun w => yG rfl (y_build (vs := [(0, (.slice p2_2 pb1_2.length c2_2))]) (cs := #[(.slice p2_2 pb1_2.length c2_2)]) rfl rfl (by kernel_rfl))) (tE (gZ fun a hf => ⟨hz2_4, (sV b0_2 o0_1 r0_1.1.codes.length c0_2), b2_3, (.slice p2_2 pb1_2.length c2_2), (Heap.le_trans (Heap.le_trans hle2_1 hle2_2) hle2_4), (GT.mono (Heap.le_trans hle2_2 hle2_4) hz_r2_1), hf.sb rfl, hm.pk [3, 4, 0, 1] rfl rfl⟩))
      refine tO (tf rfl rfl (fun a hf => e_alloc hm zeroValue40 rfl rfl) ?_)
      rintro _ w ⟨b2_4, rfl, hm⟩
      refine tAk (hm.thaw (Heap.le_trans hle2_1 hle2_2)) [2, 4, 5] rfl fun hS => tO (tf rfl rfl (fun a hf => e_build (vs := #[(0, (.agg #[(nV x0_1.params), (nV (w64 (x0_1.params + 1))), (sV b0_4 0 1 1)]))]) (cs := [(nV x0_1.params), (nV (w64 (x0_1.params + 1))), (sV b0_4 0 1 1)]) et_38 hf hm rfl rfl (by kernel_rfl) rfl rfl) ?_)
      rintro _ w ⟨b2_5, rfl, hm⟩
      replace hm := hm.els_nil (α := Code_)
      replace hm := hm.own0 (c := [(nV x0_1.params)]) (x := (x0_1.params : Int)) (fun h => Flat.own_iff.2 rfl)
      replace hm := hm.own0 (c := [(nV (w64 (x0_1.params + 1)))]) (x := (w64 (x0_1.params + 1) : Int)) (fun h => Flat.own_iff.2 rfl)
      replace hm := hm.pair (x := (w64 (x0_1.params + 1) : Int)) (y := (([(⟨[], ([(⟨14, x0_1.params, xs0_1, ((r0_1.1.codes.length : Int)) - 1⟩ : Ins_)] : List Ins_), 3, x0_1.params, []⟩ : Block_)] : List Block_) : List Block_)) 0 7 (by decide) rfl rfl
      replace hm := hm.pair (x := (x0_1.params : Int)) (y := ((w64 (x0_1.params + 1), ([(⟨[], ([(⟨14, x0_1.params, xs0_1, ((r0_1.1.codes.length : Int)) - 1⟩ : Ins_)] : List Ins_), 3, x0_1.params, []⟩ : Block_)] : List Block_)) : Int × (List Block_))) 1 0 (by decide) rfl rfl
      replace hm := hm.imp (c' := ow [(nV x0_1.params), (nV (w64 (x0_1.params + 1))), (sV b0_4 0 1 1)] ((⟨x0_1.params, w64 (x0_1.params + 1), ([(⟨[], ([(⟨14, x0_1.params, xs0_1, ((r0_1.1.codes.length : Int)) - 1⟩ : Ins_)] : List Ins_), 3, x0_1.params, []⟩ : Block_)] : List Block_)⟩ : Code_) : Code_)) 1 rfl (fun F h0 => h0)
      replace hm := hm.pk (L' := [ow [(nV x0_1.params), (nV (w64 (x0_1.params + 1))), (sV b0_4 0 1 1)] ((⟨x0_1.params, w64 (x0_1.params + 1), ([(⟨[], ([(⟨14, x0_1.params, xs0_1, ((r0_1.1.codes.length : Int)) - 1⟩ : Ins_)] : List Ins_), 3, x0_1.params, []⟩ : Block_)] : List Block_)⟩ : Code_) : Code_), els [] ([] : List Code_), blk b2_5 [(nV x0_1.params), (nV (w64 (x0_1.params + 1))), (sV b0_4 0 1 1)] 55, blk b2_4 [(.slice none 0 0)] 40, ow (α := List (Sh hz2_2 Code_)) [v2_2] pb1_1, blk b0_5 [(nV x0_1.params), (nV (w64 (x0_1.params + 1))), (sV b0_4 0 1 1)] 55, blk b0_1 [(sV b0_2 o0_1 r0_1.1.codes.length c0_2)] 40, ow [(.slice p0_3 r0_1.2.length c0_4)] r0_1.2]) [1, 2, 3, 4, 5, 6, 8, 9] rfl rfl
      replace hm := (hm.els_cons 1 0 (by decide) rfl rfl).pk (L' := [els [(nV x0_1.params), (nV (w64 (x0_1.params + 1))), (sV b0_4 0 1 1)] ([(⟨x0_1.params, w64 (x0_1.params + 1), ([(⟨[], ([(⟨14, x0_1.params, xs0_1, ((r0_1.1.codes.length : Int)) - 1⟩ : Ins_)] : List Ins_), 3, x0_1.params, []⟩ : Block_)] : List Block_)⟩ : Code_)] : List Code_), blk b2_5 [(nV x0_1.params), (nV (w64 (x0_1.params + 1))), (sV b0_4 0 1 1)] 55, blk b2_4 [(.slice none 0 0)] 40, ow (α := List (Sh hz2_2 Code_)) [v2_2] pb1_1, blk b0_5 [(nV x0_1.params), (nV (w64 (x0_1.params + 1))), (sV b0_4 0 1 1)] 55, blk b0_1 [(sV b0_2 o0_1 r0_1.1.codes.length c0_2)] 40, ow [(.slice p0_3 r0_1.2.length c0_4)] r0_1.2]) [1, 2, 3, 4, 5, 6, 7] rfl rfl
      replace hm := (hm.lit_els 1 0 (by decide) rfl rfl rfl rfl).pk (L' := [ow [(sV b2_5 0 1 1)] ([(⟨x0_1.params, w64 (x0_1.params + 1), ([(⟨[], ([(⟨14, x0_1.params, xs0_1, ((r0_1.1.codes.length : Int)) - 1⟩ : Ins_)] : List Ins_), 3, x0_1.params, []⟩ : Block_)] : List Block_)⟩ : Code_)] : List Code_), blk b2_4 [(.slice none 0 0)] 40, ow (α := List (Sh hz2_2 Code_)) [v2_2] pb1_1, blk b0_5 [(nV x0_1.params), (nV (w64 (x0_1.params + 1))), (sV b0_4 0 1 1)] 55, blk b0_1 [(sV b0_2 o0_1 r0_1.1.codes.length c0_2)] 40, ow [(.slice p0_3 r0_1.2.length c0_4)] r0_1.2]) [1, 2, 3, 4, 5, 6] rfl rfl
      refine tAk (hm.thaw (Heap.le_trans hle2_1 hle2_2)) [3, 4, 5] rfl fun hS => tO ?_
      obtain ⟨hz2_5, hle2_5, hz_r2_4, hm⟩ := hm.freeze 0 rfl
      replace hm := hm.pk (L' := [blk b2_4 [(.slice none 0 0)] 40, ow (α := List (Sh hz2_2 Code_)) [v2_2] pb1_1, blk b0_5 [(nV x0_1.params), (nV (w64 (x0_1.params + 1))), (sV b0_4 0 1 1)] 55, blk b0_1 [(sV b0_2 o0_1 r0_1.1.codes.length c0_2)] 40, ow [(.slice p0_3 r0_1.2.length c0_4)] r0_1.2]) [1, 2, 3, 4, 5] rfl rfl
      replace hz_r2_4 : GT.rep hz2_5 [(sV b2_5 0 1 1)] ([(⟨x0_1.params, w64 (x0_1.params + 1), ([(⟨[], ([(⟨14, x0_1.params, xs0_1, ((r0_1.1.codes.length : Int)) - 1⟩ : Ins_)] : List Ins_), 3, x0_1.params, []⟩ : Block_)] : List Block_)⟩ : Code_)] : List Code_) := fz_ow hz_r2_4
      obtain ⟨h2_4, h2_4e⟩ := appM_some.1 hpb1_2
      replace hm := hm.sh_up hle2_5 1 rfl
      refine tf rfl rfl (fun a hf => e_appendSh (α := Code_) (xs := pb1_1) (ys := ([(⟨x0_1.params, w64 (x0_1.params + 1), ([(⟨[], ([(⟨14, x0_1.params, xs0_1, ((r0_1.1.codes.length : Int)) - 1⟩ : Ins_)] : List Ins_), 3, x0_1.params, []⟩ : Block_)] : List Block_)⟩ : Code_)] : List Code_)) 1 et_38 hf hm rfl (ro_sh hm.lez hz_r2_4) rfl rfl rfl h2_4) ?_
      rintro v2_5 w hm
      rw [h2_4e] at hm
      refine tAn rfl ?_
      obtain ⟨p2_3, c2_3, rfl, hl2_3⟩ := ro_slice (sh_read (Heap.le_trans (Heap.le_refl _) hm.lez) (hm.ow_rep 1 rfl))
      exact tP rfl (fun w => yG rfl (y_build (vs := [(0, (.slice p2_3 pb1_2.length c2_3))]) (cs := #[(.slice p2_3 pb1_2.length c2_3)]) rfl rfl (by kernel_rfl))) (tE (gZ fun a hf => ⟨hz2_5, (sV b0_2 o0_1 r0_1.1.codes.length c0_2), b2_4, (.slice p2_3 pb1_2.length c2_3), (Heap.le_trans (Heap.le_trans hle2_1 hle2_2) hle2_5), (GT.mono (Heap.le_trans hle2_2 hle2_5) hz_r2_1), hf.sb rfl, hm.pk [3, 4, 0, 1] rfl rfl⟩))
     refine tMo ?_ ?_
     ·
      refine tf rfl rfl (fun a hf => e_build (vs := #[(0, (.agg #[(nV x0_1.params), (nV (w64 (x0_1.params + 1))), (sV b0_4 0 1 1)]))]) (cs := [(nV x0_1.params), (nV (w64 (x0_1.params + 1))), (sV b0_4 0 1 1)]) et_38 hf hm rfl rfl (by kernel_rfl) rfl rfl) ?_
      rintro _ w ⟨b2_6, rfl, hm⟩
      replace hm := hm.els_nil (α := Code_)
      replace hm := hm.own0 (c := [(nV x0_1.params)]) (x := (x0_1.params : Int)) (fun h => Flat.own_iff.2 rfl)
      replace hm := hm.own0 (c := [(nV (w64 (x0_1.params + 1)))]) (x := (w64 (x0_1.params + 1) : Int)) (fun h => Flat.own_iff.2 rfl)
      replace hm := hm.pair (x := (w64 (x0_1.params + 1) : Int)) (y := (([(⟨[], ([(⟨14, x0_1.params, xs0_1, ((r0_1.1.codes.length : Int)) - 1⟩ : Ins_)] : List Ins_), 3, x0_1.params, []⟩ : Block_)] : List Block_) : List Block_)) 0 6 (by decide) rfl rfl
      replace hm := hm.pair (x := (x0_1.params : Int)) (y := ((w64 (x0_1.params + 1), ([(⟨[], ([(⟨14, x0_1.params, xs0_1, ((r0_1.1.codes.length : Int)) - 1⟩ : Ins_)] : List Ins_), 3, x0_1.params, []⟩ : Block_)] : List Block_)) : Int × (List Block_))) 1 0 (by decide) rfl rfl
      replace hm := hm.imp (c' := ow [(nV x0_1.params), (nV (w64 (x0_1.params + 1))), (sV b0_4 0 1 1)] ((⟨x0_1.params, w64 (x0_1.params + 1), ([(⟨[], ([(⟨14, x0_1.params, xs0_1, ((r0_1.1.codes.length : Int)) - 1⟩ : Ins_)] : List Ins_), 3, x0_1.params, []⟩ : Block_)] : List Block_)⟩ : Code_) : Code_)) 1 rfl (fun F h0 => h0)
      replace hm := hm.pk (L' := [ow [(nV x0_1.params), (nV (w64 (x0_1.params + 1))), (sV b0_4 0 1 1)] ((⟨x0_1.params, w64 (x0_1.params + 1), ([(⟨[], ([(⟨14, x0_1.params, xs0_1, ((r0_1.1.codes.length : Int)) - 1⟩ : Ins_)] : List Ins_), 3, x0_1.params, []⟩ : Block_)] : List Block_)⟩ : Code_) : Code_), els [] ([] : List Code_), blk b2_6 [(nV x0_1.params), (nV (w64 (x0_1.params + 1))), (sV b0_4 0 1 1)] 55, ow [v2_1] ([] : List Code_), blk b0_5 [(nV x0_1.params), (nV (w64 (x0_1.params + 1))), (sV b0_4 0 1 1)] 55, blk b0_1 [(sV b0_2 o0_1 r0_1.1.codes.length c0_2)] 40, ow [(sV b0_2 o0_1 r0_1.1.codes.length c0_2)] r0_1.1.codes, ow [(.slice p0_3 r0_1.2.length c0_4)] r0_1.2]) [1, 2, 3, 4, 5, 7, 8, 9] rfl rfl
      replace hm := (hm.els_cons 1 0 (by decide) rfl rfl).pk (L' := [els [(nV x0_1.params), (nV (w64 (x0_1.params + 1))), (sV b0_4 0 1 1)] ([(⟨x0_1.params, w64 (x0_1.params + 1), ([(⟨[], ([(⟨14, x0_1.params, xs0_1, ((r0_1.1.codes.length : Int)) - 1⟩ : Ins_)] : List Ins_), 3, x0_1.params, []⟩ : Block_)] : List Block_)⟩ : Code_)] : List Code_), blk b2_6 [(nV x0_1.params), (nV (w64 (x0_1.params + 1))), (sV b0_4 0 1 1)] 55, ow [v2_1] ([] : List Code_), blk b0_5 [(nV x0_1.params), (nV (w64 (x0_1.params + 1))), (sV b0_4 0 1 1)] 55, blk b0_1 [(sV b0_2 o0_1 r0_1.1.codes.length c0_2)] 40, ow [(sV b0_2 o0_1 r0_1.1.codes.length c0_2)] r0_1.1.codes, ow [(.slice p0_3 r0_1.2.length c0_4)] r0_1.2]) [1, 2, 3, 4, 5, 6, 7] rfl rfl
      replace hm := (hm.lit_els 1 0 (by decide) rfl rfl rfl rfl).pk (L' := [ow [(sV b2_6 0 1 1)] ([(⟨x0_1.params, w64 (x0_1.params + 1), ([(⟨[], ([(⟨14, x0_1.params, xs0_1, ((r0_1.1.codes.length : Int)) - 1⟩ : Ins_)] : List Ins_), 3, x0_1.params, []⟩ : Block_)] : List Block_)⟩ : Code_)] : List Code_), ow [v2_1] ([] : List Code_), blk b0_5 [(nV x0_1.params), (nV (w64 (x0_1.params + 1))), (sV b0_4 0 1 1)] 55, blk b0_1 [(sV b0_2 o0_1 r0_1.1.codes.length c0_2)] 40, ow [(sV b0_2 o0_1 r0_1.1.codes.length c0_2)] r0_1.1.codes, ow [(.slice p0_3 r0_1.2.length c0_4)] r0_1.2]) [1, 2, 3, 4, 5, 6] rfl rfl
      refine tAk hm [2, 3, 5] rfl fun hS => tMo ?_ ?_
      ·
       obtain ⟨hz2_6, hle2_6, hz_r2_5, hm⟩ := hm.freeze 4 rfl
       replace hm := hm.pk (L' := [ow [(sV b2_6 0 1 1)] ([(⟨x0_1.params, w64 (x0_1.params + 1), ([(⟨[], ([(⟨14, x0_1.params, xs0_1, ((r0_1.1.codes.length : Int)) - 1⟩ : Ins_)] : List Ins_), 3, x0_1.params, []⟩ : Block_)] : List Block_)⟩ : Code_)] : List Code_), ow [v2_1] ([] : List Code_), blk b0_5 [(nV x0_1.params), (nV (w64 (x0_1.params + 1))), (sV b0_4 0 1 1)] 55, blk b0_1 [(sV b0_2 o0_1 r0_1.1.codes.length c0_2)] 40, ow [(.slice p0_3 r0_1.2.length c0_4)] r0_1.2]) [0, 1, 2, 3, 5] rfl rfl
       replace hz_r2_5 : GT.rep hz2_6 [(sV b0_2 o0_1 r0_1.1.codes.length c0_2)] r0_1.1.codes := fz_ow hz_r2_5
       obtain ⟨hz2_7, hle2_7, hm⟩ := hm.shallow (α := Code_) 1 rfl
       obtain ⟨h2_5, h2_5e⟩ := appM_some.1 hpb1_1
       refine tf rfl rfl (fun a hf => e_appendSh (α := Code_) (xs := ([] : List Code_)) (ys := r0_1.1.codes) 1 et_38 hf hm rfl (ro_sh hm.lez (GT.mono hle2_7 hz_r2_5)) rfl rfl rfl h2_5) ?_
       rintro v2_6 w hm
       rw [h2_5e] at hm
       refine tAk (hm.thaw (Heap.le_trans hle2_6 hle2_7)) [2, 3, 4] rfl fun hS => tMo ?_ ?_
       ·
        obtain ⟨hz2_8, hle2_8, hz_r2_6, hm⟩ := hm.freeze 0 rfl
        replace hm := hm.pk (L' := [ow (α := List (Sh hz2_7 Code_)) [v2_6] pb1_1, blk b0_5 [(nV x0_1.params), (nV (w64 (x0_1.params + 1))), (sV b0_4 0 1 1)] 55, blk b0_1 [(sV b0_2 o0_1 r0_1.1.codes.length c0_2)] 40, ow [(.slice p0_3 r0_1.2.length c0_4)] r0_1.2]) [1, 2, 3, 4] rfl rfl
        replace hz_r2_6 : GT.rep hz2_8 [(sV b2_6 0 1 1)] ([(⟨x0_1.params, w64 (x0_1.params + 1), ([(⟨[], ([(⟨14, x0_1.params, xs0_1, ((r0_1.1.codes.length : Int)) - 1⟩ : Ins_)] : List Ins_), 3, x0_1.params, []⟩ : Block_)] : List Block_)⟩ : Code_)] : List Code_) := fz_ow hz_r2_6
        obtain ⟨h2_6, h2_6e⟩ := appM_some.1 hpb1_2
        replace hm := hm.sh_up hle2_8 0 rfl
        refine tf rfl rfl (fun a hf => e_appendSh (α := Code_) (xs := pb1_1) (ys := ([(⟨x0_1.params, w64 (x0_1.params + 1), ([(⟨[], ([(⟨14, x0_1.params, xs0_1, ((r0_1.1.codes.length : Int)) - 1⟩ : Ins_)] : List Ins_), 3, x0_1.params, []⟩ : Block_)] : List Block_)⟩ : Code_)] : List Code_)) 0 et_38 hf hm rfl (ro_sh hm.lez hz_r2_6) rfl rfl rfl h2_6) ?_
        rintro v2_7 w hm
        rw [h2_6e] at hm
        refine tAn rfl ?_
        obtain ⟨p2_4, c2_4, rfl, hl2_4⟩ := ro_slice (sh_read (Heap.le_trans (Heap.le_refl _) hm.lez) (hm.ow_rep 0 rfl))
        refine tP rfl (fun w => yG rfl (y_build (vs := [(0, (.slice p2_4 pb1_2.length c2_4))]) (cs := #[(.slice p2_4 pb1_2.length c2_4)]) rfl rfl (by kernel_rfl))) (tO (tf rfl rfl (fun a hf => e_alloc hm zeroValue40 rfl rfl) ?_))
        rintro _ w ⟨b2_7, rfl, hm⟩
        exact tAk (hm.thaw (Heap.le_trans (Heap.le_trans hle2_6 hle2_7) hle2_8)) [2, 3, 4] rfl fun hS => tE (gZ fun a hf => ⟨hz2_8, (sV b0_2 o0_1 r0_1.1.codes.length c0_2), b2_7, (.slice p2_4 pb1_2.length c2_4), (Heap.le_trans (Heap.le_trans hle2_6 hle2_7) hle2_8), (GT.mono (Heap.le_trans hle2_7 hle2_8) hz_r2_5), hf.sb rfl, hm.pk [3, 4, 0, 1] rfl rfl⟩)
       refine tO (tf rfl rfl (fun a hf => e_alloc hm zeroValue40 rfl rfl) ?_)
       rintro _ w ⟨b2_8, rfl, hm⟩
       refine tAk (hm.thaw (Heap.le_trans hle2_6 hle2_7)) [3, 4, 5] rfl fun hS => tO ?_
       obtain ⟨hz2_9, hle2_9, hz_r2_7, hm⟩ := hm.freeze 1 rfl
       replace hm := hm.pk (L' := [blk b2_8 [(.slice none 0 0)] 40, ow (α := List (Sh hz2_7 Code_)) [v2_6] pb1_1, blk b0_5 [(nV x0_1.params), (nV (w64 (x0_1.params + 1))), (sV b0_4 0 1 1)] 55, blk b0_1 [(sV b0_2 o0_1 r0_1.1.codes.length c0_2)] 40, ow [(.slice p0_3 r0_1.2.length c0_4)] r0_1.2]) [0, 2, 3, 4, 5] rfl rfl
       replace hz_r2_7 : GT.rep hz2_9 [(sV b2_6 0 1 1)] ([(⟨x0_1.params, w64 (x0_1.params + 1), ([(⟨[], ([(⟨14, x0_1.params, xs0_1, ((r0_1.1.codes.length : Int)) - 1⟩ : Ins_)] : List Ins_), 3, x0_1.params, []⟩ : Block_)] : List Block_)⟩ : Code_)] : List Code_) := fz_ow hz_r2_7
       obtain ⟨h2_7, h2_7e⟩ := appM_some.1 hpb1_2
       replace hm := hm.sh_up hle2_9 1 rfl
       refine tf rfl rfl (fun a hf => e_appendSh (α := Code_) (xs := pb1_1) (ys := ([(⟨x0_1.params, w64 (x0_1.params + 1), ([(⟨[], ([(⟨14, x0_1.params, xs0_1, ((r0_1.1.codes.length : Int)) - 1⟩ : Ins_)] : List Ins_), 3, x0_1.params, []⟩ : Block_)] : List Block_)⟩ : Code_)] : List Code_)) 1 et_38 hf hm rfl (ro_sh hm.lez hz_r2_7) rfl rfl rfl h2_7) ?_
       rintro v2_8 w hm
       rw [h2_7e] at hm
       refine tAn rfl ?_
       obtain ⟨p2_5, c2_5, rfl, hl2_5⟩ := ro_slice (sh_read (Heap.le_trans (Heap.le_refl _) hm.lez) (hm.ow_rep 1 rfl))
       exact tP rfl (fun w => yG rfl (y_build (vs := [(0, (.slice p2_5 pb1_2.length c2_5))]) (cs := #[(.slice p2_5 pb1_2.length c2_5)]) rfl rfl (by kernel_rfl))) (tE (gZ fun a hf => ⟨hz2_9, (sV b0_2 o0_1 r0_1.1.codes.length c0_2), b2_8, (.slice p2_5 pb1_2.length c2_5), (Heap.le_trans (Heap.le_trans hle2_6 hle2_7) hle2_9), (GT.mono (Heap.le_trans hle2_7 hle2_9) hz_r2_5), hf.sb rfl, hm.pk [3, 4, 0, 1] rfl rfl⟩))
      refine tO (tf rfl rfl (fun a hf => e_alloc hm zeroValue40 rfl rfl) ?_)
      rintro _ w ⟨b2_9, rfl, hm⟩
      refine tAk hm [3, 4, 6] rfl fun hS => tO ?_
      obtain ⟨hz2_10, hle2_10, hz_r2_8, hm⟩ := hm.freeze 5 rfl
      replace hm := hm.pk (L' := [blk b2_9 [(.slice none 0 0)] 40, ow [(sV b2_6 0 1 1)] ([(⟨x0_1.params, w64 (x0_1.params + 1), ([(⟨[], ([(⟨14, x0_1.params, xs0_1, ((r0_1.1.codes.length : Int)) - 1⟩ : Ins_)] : List Ins_), 3, x0_1.params, []⟩ : Block_)] : List Block_)⟩ : Code_)] : List Code_), ow [v2_1] ([] : List Code_), blk b0_5 [(nV x0_1.params), (nV (w64 (x0_1.params + 1))), (sV b0_4 0 1 1)] 55, blk b0_1 [(sV b0_2 o0_1 r0_1.1.codes.length c0_2)] 40, ow [(.slice p0_3 r0_1.2.length c0_4)] r0_1.2]) [0, 1, 2, 3, 4, 6] rfl rfl
      replace hz_r2_8 : GT.rep hz2_10 [(sV b0_2 o0_1 r0_1.1.codes.length c0_2)] r0_1.1.codes := fz_ow hz_r2_8
      obtain ⟨hz2_11, hle2_11, hm⟩ := hm.shallow (α := Code_) 2 rfl
      obtain ⟨h2_8, h2_8e⟩ := appM_some.1 hpb1_1
      refine tf rfl rfl (fun a hf => e_appendSh (α := Code_) (xs := ([] : List Code_)) (ys := r0_1.1.codes) 2 et_38 hf hm rfl (ro_sh hm.lez (GT.mono hle2_11 hz_r2_8)) rfl rfl rfl h2_8) ?_
      rintro v2_9 w hm
      rw [h2_8e] at hm
      refine tAk (hm.thaw (Heap.le_trans hle2_10 hle2_11)) [3, 4, 5] rfl fun hS => tO ?_
      obtain ⟨hz2_12, hle2_12, hz_r2_9, hm⟩ := hm.freeze 1 rfl
      replace hm := hm.pk (L' := [blk b2_9 [(.slice none 0 0)] 40, ow (α := List (Sh hz2_11 Code_)) [v2_9] pb1_1, blk b0_5 [(nV x0_1.params), (nV (w64 (x0_1.params + 1))), (sV b0_4 0 1 1)] 55, blk b0_1 [(sV b0_2 o0_1 r0_1.1.codes.length c0_2)] 40, ow [(.slice p0_3 r0_1.2.length c0_4)] r0_1.2]) [0, 2, 3, 4, 5] rfl rfl
      replace hz_r2_9 : GT.rep hz2_12 [(sV b2_6 0 1 1)] ([(⟨x0_1.params, w64 (x0_1.params + 1), ([(⟨[], ([(⟨14, x0_1.params, xs0_1, ((r0_1.1.codes.length : Int)) - 1⟩ : Ins_)] : List Ins_), 3, x0_1.params, []⟩ : Block_)] : List Block_)⟩ : Code_)] : List Code_) := fz_ow hz_r2_9
      obtain ⟨h2_9, h2_9e⟩ := appM_some.1 hpb1_2
      replace hm := hm.sh_up hle2_12 1 rfl
      refine tf rfl rfl (fun a hf => e_appendSh (α := Code_) (xs := pb1_1) (ys := ([(⟨x0_1.params, w64 (x0_1.params + 1), ([(⟨[], ([(⟨14, x0_1.params, xs0_1, ((r0_1.1.codes.length : Int)) - 1⟩ : Ins_)] : List Ins_), 3, x0_1.params, []⟩ : Block_)] : List Block_)⟩ : Code_)] : List Code_)) 1 et_38 hf hm rfl (ro_sh hm.lez hz_r2_9) rfl rfl rfl h2_9) ?_
      rintro v2_10 w hm
      rw [h2_9e] at hm
      refine tAn rfl ?_
      obtain ⟨p2_6, c2_6, rfl, hl2_6⟩ := ro_slice (sh_read (Heap.le_trans (Heap.le_refl _) hm.lez) (hm.ow_rep 1 rfl))
      exact tP rfl (fun w => yG rfl (y_build (vs := [(0, (.slice p2_6 pb1_2.length c2_6))]) (cs := #[(.slice p2_6 pb1_2.length c2_6)]) rfl rfl (by kernel_rfl))) (tE (gZ fun a hf => ⟨hz2_12, (sV b0_2 o0_1 r0_1.1.codes.length c0_2), b2_9, (.slice p2_6 pb1_2.length c2_6), (Heap.le_trans (Heap.le_trans hle2_10 hle2_11) hle2_12), (GT.mono (Heap.le_trans hle2_11 hle2_12) hz_r2_8), hf.sb rfl, hm.pk [3, 4, 0, 1] rfl rfl⟩))
     refine tO (tf rfl rfl (fun a hf => e_alloc hm zeroValue40 rfl rfl) ?_)
     rintro _ w ⟨b2_10, rfl, hm⟩
     refine tAk hm [2, 4, 6] rfl fun hS => tMo ?_ ?_
     ·
      obtain ⟨hz2_13, hle2_13, hz_r2_10, hm⟩ := hm.freeze 5 rfl
      replace hm := hm.pk (L' := [blk b2_10 [(.slice none 0 0)] 40, ow [v2_1] ([] : List Code_), blk b0_5 [(nV x0_1.params), (nV (w64 (x0_1.params + 1))), (sV b0_4 0 1 1)] 55, ow [(sV b0_4 0 1 1)] ([(⟨[], ([(⟨14, x0_1.params, xs0_1, ((r0_1.1.codes.length : Int)) - 1⟩ : Ins_)] : List Ins_), 3, x0_1.params, []⟩ : Block_)] : List Block_), blk b0_1 [(sV b0_2 o0_1 r0_1.1.codes.length c0_2)] 40, ow [(.slice p0_3 r0_1.2.length c0_4)] r0_1.2]) [0, 1, 2, 3, 4, 6] rfl rfl
      replace hz_r2_10 : GT.rep hz2_13 [(sV b0_2 o0_1 r0_1.1.codes.length c0_2)] r0_1.1.codes := fz_ow hz_r2_10
      obtain ⟨hz2_14, hle2_14, hm⟩ := hm.shallow (α := Code_) 1 rfl
      obtain ⟨h2_10, h2_10e⟩ := appM_some.1 hpb1_1
      refine tf rfl rfl (fun a hf => e_appendSh (α := Code_) (xs := ([] : List Code_)) (ys := r0_1.1.codes) 1 et_38 hf hm rfl (ro_sh hm.lez (GT.mono hle2_14 hz_r2_10)) rfl rfl rfl h2_10) ?_
      rintro v2_11 w hm
      rw [h2_10e] at hm
      refine tAk (hm.thaw (Heap.le_trans hle2_13 hle2_14)) [2, 4, 5] rfl fun hS => tO (tf rfl rfl (fun a hf => e_build (vs := #[(0, (.agg #[(nV x0_1.params), (nV (w64 (x0_1.params + 1))), (sV b0_4 0 1 1)]))]) (cs := [(nV x0_1.params), (nV (w64 (x0_1.params + 1))), (sV b0_4 0 1 1)]) et_38 hf hm rfl rfl (by kernel_rfl) rfl rfl) ?_)
      rintro _ w ⟨b2_11, rfl, hm⟩
      replace hm := hm.els_nil (α := Code_)
      replace hm := hm.own0 (c := [(nV x0_1.params)]) (x := (x0_1.params : Int)) (fun h => Flat.own_iff.2 rfl)
      replace hm := hm.own0 (c := [(nV (w64 (x0_1.params + 1)))]) (x := (w64 (x0_1.params + 1) : Int)) (fun h => Flat.own_iff.2 rfl)
      replace hm := hm.pair (x := (w64 (x0_1.params + 1) : Int)) (y := (([(⟨[], ([(⟨14, x0_1.params, xs0_1, ((r0_1.1.codes.length : Int)) - 1⟩ : Ins_)] : List Ins_), 3, x0_1.params, []⟩ : Block_)] : List Block_) : List Block_)) 0 7 (by decide) rfl rfl
      replace hm := hm.pair (x := (x0_1.params : Int)) (y := ((w64 (x0_1.params + 1), ([(⟨[], ([(⟨14, x0_1.params, xs0_1, ((r0_1.1.codes.length : Int)) - 1⟩ : Ins_)] : List Ins_), 3, x0_1.params, []⟩ : Block_)] : List Block_)) : Int × (List Block_))) 1 0 (by decide) rfl rfl
      replace hm := hm.imp (c' := ow [(nV x0_1.params), (nV (w64 (x0_1.params + 1))), (sV b0_4 0 1 1)] ((⟨x0_1.params, w64 (x0_1.params + 1), ([(⟨[], ([(⟨14, x0_1.params, xs0_1, ((r0_1.1.codes.length : Int)) - 1⟩ : Ins_)] : List Ins_), 3, x0_1.params, []⟩ : Block_)] : List Block_)⟩ : Code_) : Code_)) 1 rfl (fun F h0 => h0)
      replace hm := hm.pk (L' := [ow [(nV x0_1.params), (nV (w64 (x0_1.params + 1))), (sV b0_4 0 1 1)] ((⟨x0_1.params, w64 (x0_1.params + 1), ([(⟨[], ([(⟨14, x0_1.params, xs0_1, ((r0_1.1.codes.length : Int)) - 1⟩ : Ins_)] : List Ins_), 3, x0_1.params, []⟩ : Block_)] : List Block_)⟩ : Code_) : Code_), els [] ([] : List Code_), blk b2_11 [(nV x0_1.params), (nV (w64 (x0_1.params + 1))), (sV b0_4 0 1 1)] 55, blk b2_10 [(.slice none 0 0)] 40, ow (α := List (Sh hz2_14 Code_)) [v2_11] pb1_1, blk b0_5 [(nV x0_1.params), (nV (w64 (x0_1.params + 1))), (sV b0_4 0 1 1)] 55, blk b0_1 [(sV b0_2 o0_1 r0_1.1.codes.length c0_2)] 40, ow [(.slice p0_3 r0_1.2.length c0_4)] r0_1.2]) [1, 2, 3, 4, 5, 6, 8, 9] rfl rfl
      replace hm := (hm.els_cons 1 0 (by decide) rfl rfl).pk (L' := [els [(nV x0_1.params), (nV (w64 (x0_1.params + 1))), (sV b0_4 0 1 1)] ([(⟨x0_1.params, w64 (x0_1.params + 1), ([(⟨[], ([(⟨14, x0_1.params, xs0_1, ((r0_1.1.codes.length : Int)) - 1⟩ : Ins_)] : List Ins_), 3, x0_1.params, []⟩ : Block_)] : List Block_)⟩ : Code_)] : List Code_), blk b2_11 [(nV x0_1.params), (nV (w64 (x0_1.params + 1))), (sV b0_4 0 1 1)] 55, blk b2_10 [(.slice none 0 0)] 40, ow (α := List (Sh hz2_14 Code_)) [v2_11] pb1_1, blk b0_5 [(nV x0_1.params), (nV (w64 (x0_1.params + 1))), (sV b0_4 0 1 1)] 55, blk b0_1 [(sV b0_2 o0_1 r0_1.1.codes.length c0_2)] 40, ow [(.slice p0_3 r0_1.2.length c0_4)] r0_1.2]) [1, 2, 3, 4, 5, 6, 7] rfl rfl
      replace hm := (hm.lit_els 1 0 (by decide) rfl rfl rfl rfl).pk (L' := [ow [(sV b2_11 0 1 1)] ([(⟨x0_1.params, w64 (x0_1.params + 1), ([(⟨[], ([(⟨14, x0_1.params, xs0_1, ((r0_1.1.codes.length : Int)) - 1⟩ : Ins_)] : List Ins_), 3, x0_1.params, []⟩ : Block_)] : List Block_)⟩ : Code_)] : List Code_), blk b2_10 [(.slice none 0 0)] 40, ow (α := List (Sh hz2_14 Code_)) [v2_11] pb1_1, blk b0_5 [(nV x0_1.params), (nV (w64 (x0_1.params + 1))), (sV b0_4 0 1 1)] 55, blk b0_1 [(sV b0_2 o0_1 r0_1.1.codes.length c0_2)] 40, ow [(.slice p0_3 r0_1.2.length c0_4)] r0_1.2]) [1, 2, 3, 4, 5, 6] rfl rfl
      refine tAk (hm.thaw (Heap.le_trans hle2_13 hle2_14)) [3, 4, 5] rfl fun hS => tO ?_
      obtain ⟨hz2_15, hle2_15, hz_r2_11, hm⟩ := hm.freeze 0 rfl
      replace hm := hm.pk (L' := [blk b2_10 [(.slice none 0 0)] 40, ow (α := List (Sh hz2_14 Code_)) [v2_11] pb1_1, blk b0_5 [(nV x0_1.params), (nV (w64 (x0_1.params + 1))), (sV b0_4 0 1 1)] 55, blk b0_1 [(sV b0_2 o0_1 r0_1.1.codes.length c0_2)] 40, ow [(.slice p0_3 r0_1.2.length c0_4)] r0_1.2]) [1, 2, 3, 4, 5] rfl rfl
      replace hz_r2_11 : GT.rep hz2_15 [(sV b2_11 0 1 1)] ([(⟨x0_1.params, w64 (x0_1.params + 1), ([(⟨[], ([(⟨14, x0_1.params, xs0_1, ((r0_1.1.codes.length : Int)) - 1⟩ : Ins_)] : List Ins_), 3, x0_1.params, []⟩ : Block_)] : List Block_)⟩ : Code_)] : List Code_) := fz_ow hz_r2_11
      obtain ⟨h2_11, h2_11e⟩ := appM_some.1 hpb1_2
      replace hm := hm.sh_up hle2_15 1 rfl
      refine tf rfl rfl (fun a hf => e_appendSh (α := Code_) (xs := pb1_1) (ys := ([(⟨x0_1.params, w64 (x0_1.params + 1), ([(⟨[], ([(⟨14, x0_1.params, xs0_1, ((r0_1.1.codes.length : Int)) - 1⟩ : Ins_)] : List Ins_), 3, x0_1.params, []⟩ : Block_)] : List Block_)⟩ : Code_)] : List Code_)) 1 et_38 hf hm rfl (ro_sh hm.lez hz_r2_11) rfl rfl rfl h2_11) ?_
      rintro v2_12 w hm
      rw [h2_11e] at hm
      refine tAn rfl ?_
      obtain ⟨p2_7, c2_7, rfl, hl2_7⟩ := ro_slice (sh_read (Heap.le_trans (Heap.le_refl _) hm.lez) (hm.ow_rep 1 rfl))
      exact tP rfl (fun w => yG rfl (y_build (vs := [(0, (.slice p2_7 pb1_2.length c2_7))]) (cs := #[(.slice p2_7 pb1_2.length c2_7)]) rfl rfl (by kernel_rfl))) (tE (gZ fun a hf => ⟨hz2_15, (sV b0_2 o0_1 r0_1.1.codes.length c0_2), b2_10, (.slice p2_7 pb1_2.length c2_7), (Heap.le_trans (Heap.le_trans hle2_13 hle2_14) hle2_15), (GT.mono (Heap.le_trans hle2_14 hle2_15) hz_r2_10), hf.sb rfl, hm.pk [3, 4, 0, 1] rfl rfl⟩))
     refine tO (tf rfl rfl (fun a hf => e_build (vs := #[(0, (.agg #[(nV x0_1.params), (nV (w64 (x0_1.params + 1))), (sV b0_4 0 1 1)]))]) (cs := [(nV x0_1.params), (nV (w64 (x0_1.params + 1))), (sV b0_4 0 1 1)]) et_38 hf hm rfl rfl (by kernel_rfl) rfl rfl) ?_)
     rintro _ w ⟨b2_12, rfl, hm⟩
     replace hm := hm.els_nil (α := Code_)
     replace hm := hm.own0 (c := [(nV x0_1.params)]) (x := (x0_1.params : Int)) (fun h => Flat.own_iff.2 rfl)
     replace hm := hm.own0 (c := [(nV (w64 (x0_1.params + 1)))]) (x := (w64 (x0_1.params + 1) : Int)) (fun h => Flat.own_iff.2 rfl)
     replace hm := hm.pair (x := (w64 (x0_1.params + 1) : Int)) (y := (([(⟨[], ([(⟨14, x0_1.params, xs0_1, ((r0_1.1.codes.length : Int)) - 1⟩ : Ins_)] : List Ins_), 3, x0_1.params, []⟩ : Block_)] : List Block_) : List Block_)) 0 7 (by decide) rfl rfl
     replace hm := hm.pair (x := (x0_1.params : Int)) (y := ((w64 (x0_1.params + 1), ([(⟨[], ([(⟨14, x0_1.params, xs0_1, ((r0_1.1.codes.length : Int)) - 1⟩ : Ins_)] : List Ins_), 3, x0_1.params, []⟩ : Block_)] : List Block_)) : Int × (List Block_))) 1 0 (by decide) rfl rfl
     replace hm := hm.imp (c' := ow [(nV x0_1.params), (nV (w64 (x0_1.params + 1))), (sV b0_4 0 1 1)] ((⟨x0_1.params, w64 (x0_1.params + 1), ([(⟨[], ([(⟨14, x0_1.params, xs0_1, ((r0_1.1.codes.length : Int)) - 1⟩ : Ins_)] : List Ins_), 3, x0_1.params, []⟩ : Block_)] : List Block_)⟩ : Code_) : Code_)) 1 rfl (fun F h0 => h0)
     replace hm := hm.pk (L' := [ow [(nV x0_1.params), (nV (w64 (x0_1.params + 1))), (sV b0_4 0 1 1)] ((⟨x0_1.params, w64 (x0_1.params + 1), ([(⟨[], ([(⟨14, x0_1.params, xs0_1, ((r0_1.1.codes.length : Int)) - 1⟩ : Ins_)] : List Ins_), 3, x0_1.params, []⟩ : Block_)] : List Block_)⟩ : Code_) : Code_), els [] ([] : List Code_), blk b2_12 [(nV x0_1.params), (nV (w64 (x0_1.params + 1))), (sV b0_4 0 1 1)] 55, blk b2_10 [(.slice none 0 0)] 40, ow [v2_1] ([] : List Code_), blk b0_5 [(nV x0_1.params), (nV (w64 (x0_1.params + 1))), (sV b0_4 0 1 1)] 55, blk b0_1 [(sV b0_2 o0_1 r0_1.1.codes.length c0_2)] 40, ow [(sV b0_2 o0_1 r0_1.1.codes.length c0_2)] r0_1.1.codes, ow [(.slice p0_3 r0_1.2.length c0_4)] r0_1.2]) [1, 2, 3, 4, 5, 6, 8, 9, 10] rfl rfl
     replace hm := (hm.els_cons 1 0 (by decide) rfl rfl).pk (L' := [els [(nV x0_1.params), (nV (w64 (x0_1.params + 1))), (sV b0_4 0 1 1)] ([(⟨x0_1.params, w64 (x0_1.params + 1), ([(⟨[], ([(⟨14, x0_1.params, xs0_1, ((r0_1.1.codes.length : Int)) - 1⟩ : Ins_)] : List Ins_), 3, x0_1.params, []⟩ : Block_)] : List Block_)⟩ : Code_)] : List Code_), blk b2_12 [(nV x0_1.params), (nV (w64 (x0_1.params + 1))), (sV b0_4 0 1 1)] 55, blk b2_10 [(.slice none 0 0)] 40, ow [v2_1] ([] : List Code_), blk b0_5 [(nV x0_1.params), (nV (w64 (x0_1.params + 1))), (sV b0_4 0 1 1)] 55, blk b0_1 [(sV b0_2 o0_1 r0_1.1.codes.length c0_2)] 40, ow [(sV b0_2 o0_1 r0_1.1.codes.length c0_2)] r0_1.1.codes, ow [(.slice p0_3 r0_1.2.length c0_4)] r0_1.2]) [1, 2, 3, 4, 5, 6, 7, 8] rfl rfl
     replace hm := (hm.lit_els 1 0 (by decide) rfl rfl rfl rfl).pk (L' := [ow [(sV b2_12 0 1 1)] ([(⟨x0_1.params, w64 (x0_1.params + 1), ([(⟨[], ([(⟨14, x0_1.params, xs0_1, ((r0_1.1.codes.length : Int)) - 1⟩ : Ins_)] : List Ins_), 3, x0_1.params, []⟩ : Block_)] : List Block_)⟩ : Code_)] : List Code_), blk b2_10 [(.slice none 0 0)] 40, ow [v2_1] ([] : List Code_), blk b0_5 [(nV x0_1.params), (nV (w64 (x0_1.params + 1))), (sV b0_4 0 1 1)] 55, blk b0_1 [(sV b0_2 o0_1 r0_1.1.codes.length c0_2)] 40, ow [(sV b0_2 o0_1 r0_1.1.codes.length c0_2)] r0_1.1.codes, ow [(.slice p0_3 r0_1.2.length c0_4)] r0_1.2]) [1, 2, 3, 4, 5, 6, 7] rfl rfl
     refine tAk hm [3, 4, 6] rfl fun hS => tO ?_
     obtain ⟨hz2_16, hle2_16, hz_r2_12, hm⟩ := hm.freeze 5 rfl
     replace hm := hm.pk (L' := [ow [(sV b2_12 0 1 1)] ([(⟨x0_1.params, w64 (x0_1.params + 1), ([(⟨[], ([(⟨14, x0_1.params, xs0_1, ((r0_1.1.codes.length : Int)) - 1⟩ : Ins_)] : List Ins_), 3, x0_1.params, []⟩ : Block_)] : List Block_)⟩ : Code_)] : List Code_), blk b2_10 [(.slice none 0 0)] 40, ow [v2_1] ([] : List Code_), blk b0_5 [(nV x0_1.params), (nV (w64 (x0_1.params + 1))), (sV b0_4 0 1 1)] 55, blk b0_1 [(sV b0_2 o0_1 r0_1.1.codes.length c0_2)] 40, ow [(.slice p0_3 r0_1.2.length c0_4)] r0_1.2]) [0, 1, 2, 3, 4, 6] rfl rfl
     replace hz_r2_12 : GT.rep hz2_16 [(sV b0_2 o0_1 r0_1.1.codes.length c0_2)] r0_1.1.codes := fz_ow hz_r2_12
     obtain ⟨hz2_17, hle2_17, hm⟩ := hm.shallow (α := Code_) 2 rfl
     obtain ⟨h2_12, h2_12e⟩ := appM_some.1 hpb1_1
     refine tf rfl rfl (fun a hf => e_appendSh (α := Code_) (xs := ([] : List Code_)) (ys := r0_1.1.codes) 2 et_38 hf hm rfl (ro_sh hm.lez (GT.mono hle2_17 hz_r2_12)) rfl rfl rfl h2_12) ?_
     rintro v2_13 w hm
     rw [h2_12e] at hm
     refine tAk (hm.thaw (Heap.le_trans hle2_16 hle2_17)) [3, 4, 5] rfl fun hS => tO ?_
     obtain ⟨hz2_18, hle2_18, hz_r2_13, hm⟩ := hm.freeze 0 rfl
     replace hm := hm.pk (L' := [blk b2_10 [(.slice none 0 0)] 40, ow (α := List (Sh hz2_17 Code_)) [v2_13] pb1_1, blk b0_5 [(nV x0_1.params), (nV (w64 (x0_1.params + 1))), (sV b0_4 0 1 1)] 55, blk b0_1 [(sV b0_2 o0_1 r0_1.1.codes.length c0_2)] 40, ow [(.slice p0_3 r0_1.2.length c0_4)] r0_1.2]) [1, 2, 3, 4, 5] rfl rfl
     replace hz_r2_13 : GT.rep hz2_18 [(sV b2_12 0 1 1)] ([(⟨x0_1.params, w64 (x0_1.params + 1), ([(⟨[], ([(⟨14, x0_1.params, xs0_1, ((r0_1.1.codes.length : Int)) - 1⟩ : Ins_)] : List Ins_), 3, x0_1.params, []⟩ : Block_)] : List Block_)⟩ : Code_)] : List Code_) := fz_ow hz_r2_13
     obtain ⟨h2_13, h2_13e⟩ := appM_some.1 hpb1_2
     replace hm := hm.sh_up hle2_18 1 rfl
     refine tf rfl rfl (fun a hf => e_appendSh (α := Code_) (xs := pb1_1) (ys := ([(⟨x0_1.params, w64 (x0_1.params + 1), ([(⟨[], ([(⟨14, x0_1.params, xs0_1, ((r0_1.1.codes.length : Int)) - 1⟩ : Ins_)] : List Ins_), 3, x0_1.params, []⟩ : Block_)] : List Block_)⟩ : Code_)] : List Code_)) 1 et_38 hf hm rfl (ro_sh hm.lez hz_r2_13) rfl rfl rfl h2_13) ?_
     rintro v2_14 w hm
     rw [h2_13e] at hm
     refine tAn rfl ?_
     obtain ⟨p2_8, c2_8, rfl, hl2_8⟩ := ro_slice (sh_read (Heap.le_trans (Heap.le_refl _) hm.lez) (hm.ow_rep 1 rfl))
     exact tP rfl (fun w => yG rfl (y_build (vs := [(0, (.slice p2_8 pb1_2.length c2_8))]) (cs := #[(.slice p2_8 pb1_2.length c2_8)]) rfl rfl (by kernel_rfl))) (tE (gZ fun a hf => ⟨hz2_18, (sV b0_2 o0_1 r0_1.1.codes.length c0_2), b2_10, (.slice p2_8 pb1_2.length c2_8), (Heap.le_trans (Heap.le_trans hle2_16 hle2_17) hle2_18), (GT.mono (Heap.le_trans hle2_17 hle2_18) hz_r2_12), hf.sb rfl, hm.pk [3, 4, 0, 1] rfl rfl⟩))
    refine tMo ?_ ?_
    ·
     refine tf rfl rfl (fun a hf => e_build (vs := #[(0, (.agg #[(nV x0_1.params), (nV (w64 (x0_1.params + 1))), (sV b0_4 0 1 1)]))]) (cs := [(nV x0_1.params), (nV (w64 (x0_1.params + 1))), (sV b0_4 0 1 1)]) et_38 hf hm rfl rfl (by kernel_rfl) rfl rfl) ?_
     rintro _ w ⟨b2_13, rfl, hm⟩
     replace hm := hm.els_nil (α := Code_)
     replace hm := hm.own0 (c := [(nV x0_1.params)]) (x := (x0_1.params : Int)) (fun h => Flat.own_iff.2 rfl)
     replace hm := hm.own0 (c := [(nV (w64 (x0_1.params + 1)))]) (x := (w64 (x0_1.params + 1) : Int)) (fun h => Flat.own_iff.2 rfl)
     replace hm := hm.pair (x := (w64 (x0_1.params + 1) : Int)) (y := (([(⟨[], ([(⟨14, x0_1.params, xs0_1, ((r0_1.1.codes.length : Int)) - 1⟩ : Ins_)] : List Ins_), 3, x0_1.params, []⟩ : Block_)] : List Block_) : List Block_)) 0 5 (by decide) rfl rfl
     replace hm := hm.pair (x := (x0_1.params : Int)) (y := ((w64 (x0_1.params + 1), ([(⟨[], ([(⟨14, x0_1.params, xs0_1, ((r0_1.1.codes.length : Int)) - 1⟩ : Ins_)] : List Ins_), 3, x0_1.params, []⟩ : Block_)] : List Block_)) : Int × (List Block_))) 1 0 (by decide) rfl rfl
     replace hm := hm.imp (c' := ow [(nV x0_1.params), (nV (w64 (x0_1.params + 1))), (sV b0_4 0 1 1)] ((⟨x0_1.params, w64 (x0_1.params + 1), ([(⟨[], ([(⟨14, x0_1.params, xs0_1, ((r0_1.1.codes.length : Int)) - 1⟩ : Ins_)] : List Ins_), 3, x0_1.params, []⟩ : Block_)] : List Block_)⟩ : Code_) : Code_)) 1 rfl (fun F h0 => h0)
     replace hm := hm.pk (L' := [ow [(nV x0_1.params), (nV (w64 (x0_1.params + 1))), (sV b0_4 0 1 1)] ((⟨x0_1.params, w64 (x0_1.params + 1), ([(⟨[], ([(⟨14, x0_1.params, xs0_1, ((r0_1.1.codes.length : Int)) - 1⟩ : Ins_)] : List Ins_), 3, x0_1.params, []⟩ : Block_)] : List Block_)⟩ : Code_) : Code_), els [] ([] : List Code_), blk b2_13 [(nV x0_1.params), (nV (w64 (x0_1.params + 1))), (sV b0_4 0 1 1)] 55, blk b0_5 [(nV x0_1.params), (nV (w64 (x0_1.params + 1))), (sV b0_4 0 1 1)] 55, blk b0_1 [(sV b0_2 o0_1 r0_1.1.codes.length c0_2)] 40, ow [(sV b0_2 o0_1 r0_1.1.codes.length c0_2)] r0_1.1.codes, ow [(.slice p0_3 r0_1.2.length c0_4)] r0_1.2]) [1, 2, 3, 4, 6, 7, 8] rfl rfl
     replace hm := (hm.els_cons 1 0 (by decide) rfl rfl).pk (L' := [els [(nV x0_1.params), (nV (w64 (x0_1.params + 1))), (sV b0_4 0 1 1)] ([(⟨x0_1.params, w64 (x0_1.params + 1), ([(⟨[], ([(⟨14, x0_1.params, xs0_1, ((r0_1.1.codes.length : Int)) - 1⟩ : Ins_)] : List Ins_), 3, x0_1.params, []⟩ : Block_)] : List Block_)⟩ : Code_)] : List Code_), blk b2_13 [(nV x0_1.params), (nV (w64 (x0_1.params + 1))), (sV b0_4 0 1 1)] 55, blk b0_5 [(nV x0_1.params), (nV (w64 (x0_1.params + 1))), (sV b0_4 0 1 1)] 55, blk b0_1 [(sV b0_2 o0_1 r0_1.1.codes.length c0_2)] 40, ow [(sV b0_2 o0_1 r0_1.1.codes.length c0_2)] r0_1.1.codes, ow [(.slice p0_3 r0_1.2.length c0_4)] r0_1.2]) [1, 2, 3, 4, 5, 6] rfl rfl
     replace hm := (hm.lit_els 1 0 (by decide) rfl rfl rfl rfl).pk (L' := [ow [(sV b2_13 0 1 1)] ([(⟨x0_1.params, w64 (x0_1.params + 1), ([(⟨[], ([(⟨14, x0_1.params, xs0_1, ((r0_1.1.codes.length : Int)) - 1⟩ : Ins_)] : List Ins_), 3, x0_1.params, []⟩ : Block_)] : List Block_)⟩ : Code_)] : List Code_), blk b0_5 [(nV x0_1.params), (nV (w64 (x0_1.params + 1))), (sV b0_4 0 1 1)] 55, blk b0_1 [(sV b0_2 o0_1 r0_1.1.codes.length c0_2)] 40, ow [(sV b0_2 o0_1 r0_1.1.codes.length c0_2)] r0_1.1.codes, ow [(.slice p0_3 r0_1.2.length c0_4)] r0_1.2]) [1, 2, 3, 4, 5] rfl rfl
     refine tAk hm [1, 2, 4] rfl fun hS => tMo ?_ ?_
     ·
      refine tf rfl rfl (fun a hf => e_build0 (α := Code_) et_38 hm rfl) ?_
      rintro v2_15 w hm
      refine tAk hm [2, 3, 5] rfl fun hS => tMo ?_ ?_
      ·
       obtain ⟨hz2_19, hle2_19, hz_r2_14, hm⟩ := hm.freeze 4 rfl
       replace hm := hm.pk (L' := [ow [v2_15] ([] : List Code_), ow [(sV b2_13 0 1 1)] ([(⟨x0_1.params, w64 (x0_1.params + 1), ([(⟨[], ([(⟨14, x0_1.params, xs0_1, ((r0_1.1.codes.length : Int)) - 1⟩ : Ins_)] : List Ins_), 3, x0_1.params, []⟩ : Block_)] : List Block_)⟩ : Code_)] : List Code_), blk b0_5 [(nV x0_1.params), (nV (w64 (x0_1.params + 1))), (sV b0_4 0 1 1)] 55, blk b0_1 [(sV b0_2 o0_1 r0_1.1.codes.length c0_2)] 40, ow [(.slice p0_3 r0_1.2.length c0_4)] r0_1.2]) [0, 1, 2, 3, 5] rfl rfl
       replace hz_r2_14 : GT.rep hz2_19 [(sV b0_2 o0_1 r0_1.1.codes.length c0_2)] r0_1.1.codes := fz_ow hz_r2_14
       obtain ⟨hz2_20, hle2_20, hm⟩ := hm.shallow (α := Code_) 0 rfl
       obtain ⟨h2_14, h2_14e⟩ := appM_some.1 hpb1_1
       refine tf rfl rfl (fun a hf => e_appendSh (α := Code_) (xs := ([] : List Code_)) (ys := r0_1.1.codes) 0 et_38 hf hm rfl (ro_sh hm.lez (GT.mono hle2_20 hz_r2_14)) rfl rfl rfl h2_14) ?_
       rintro v2_16 w hm
       rw [h2_14e] at hm
       refine tAk (hm.thaw (Heap.le_trans hle2_19 hle2_20)) [2, 3, 4] rfl fun hS => tMo ?_ ?_
       ·
        obtain ⟨hz2_21, hle2_21, hz_r2_15, hm⟩ := hm.freeze 1 rfl
        replace hm := hm.pk (L' := [ow (α := List (Sh hz2_20 Code_)) [v2_16] pb1_1, blk b0_5 [(nV x0_1.params), (nV (w64 (x0_1.params + 1))), (sV b0_4 0 1 1)] 55, blk b0_1 [(sV b0_2 o0_1 r0_1.1.codes.length c0_2)] 40, ow [(.slice p0_3 r0_1.2.length c0_4)] r0_1.2]) [0, 2, 3, 4] rfl rfl
        replace hz_r2_15 : GT.rep hz2_21 [(sV b2_13 0 1 1)] ([(⟨x0_1.params, w64 (x0_1.params + 1), ([(⟨[], ([(⟨14, x0_1.params, xs0_1, ((r0_1.1.codes.length : Int)) - 1⟩ : Ins_)] : List Ins_), 3, x0_1.params, []⟩ : Block_)] : List Block_)⟩ : Code_)] : List Code_) := fz_ow hz_r2_15
        obtain ⟨h2_15, h2_15e⟩ := appM_some.1 hpb1_2
        replace hm := hm.sh_up hle2_21 0 rfl
        refine tf rfl rfl (fun a hf => e_appendSh (α := Code_) (xs := pb1_1) (ys := ([(⟨x0_1.params, w64 (x0_1.params + 1), ([(⟨[], ([(⟨14, x0_1.params, xs0_1, ((r0_1.1.codes.length : Int)) - 1⟩ : Ins_)] : List Ins_), 3, x0_1.params, []⟩ : Block_)] : List Block_)⟩ : Code_)] : List Code_)) 0 et_38 hf hm rfl (ro_sh hm.lez hz_r2_15) rfl rfl rfl h2_15) ?_
        rintro v2_17 w hm
        rw [h2_15e] at hm
        refine tAn rfl ?_
        obtain ⟨p2_9, c2_9, rfl, hl2_9⟩ := ro_slice (sh_read (Heap.le_trans (Heap.le_refl _) hm.lez) (hm.ow_rep 0 rfl))
        refine tP rfl (fun w => yG rfl (y_build (vs := [(0, (.slice p2_9 pb1_2.length c2_9))]) (cs := #[(.slice p2_9 pb1_2.length c2_9)]) rfl rfl (by kernel_rfl))) (tO (tf rfl rfl (fun a hf => e_alloc hm zeroValue40 rfl rfl) ?_))
        rintro _ w ⟨b2_14, rfl, hm⟩
        exact tAk (hm.thaw (Heap.le_trans (Heap.le_trans hle2_19 hle2_20) hle2_21)) [2, 3, 4] rfl fun hS => tE (gZ fun a hf => ⟨hz2_21, (sV b0_2 o0_1 r0_1.1.codes.length c0_2), b2_14, (.slice p2_9 pb1_2.length c2_9), (Heap.le_trans (Heap.le_trans hle2_19 hle2_20) hle2_21), (GT.mono (Heap.le_trans hle2_20 hle2_21) hz_r2_14), hf.sb rfl, hm.pk [3, 4, 0, 1] rfl rfl⟩)
       refine tO (tf rfl rfl (fun a hf => e_alloc hm zeroValue40 rfl rfl) ?_)
       rintro _ w ⟨b2_15, rfl, hm⟩
       refine tAk (hm.thaw (Heap.le_trans hle2_19 hle2_20)) [3, 4, 5] rfl fun hS => tO ?_
       obtain ⟨hz2_22, hle2_22, hz_r2_16, hm⟩ := hm.freeze 2 rfl
       replace hm := hm.pk (L' := [blk b2_15 [(.slice none 0 0)] 40, ow (α := List (Sh hz2_20 Code_)) [v2_16] pb1_1, blk b0_5 [(nV x0_1.params), (nV (w64 (x0_1.params + 1))), (sV b0_4 0 1 1)] 55, blk b0_1 [(sV b0_2 o0_1 r0_1.1.codes.length c0_2)] 40, ow [(.slice p0_3 r0_1.2.length c0_4)] r0_1.2]) [0, 1, 3, 4, 5] rfl rfl
       replace hz_r2_16 : GT.rep hz2_22 [(sV b2_13 0 1 1)] ([(⟨x0_1.params, w64 (x0_1.params + 1), ([(⟨[], ([(⟨14, x0_1.params, xs0_1, ((r0_1.1.codes.length : Int)) - 1⟩ : Ins_)] : List Ins_), 3, x0_1.params, []⟩ : Block_)] : List Block_)⟩ : Code_)] : List Code_) := fz_ow hz_r2_16
       obtain ⟨h2_16, h2_16e⟩ := appM_some.1 hpb1_2
       replace hm := hm.sh_up hle2_22 1 rfl
       refine tf rfl rfl (fun a hf => e_appendSh (α := Code_) (xs := pb1_1) (ys := ([(⟨x0_1.params, w64 (x0_1.params + 1), ([(⟨[], ([(⟨14, x0_1.params, xs0_1, ((r0_1.1.codes.length : Int)) - 1⟩ : Ins_)] : List Ins_), 3, x0_1.params, []⟩ : Block_)] : List Block_)⟩ : Code_)] : List Code_)) 1 et_38 hf hm rfl (ro_sh hm.lez hz_r2_16) rfl rfl rfl h2_16) ?_
       rintro v2_18 w hm
       rw [h2_16e] at hm
       refine tAn rfl ?_
       obtain ⟨p2_10, c2_10, rfl, hl2_10⟩ := ro_slice (sh_read (Heap.le_trans (Heap.le_refl _) hm.lez) (hm.ow_rep 1 rfl))
       exact tP rfl (fun w => yG rfl (y_build (vs := [(0, (.slice p2_10 pb1_2.length c2_10))]) (cs := #[(.slice p2_10 pb1_2.length c2_10)]) rfl rfl (by kernel_rfl))) (tE (gZ fun a hf => ⟨hz2_22, (sV b0_2 o0_1 r0_1.1.codes.length c0_2), b2_15, (.slice p2_10 pb1_2.length c2_10), (Heap.le_trans (Heap.le_trans hle2_19 hle2_20) hle2_22), (GT.mono (Heap.le_trans hle2_20 hle2_22) hz_r2_14), hf.sb rfl, hm.pk [3, 4, 0, 1] rfl rfl⟩))
      refine tO (tf rfl rfl (fun a hf => e_alloc hm zeroValue40 rfl rfl) ?_)
      rintro _ w ⟨b2_16, rfl, hm⟩
      refine tAk hm [3, 4, 6] rfl fun hS => tO ?_
      obtain ⟨hz2_23, hle2_23, hz_r2_17, hm⟩ := hm.freeze 5 rfl
      replace hm := hm.pk (L' := [blk b2_16 [(.slice none 0 0)] 40, ow [v2_15] ([] : List Code_), ow [(sV b2_13 0 1 1)] ([(⟨x0_1.params, w64 (x0_1.params + 1), ([(⟨[], ([(⟨14, x0_1.params, xs0_1, ((r0_1.1.codes.length : Int)) - 1⟩ : Ins_)] : List Ins_), 3, x0_1.params, []⟩ : Block_)] : List Block_)⟩ : Code_)] : List Code_), blk b0_5 [(nV x0_1.params), (nV (w64 (x0_1.params + 1))), (sV b0_4 0 1 1)] 55, blk b0_1 [(sV b0_2 o0_1 r0_1.1.codes.length c0_2)] 40, ow [(.slice p0_3 r0_1.2.length c0_4)] r0_1.2]) [0, 1, 2, 3, 4, 6] rfl rfl
      replace hz_r2_17 : GT.rep hz2_23 [(sV b0_2 o0_1 r0_1.1.codes.length c0_2)] r0_1.1.codes := fz_ow hz_r2_17
      obtain ⟨hz2_24, hle2_24, hm⟩ := hm.shallow (α := Code_) 1 rfl
      obtain ⟨h2_17, h2_17e⟩ := appM_some.1 hpb1_1
      refine tf rfl rfl (fun a hf => e_appendSh (α := Code_) (xs := ([] : List Code_)) (ys := r0_1.1.codes) 1 et_38 hf hm rfl (ro_sh hm.lez (GT.mono hle2_24 hz_r2_17)) rfl rfl rfl h2_17) ?_
      rintro v2_19 w hm
      rw [h2_17e] at hm
      refine tAk (hm.thaw (Heap.le_trans hle2_23 hle2_24)) [3, 4, 5] rfl fun hS => tO ?_
      obtain ⟨hz2_25, hle2_25, hz_r2_18, hm⟩ := hm.freeze 2 rfl
      replace hm := hm.pk (L' := [blk b2_16 [(.slice none 0 0)] 40, ow (α := List (Sh hz2_24 Code_)) [v2_19] pb1_1, blk b0_5 [(nV x0_1.params), (nV (w64 (x0_1.params + 1))), (sV b0_4 0 1 1)] 55, blk b0_1 [(sV b0_2 o0_1 r0_1.1.codes.length c0_2)] 40, ow [(.slice p0_3 r0_1.2.length c0_4)] r0_1.2]) [0, 1, 3, 4, 5] rfl rfl
      replace hz_r2_18 : GT.rep hz2_25 [(sV b2_13 0 1 1)] ([(⟨x0_1.params, w64 (x0_1.params + 1), ([(⟨[], ([(⟨14, x0_1.params, xs0_1, ((r0_1.1.codes.length : Int)) - 1⟩ : Ins_)] : List Ins_), 3, x0_1.params, []⟩ : Block_)] : List Block_)⟩ : Code_)] : List Code_) := fz_ow hz_r2_18
      obtain ⟨h2_18, h2_18e⟩ := appM_some.1 hpb1_2
      replace hm := hm.sh_up hle2_25 1 rfl
      refine tf rfl rfl (fun a hf => e_appendSh (α := Code_) (xs := pb1_1) (ys := ([(⟨x0_1.params, w64 (x0_1.params + 1), ([(⟨[], ([(⟨14, x0_1.params, xs0_1, ((r0_1.1.codes.length : Int)) - 1⟩ : Ins_)] : List Ins_), 3, x0_1.params, []⟩ : Block_)] : List Block_)⟩ : Code_)] : List Code_)) 1 et_38 hf hm rfl (ro_sh hm.lez hz_r2_18) rfl rfl rfl h2_18) ?_
      rintro v2_20 w hm
      rw [h2_18e] at hm
      refine tAn rfl ?_
      obtain ⟨p2_11, c2_11, rfl, hl2_11⟩ := ro_slice (sh_read (Heap.le_trans (Heap.le_refl _) hm.lez) (hm.ow_rep 1 rfl))
      exact tP rfl (fun w => yG rfl (y_build (vs := [(0, (.slice p2_11 pb1_2.length c2_11))]) (cs := #[(.slice p2_11 pb1_2.length c2_11)]) rfl rfl (by kernel_rfl))) (tE (gZ fun a hf => ⟨hz2_25, (sV b0_2 o0_1 r0_1.1.codes.length c0_2), b2_16, (.slice p2_11 pb1_2.length c2_11), (Heap.le_trans (Heap.le_trans hle2_23 hle2_24) hle2_25), (GT.mono (Heap.le_trans hle2_24 hle2_25) hz_r2_17), hf.sb rfl, hm.pk [3, 4, 0, 1] rfl rfl⟩))
     refine tO (tf rfl rfl (fun a hf => e_alloc hm zeroValue40 rfl rfl) ?_)
     rintro _ w ⟨b2_17, rfl, hm⟩
     refine tAk hm [2, 3, 5] rfl fun hS => tO (tf rfl rfl (fun a hf => e_build0 (α := Code_) et_38 hm rfl) ?_)
     rintro v2_21 w hm
     refine tAk hm [3, 4, 6] rfl fun hS => tO ?_
     obtain ⟨hz2_26, hle2_26, hz_r2_19, hm⟩ := hm.freeze 5 rfl
     replace hm := hm.pk (L' := [ow [v2_21] ([] : List Code_), blk b2_17 [(.slice none 0 0)] 40, ow [(sV b2_13 0 1 1)] ([(⟨x0_1.params, w64 (x0_1.params + 1), ([(⟨[], ([(⟨14, x0_1.params, xs0_1, ((r0_1.1.codes.length : Int)) - 1⟩ : Ins_)] : List Ins_), 3, x0_1.params, []⟩ : Block_)] : List Block_)⟩ : Code_)] : List Code_), blk b0_5 [(nV x0_1.params), (nV (w64 (x0_1.params + 1))), (sV b0_4 0 1 1)] 55, blk b0_1 [(sV b0_2 o0_1 r0_1.1.codes.length c0_2)] 40, ow [(.slice p0_3 r0_1.2.length c0_4)] r0_1.2]) [0, 1, 2, 3, 4, 6] rfl rfl
     replace hz_r2_19 : GT.rep hz2_26 [(sV b0_2 o0_1 r0_1.1.codes.length c0_2)] r0_1.1.codes := fz_ow hz_r2_19
     obtain ⟨hz2_27, hle2_27, hm⟩ := hm.shallow (α := Code_) 0 rfl
     obtain ⟨h2_19, h2_19e⟩ := appM_some.1 hpb1_1
     refine tf rfl rfl (fun a hf => e_appendSh (α := Code_) (xs := ([] : List Code_)) (ys := r0_1.1.codes) 0 et_38 hf hm rfl (ro_sh hm.lez (GT.mono hle2_27 hz_r2_19)) rfl rfl rfl h2_19) ?_
     rintro v2_22 w hm
     rw [h2_19e] at hm
     refine tAk (hm.thaw (Heap.le_trans hle2_26 hle2_27)) [3, 4, 5] rfl fun hS => tO ?_
     obtain ⟨hz2_28, hle2_28, hz_r2_20, hm⟩ := hm.freeze 2 rfl
     replace hm := hm.pk (L' := [ow (α := List (Sh hz2_27 Code_)) [v2_22] pb1_1, blk b2_17 [(.slice none 0 0)] 40, blk b0_5 [(nV x0_1.params), (nV (w64 (x0_1.params + 1))), (sV b0_4 0 1 1)] 55, blk b0_1 [(sV b0_2 o0_1 r0_1.1.codes.length c0_2)] 40, ow [(.slice p0_3 r0_1.2.length c0_4)] r0_1.2]) [0, 1, 3, 4, 5] rfl rfl
     replace hz_r2_20 : GT.rep hz2_28 [(sV b2_13 0 1 1)] ([(⟨x0_1.params, w64 (x0_1.params + 1), ([(⟨[], ([(⟨14, x0_1.params, xs0_1, ((r0_1.1.codes.length : Int)) - 1⟩ : Ins_)] : List Ins_), 3, x0_1.params, []⟩ : Block_)] : List Block_)⟩ : Code_)] : List Code_) := fz_ow hz_r2_20
     obtain ⟨h2_20, h2_20e⟩ := appM_some.1 hpb1_2
     replace hm := hm.sh_up hle2_28 0 rfl
     refine tf rfl rfl (fun a hf => e_appendSh (α := Code_) (xs := pb1_1) (ys := ([(⟨x0_1.params, w64 (x0_1.params + 1), ([(⟨[], ([(⟨14, x0_1.params, xs0_1, ((r0_1.1.codes.length : Int)) - 1⟩ : Ins_)] : List Ins_), 3, x0_1.params, []⟩ : Block_)] : List Block_)⟩ : Code_)] : List Code_)) 0 et_38 hf hm rfl (ro_sh hm.lez hz_r2_20) rfl rfl rfl h2_20) ?_
     rintro v2_23 w hm
     rw [h2_20e] at hm
     refine tAn rfl ?_
     obtain ⟨p2_12, c2_12, rfl, hl2_12⟩ := ro_slice (sh_read (Heap.le_trans (Heap.le_refl _) hm.lez) (hm.ow_rep 0 rfl))
     exact tP rfl (fun w => yG rfl (y_build (vs := [(0, (.slice p2_12 pb1_2.length c2_12))]) (cs := #[(.slice p2_12 pb1_2.length c2_12)]) rfl rfl (by kernel_rfl))) (tE (gZ fun a hf => ⟨hz2_28, (sV b0_2 o0_1 r0_1.1.codes.length c0_2), b2_17, (.slice p2_12 pb1_2.length c2_12), (Heap.le_trans (Heap.le_trans hle2_26 hle2_27) hle2_28), (GT.mono (Heap.le_trans hle2_27 hle2_28) hz_r2_19), hf.sb rfl, hm.pk [3, 4, 1, 0] rfl rfl⟩))
    refine tO (tf rfl rfl (fun a hf => e_alloc hm zeroValue40 rfl rfl) ?_)
    rintro _ w ⟨b2_18, rfl, hm⟩
    refine tAk hm [1, 3, 5] rfl fun hS => tMo ?_ ?_
    ·
     refine tf rfl rfl (fun a hf => e_build0 (α := Code_) et_38 hm rfl) ?_
     rintro v2_24 w hm
     refine tAk hm [2, 4, 6] rfl fun hS => tMo ?_ ?_
     ·
      obtain ⟨hz2_29, hle2_29, hz_r2_21, hm⟩ := hm.freeze 5 rfl
      replace hm := hm.pk (L' := [ow [v2_24] ([] : List Code_), blk b2_18 [(.slice none 0 0)] 40, blk b0_5 [(nV x0_1.params), (nV (w64 (x0_1.params + 1))), (sV b0_4 0 1 1)] 55, ow [(sV b0_4 0 1 1)] ([(⟨[], ([(⟨14, x0_1.params, xs0_1, ((r0_1.1.codes.length : Int)) - 1⟩ : Ins_)] : List Ins_), 3, x0_1.params, []⟩ : Block_)] : List Block_), blk b0_1 [(sV b0_2 o0_1 r0_1.1.codes.length c0_2)] 40, ow [(.slice p0_3 r0_1.2.length c0_4)] r0_1.2]) [0, 1, 2, 3, 4, 6] rfl rfl
      replace hz_r2_21 : GT.rep hz2_29 [(sV b0_2 o0_1 r0_1.1.codes.length c0_2)] r0_1.1.codes := fz_ow hz_r2_21
      obtain ⟨hz2_30, hle2_30, hm⟩ := hm.shallow (α := Code_) 0 rfl
      obtain ⟨h2_21, h2_21e⟩ := appM_some.1 hpb1_1
      refine tf rfl rfl (fun a hf => e_appendSh (α := Code_) (xs := ([] : List Code_)) (ys := r0_1.1.codes) 0 et_38 hf hm rfl (ro_sh hm.lez (GT.mono hle2_30 hz_r2_21)) rfl rfl rfl h2_21) ?_
      rintro v2_25 w hm
      rw [h2_21e] at hm
      refine tAk (hm.thaw (Heap.le_trans hle2_29 hle2_30)) [2, 4, 5] rfl fun hS => tO (tf rfl rfl (fun a hf => e_build (vs := #[(0, (.agg #[(nV x0_1.params), (nV (w64 (x0_1.params + 1))), (sV b0_4 0 1 1)]))]) (cs := [(nV x0_1.params), (nV (w64 (x0_1.params + 1))), (sV b0_4 0 1 1)]) et_38 hf hm rfl rfl (by kernel_rfl) rfl rfl) ?_)
      rintro _ w ⟨b2_19, rfl, hm⟩
      replace hm := hm.els_nil (α := Code_)
      replace hm := hm.own0 (c := [(nV x0_1.params)]) (x := (x0_1.params : Int)) (fun h => Flat.own_iff.2 rfl)
      replace hm := hm.own0 (c := [(nV (w64 (x0_1.params + 1)))]) (x := (w64 (x0_1.params + 1) : Int)) (fun h => Flat.own_iff.2 rfl)
      replace hm := hm.pair (x := (w64 (x0_1.params + 1) : Int)) (y := (([(⟨[], ([(⟨14, x0_1.params, xs0_1, ((r0_1.1.codes.length : Int)) - 1⟩ : Ins_)] : List Ins_), 3, x0_1.params, []⟩ : Block_)] : List Block_) : List Block_)) 0 7 (by decide) rfl rfl
      replace hm := hm.pair (x := (x0_1.params : Int)) (y := ((w64 (x0_1.params + 1), ([(⟨[], ([(⟨14, x0_1.params, xs0_1, ((r0_1.1.codes.length : Int)) - 1⟩ : Ins_)] : List Ins_), 3, x0_1.params, []⟩ : Block_)] : List Block_)) : Int × (List Block_))) 1 0 (by decide) rfl rfl
      replace hm := hm.imp (c' := ow [(nV x0_1.params), (nV (w64 (x0_1.params + 1))), (sV b0_4 0 1 1)] ((⟨x0_1.params, w64 (x0_1.params + 1), ([(⟨[], ([(⟨14, x0_1.params, xs0_1, ((r0_1.1.codes.length : Int)) - 1⟩ : Ins_)] : List Ins_), 3, x0_1.params, []⟩ : Block_)] : List Block_)⟩ : Code_) : Code_)) 1 rfl (fun F h0 => h0)
      replace hm := hm.pk (L' := [ow [(nV x0_1.params), (nV (w64 (x0_1.params + 1))), (sV b0_4 0 1 1)] ((⟨x0_1.params, w64 (x0_1.params + 1), ([(⟨[], ([(⟨14, x0_1.params, xs0_1, ((r0_1.1.codes.length : Int)) - 1⟩ : Ins_)] : List Ins_), 3, x0_1.params, []⟩ : Block_)] : List Block_)⟩ : Code_) : Code_), els [] ([] : List Code_), blk b2_19 [(nV x0_1.params), (nV (w64 (x0_1.params + 1))), (sV b0_4 0 1 1)] 55, ow (α := List (Sh hz2_30 Code_)) [v2_25] pb1_1, blk b2_18 [(.slice none 0 0)] 40, blk b0_5 [(nV x0_1.params), (nV (w64 (x0_1.params + 1))), (sV b0_4 0 1 1)] 55, blk b0_1 [(sV b0_2 o0_1 r0_1.1.codes.length c0_2)] 40, ow [(.slice p0_3 r0_1.2.length c0_4)] r0_1.2]) [1, 2, 3, 4, 5, 6, 8, 9] rfl rfl
      replace hm := (hm.els_cons 1 0 (by decide) rfl rfl).pk (L' := [els [(nV x0_1.params), (nV (w64 (x0_1.params + 1))), (sV b0_4 0 1 1)] ([(⟨x0_1.params, w64 (x0_1.params + 1), ([(⟨[], ([(⟨14, x0_1.params, xs0_1, ((r0_1.1.codes.length : Int)) - 1⟩ : Ins_)] : List Ins_), 3, x0_1.params, []⟩ : Block_)] : List Block_)⟩ : Code_)] : List Code_), blk b2_19 [(nV x0_1.params), (nV (w64 (x0_1.params + 1))), (sV b0_4 0 1 1)] 55, ow (α := List (Sh hz2_30 Code_)) [v2_25] pb1_1, blk b2_18 [(.slice none 0 0)] 40, blk b0_5 [(nV x0_1.params), (nV (w64 (x0_1.params + 1))), (sV b0_4 0 1 1)] 55, blk b0_1 [(sV b0_2 o0_1 r0_1.1.codes.length c0_2)] 40, ow [(.slice p0_3 r0_1.2.length c0_4)] r0_1.2]) [1, 2, 3, 4, 5, 6, 7] rfl rfl
      replace hm := (hm.lit_els 1 0 (by decide) rfl rfl rfl rfl).pk (L' := [ow [(sV b2_19 0 1 1)] ([(⟨x0_1.params, w64 (x0_1.params + 1), ([(⟨[], ([(⟨14, x0_1.params, xs0_1, ((r0_1.1.codes.length : Int)) - 1⟩ : Ins_)] : List Ins_), 3, x0_1.params, []⟩ : Block_)] : List Block_)⟩ : Code_)] : List Code_), ow (α := List (Sh hz2_30 Code_)) [v2_25] pb1_1, blk b2_18 [(.slice none 0 0)] 40, blk b0_5 [(nV x0_1.params), (nV (w64 (x0_1.params + 1))), (sV b0_4 0 1 1)] 55, blk b0_1 [(sV b0_2 o0_1 r0_1.1.codes.length c0_2)] 40, ow [(.slice p0_3 r0_1.2.length c0_4)] r0_1.2]) [1, 2, 3, 4, 5, 6] rfl rfl
      refine tAk (hm.thaw (Heap.le_trans hle2_29 hle2_30)) [3, 4, 5] rfl fun hS => tO ?_
      obtain ⟨hz2_31, hle2_31, hz_r2_22, hm⟩ := hm.freeze 0 rfl
      replace hm := hm.pk (L' := [ow (α := List (Sh hz2_30 Code_)) [v2_25] pb1_1, blk b2_18 [(.slice none 0 0)] 40, blk b0_5 [(nV x0_1.params), (nV (w64 (x0_1.params + 1))), (sV b0_4 0 1 1)] 55, blk b0_1 [(sV b0_2 o0_1 r0_1.1.codes.length c0_2)] 40, ow [(.slice p0_3 r0_1.2.length c0_4)] r0_1.2]) [1, 2, 3, 4, 5] rfl rfl
      replace hz_r2_22 : GT.rep hz2_31 [(sV b2_19 0 1 1)] ([(⟨x0_1.params, w64 (x0_1.params + 1), ([(⟨[], ([(⟨14, x0_1.params, xs0_1, ((r0_1.1.codes.length : Int)) - 1⟩ : Ins_)] : List Ins_), 3, x0_1.params, []⟩ : Block_)] : List Block_)⟩ : Code_)] : List Code_) := fz_ow hz_r2_22
      obtain ⟨h2_22, h2_22e⟩ := appM_some.1 hpb1_2
      replace hm := hm.sh_up hle2_31 0 rfl
      refine tf rfl rfl (fun a hf => e_appendSh (α := Code_) (xs := pb1_1) (ys := ([(⟨x0_1.params, w64 (x0_1.params + 1), ([(⟨[], ([(⟨14, x0_1.params, xs0_1, ((r0_1.1.codes.length : Int)) - 1⟩ : Ins_)] : List Ins_), 3, x0_1.params, []⟩ : Block_)] : List Block_)⟩ : Code_)] : List Code_)) 0 et_38 hf hm rfl (ro_sh hm.lez hz_r2_22) rfl rfl rfl h2_22) ?_
      rintro v2_26 w hm
      rw [h2_22e] at hm
      refine tAn rfl ?_
      obtain ⟨p2_13, c2_13, rfl, hl2_13⟩ := ro_slice (sh_read (Heap.le_trans (Heap.le_refl _) hm.lez) (hm.ow_rep 0 rfl))
      exact tP rfl (fun w => yG rfl (y_build (vs := [(0, (.slice p2_13 pb1_2.length c2_13))]) (cs := #[(.slice p2_13 pb1_2.length c2_13)]) rfl rfl (by kernel_rfl))) (tE (gZ fun a hf => ⟨hz2_31, (sV b0_2 o0_1 r0_1.1.codes.length c0_2), b2_18, (.slice p2_13 pb1_2.length c2_13), (Heap.le_trans (Heap.le_trans hle2_29 hle2_30) hle2_31), (GT.mono (Heap.le_trans hle2_30 hle2_31) hz_r2_21), hf.sb rfl, hm.pk [3, 4, 1, 0] rfl rfl⟩))
     refine tO (tf rfl rfl (fun a hf => e_build (vs := #[(0, (.agg #[(nV x0_1.params), (nV (w64 (x0_1.params + 1))), (sV b0_4 0 1 1)]))]) (cs := [(nV x0_1.params), (nV (w64 (x0_1.params + 1))), (sV b0_4 0 1 1)]) et_38 hf hm rfl rfl (by kernel_rfl) rfl rfl) ?_)
     rintro _ w ⟨b2_20, rfl, hm⟩
     replace hm := hm.els_nil (α := Code_)
     replace hm := hm.own0 (c := [(nV x0_1.params)]) (x := (x0_1.params : Int)) (fun h => Flat.own_iff.2 rfl)
     replace hm := hm.own0 (c := [(nV (w64 (x0_1.params + 1)))]) (x := (w64 (x0_1.params + 1) : Int)) (fun h => Flat.own_iff.2 rfl)
     replace hm := hm.pair (x := (w64 (x0_1.params + 1) : Int)) (y := (([(⟨[], ([(⟨14, x0_1.params, xs0_1, ((r0_1.1.codes.length : Int)) - 1⟩ : Ins_)] : List Ins_), 3, x0_1.params, []⟩ : Block_)] : List Block_) : List Block_)) 0 7 (by decide) rfl rfl
     replace hm := hm.pair (x := (x0_1.params : Int)) (y := ((w64 (x0_1.params + 1), ([(⟨[], ([(⟨14, x0_1.params, xs0_1, ((r0_1.1.codes.length : Int)) - 1⟩ : Ins_)] : List Ins_), 3, x0_1.params, []⟩ : Block_)] : List Block_)) : Int × (List Block_))) 1 0 (by decide) rfl rfl
     replace hm := hm.imp (c' := ow [(nV x0_1.params), (nV (w64 (x0_1.params + 1))), (sV b0_4 0 1 1)] ((⟨x0_1.params, w64 (x0_1.params + 1), ([(⟨[], ([(⟨14, x0_1.params, xs0_1, ((r0_1.1.codes.length : Int)) - 1⟩ : Ins_)] : List Ins_), 3, x0_1.params, []⟩ : Block_)] : List Block_)⟩ : Code_) : Code_)) 1 rfl (fun F h0 => h0)
     replace hm := hm.pk (L' := [ow [(nV x0_1.params), (nV (w64 (x0_1.params + 1))), (sV b0_4 0 1 1)] ((⟨x0_1.params, w64 (x0_1.params + 1), ([(⟨[], ([(⟨14, x0_1.params, xs0_1, ((r0_1.1.codes.length : Int)) - 1⟩ : Ins_)] : List Ins_), 3, x0_1.params, []⟩ : Block_)] : List Block_)⟩ : Code_) : Code_), els [] ([] : List Code_), blk b2_20 [(nV x0_1.params), (nV (w64 (x0_1.params + 1))), (sV b0_4 0 1 1)] 55, ow [v2_24] ([] : List Code_), blk b2_18 [(.slice none 0 0)] 40, blk b0_5 [(nV x0_1.params), (nV (w64 (x0_1.params + 1))), (sV b0_4 0 1 1)] 55, blk b0_1 [(sV b0_2 o0_1 r0_1.1.codes.length c0_2)] 40, ow [(sV b0_2 o0_1 r0_1.1.codes.length c0_2)] r0_1.1.codes, ow [(.slice p0_3 r0_1.2.length c0_4)] r0_1.2]) [1, 2, 3, 4, 5, 6, 8, 9, 10] rfl rfl
     replace hm := (hm.els_cons 1 0 (by decide) rfl rfl).pk (L' := [els [(nV x0_1.params), (nV (w64 (x0_1.params + 1))), (sV b0_4 0 1 1)] ([(⟨x0_1.params, w64 (x0_1.params + 1), ([(⟨[], ([(⟨14, x0_1.params, xs0_1, ((r0_1.1.codes.length : Int)) - 1⟩ : Ins_)] : List Ins_), 3, x0_1.params, []⟩ : Block_)] : List Block_)⟩ : Code_)] : List Code_), blk b2_20 [(nV x0_1.params), (nV (w64 (x0_1.params + 1))), (sV b0_4 0 1 1)] 55, ow [v2_24] ([] : List Code_), blk b2_18 [(.slice none 0 0)] 40, blk b0_5 [(nV x0_1.params), (nV (w64 (x0_1.params + 1))), (sV b0_4 0 1 1)] 55, blk b0_1 [(sV b0_2 o0_1 r0_1.1.codes.length c0_2)] 40, ow [(sV b0_2 o0_1 r0_1.1.codes.length c0_2)] r0_1.1.codes, ow [(.slice p0_3 r0_1.2.length c0_4)] r0_1.2]) [1, 2, 3, 4, 5, 6, 7, 8] rfl rfl
     replace hm := (hm.lit_els 1 0 (by decide) rfl rfl rfl rfl).pk (L' := [ow [(sV b2_20 0 1 1)] ([(⟨x0_1.params, w64 (x0_1.params + 1), ([(⟨[], ([(⟨14, x0_1.params, xs0_1, ((r0_1.1.codes.length : Int)) - 1⟩ : Ins_)] : List Ins_), 3, x0_1.params, []⟩ : Block_)] : List Block_)⟩ : Code_)] : List Code_), ow [v2_24] ([] : List Code_), blk b2_18 [(.slice none 0 0)] 40, blk b0_5 [(nV x0_1.params), (nV (w64 (x0_1.params + 1))), (sV b0_4 0 1 1)] 55, blk b0_1 [(sV b0_2 o0_1 r0_1.1.codes.length c0_2)] 40, ow [(sV b0_2 o0_1 r0_1.1.codes.length c0_2)] r0_1.1.codes, ow [(.slice p0_3 r0_1.2.length c0_4)] r0_1.2]) [1, 2, 3, 4, 5, 6, 7] rfl rfl
     refine tAk hm [3, 4, 6] rfl fun hS => tO ?_
     obtain ⟨hz2_32, hle2_32, hz_r2_23, hm⟩ := hm.freeze 5 rfl
     replace hm := hm.pk (L' := [ow [(sV b2_20 0 1 1)] ([(⟨x0_1.params, w64 (x0_1.params + 1), ([(⟨[], ([(⟨14, x0_1.params, xs0_1, ((r0_1.1.codes.length : Int)) - 1⟩ : Ins_)] : List Ins_), 3, x0_1.params, []⟩ : Block_)] : List Block_)⟩ : Code_)] : List Code_), ow [v2_24] ([] : List Code_), blk b2_18 [(.slice none 0 0)] 40, blk b0_5 [(nV x0_1.params), (nV (w64 (x0_1.params + 1))), (sV b0_4 0 1 1)] 55, blk b0_1 [(sV b0_2 o0_1 r0_1.1.codes.length c0_2)] 40, ow [(.slice p0_3 r0_1.2.length c0_4)] r0_1.2]) [0, 1, 2, 3, 4, 6] rfl rfl
     replace hz_r2_23 : GT.rep hz2_32 [(sV b0_2 o0_1 r0_1.1.codes.length c0_2)] r0_1.1.codes := fz_ow hz_r2_23
     obtain ⟨hz2_33, hle2_33, hm⟩ := hm.shallow (α := Code_) 1 rfl
     obtain ⟨h2_23, h2_23e⟩ := appM_some.1 hpb1_1
     refine tf rfl rfl (fun a hf => e_appendSh (α := Code_) (xs := ([] : List Code_)) (ys := r0_1.1.codes) 1 et_38 hf hm rfl (ro_sh hm.lez (GT.mono hle2_33 hz_r2_23)) rfl rfl rfl h2_23) ?_
     rintro v2_27 w hm
     rw [h2_23e] at hm
     refine tAk (hm.thaw (Heap.le_trans hle2_32 hle2_33)) [3, 4, 5] rfl fun hS => tO ?_
     obtain ⟨hz2_34, hle2_34, hz_r2_24, hm⟩ := hm.freeze 0 rfl
     replace hm := hm.pk (L' := [ow (α := List (Sh hz2_33 Code_)) [v2_27] pb1_1, blk b2_18 [(.slice none 0 0)] 40, blk b0_5 [(nV x0_1.params), (nV (w64 (x0_1.params + 1))), (sV b0_4 0 1 1)] 55, blk b0_1 [(sV b0_2 o0_1 r0_1.1.codes.length c0_2)] 40, ow [(.slice p0_3 r0_1.2.length c0_4)] r0_1.2]) [1, 2, 3, 4, 5] rfl rfl
     replace hz_r2_24 : GT.rep hz2_34 [(sV b2_20 0 1 1)] ([(⟨x0_1.params, w64 (x0_1.params + 1), ([(⟨[], ([(⟨14, x0_1.params, xs0_1, ((r0_1.1.codes.length : Int)) - 1⟩ : Ins_)] : List Ins_), 3, x0_1.params, []⟩ : Block_)] : List Block_)⟩ : Code_)] : List Code_) := fz_ow hz_r2_24
     obtain ⟨h2_24, h2_24e⟩ := appM_some.1 hpb1_2
     replace hm := hm.sh_up hle2_34 0 rfl
     refine tf rfl rfl (fun a hf => e_appendSh (α := Code_) (xs := pb1_1) (ys := ([(⟨x0_1.params, w64 (x0_1.params + 1), ([(⟨[], ([(⟨14, x0_1.params, xs0_1, ((r0_1.1.codes.length : Int)) - 1⟩ : Ins_)] : List Ins_), 3, x0_1.params, []⟩ : Block_)] : List Block_)⟩ : Code_)] : List Code_)) 0 et_38 hf hm rfl (ro_sh hm.lez hz_r2_24) rfl rfl rfl h2_24) ?_
     rintro v2_28 w hm
     rw [h2_24e] at hm
     refine tAn rfl ?_
     obtain ⟨p2_14, c2_14, rfl, hl2_14⟩ := ro_slice (sh_read (Heap.le_trans (Heap.le_refl _) hm.lez) (hm.ow_rep 0 rfl))
     exact tP rfl (fun w => yG rfl (y_build (vs := [(0, (.slice p2_14 pb1_2.length c2_14))]) (cs := #[(.slice p2_14 pb1_2.length c2_14)]) rfl rfl (by kernel_rfl))) (tE (gZ fun a hf => ⟨hz2_34, (sV b0_2 o0_1 r0_1.1.codes.length c0_2), b2_18, (.slice p2_14 pb1_2.length c2_14), (Heap.le_trans (Heap.le_trans hle2_32 hle2_33) hle2_34), (GT.mono (Heap.le_trans hle2_33 hle2_34) hz_r2_23), hf.sb rfl, hm.pk [3, 4, 1, 0] rfl rfl⟩))
    refine tO (tf rfl rfl (fun a hf => e_build (vs := #[(0, (.agg #[(nV x0_1.params), (nV (w64 (x0_1.params + 1))), (sV b0_4 0 1 1)]))]) (cs := [(nV x0_1.params), (nV (w64 (x0_1.params + 1))), (sV b0_4 0 1 1)]) et_38 hf hm rfl rfl (by kernel_rfl) rfl rfl) ?_)
    rintro _ w ⟨b2_21, rfl, hm⟩
    replace hm := hm.els_nil (α := Code_)
    replace hm := hm.own0 (c := [(nV x0_1.params)]) (x := (x0_1.params : Int)) (fun h => Flat.own_iff.2 rfl)
    replace hm := hm.own0 (c := [(nV (w64 (x0_1.params + 1)))]) (x := (w64 (x0_1.params + 1) : Int)) (fun h => Flat.own_iff.2 rfl)
    replace hm := hm.pair (x := (w64 (x0_1.params + 1) : Int)) (y := (([(⟨[], ([(⟨14, x0_1.params, xs0_1, ((r0_1.1.codes.length : Int)) - 1⟩ : Ins_)] : List Ins_), 3, x0_1.params, []⟩ : Block_)] : List Block_) : List Block_)) 0 6 (by decide) rfl rfl
    replace hm := hm.pair (x := (x0_1.params : Int)) (y := ((w64 (x0_1.params + 1), ([(⟨[], ([(⟨14, x0_1.params, xs0_1, ((r0_1.1.codes.length : Int)) - 1⟩ : Ins_)] : List Ins_), 3, x0_1.params, []⟩ : Block_)] : List Block_)) : Int × (List Block_))) 1 0 (by decide) rfl rfl
    replace hm := hm.imp (c' := ow [(nV x0_1.params), (nV (w64 (x0_1.params + 1))), (sV b0_4 0 1 1)] ((⟨x0_1.params, w64 (x0_1.params + 1), ([(⟨[], ([(⟨14, x0_1.params, xs0_1, ((r0_1.1.codes.length : Int)) - 1⟩ : Ins_)] : List Ins_), 3, x0_1.params, []⟩ : Block_)] : List Block_)⟩ : Code_) : Code_)) 1 rfl (fun F h0 => h0)
    replace hm := hm.pk (L' := [ow [(nV x0_1.params), (nV (w64 (x0_1.params + 1))), (sV b0_4 0 1 1)] ((⟨x0_1.params, w64 (x0_1.params + 1), ([(⟨[], ([(⟨14, x0_1.params, xs0_1, ((r0_1.1.codes.length : Int)) - 1⟩ : Ins_)] : List Ins_), 3, x0_1.params, []⟩ : Block_)] : List Block_)⟩ : Code_) : Code_), els [] ([] : List Code_), blk b2_21 [(nV x0_1.params), (nV (w64 (x0_1.params + 1))), (sV b0_4 0 1 1)] 55, blk b2_18 [(.slice none 0 0)] 40, blk b0_5 [(nV x0_1.params), (nV (w64 (x0_1.params + 1))), (sV b0_4 0 1 1)] 55, blk b0_1 [(sV b0_2 o0_1 r0_1.1.codes.length c0_2)] 40, ow [(sV b0_2 o0_1 r0_1.1.codes.length c0_2)] r0_1.1.codes, ow [(.slice p0_3 r0_1.2.length c0_4)] r0_1.2]) [1, 2, 3, 4, 5, 7, 8, 9] rfl rfl
    replace hm := (hm.els_cons 1 0 (by decide) rfl rfl).pk (L' := [els [(nV x0_1.params), (nV (w64 (x0_1.params + 1))), (sV b0_4 0 1 1)] ([(⟨x0_1.params, w64 (x0_1.params + 1), ([(⟨[], ([(⟨14, x0_1.params, xs0_1, ((r0_1.1.codes.length : Int)) - 1⟩ : Ins_)] : List Ins_), 3, x0_1.params, []⟩ : Block_)] : List Block_)⟩ : Code_)] : List Code_), blk b2_21 [(nV x0_1.params), (nV (w64 (x0_1.params + 1))), (sV b0_4 0 1 1)] 55, blk b2_18 [(.slice none 0 0)] 40, blk b0_5 [(nV x0_1.params), (nV (w64 (x0_1.params + 1))), (sV b0_4 0 1 1)] 55, blk b0_1 [(sV b0_2 o0_1 r0_1.1.codes.length c0_2)] 40, ow [(sV b0_2 o0_1 r0_1.1.codes.length c0_2)] r0_1.1.codes, ow [(.slice p0_3 r0_1.2.length c0_4)] r0_1.2]) [1, 2, 3, 4, 5, 6, 7] rfl rfl
    replace hm := (hm.lit_els 1 0 (by decide) rfl rfl rfl rfl).pk (L' := [ow [(sV b2_21 0 1 1)] ([(⟨x0_1.params, w64 (x0_1.params + 1), ([(⟨[], ([(⟨14, x0_1.params, xs0_1, ((r0_1.1.codes.length : Int)) - 1⟩ : Ins_)] : List Ins_), 3, x0_1.params, []⟩ : Block_)] : List Block_)⟩ : Code_)] : List Code_), blk b2_18 [(.slice none 0 0)] 40, blk b0_5 [(nV x0_1.params), (nV (w64 (x0_1.params + 1))), (sV b0_4 0 1 1)] 55, blk b0_1 [(sV b0_2 o0_1 r0_1.1.codes.length c0_2)] 40, ow [(sV b0_2 o0_1 r0_1.1.codes.length c0_2)] r0_1.1.codes, ow [(.slice p0_3 r0_1.2.length c0_4)] r0_1.2]) [1, 2, 3, 4, 5, 6] rfl rfl
    refine tAk hm [2, 3, 5] rfl fun hS => tO (tf rfl rfl (fun a hf => e_build0 (α := Code_) et_38 hm rfl) ?_)
    rintro v2_29 w hm
    refine tAk hm [3, 4, 6] rfl fun hS => tO ?_
    obtain ⟨hz2_35, hle2_35, hz_r2_25, hm⟩ := hm.freeze 5 rfl
    replace hm := hm.pk (L' := [ow [v2_29] ([] : List Code_), ow [(sV b2_21 0 1 1)] ([(⟨x0_1.params, w64 (x0_1.params + 1), ([(⟨[], ([(⟨14, x0_1.params, xs0_1, ((r0_1.1.codes.length : Int)) - 1⟩ : Ins_)] : List Ins_), 3, x0_1.params, []⟩ : Block_)] : List Block_)⟩ : Code_)] : List Code_), blk b2_18 [(.slice none 0 0)] 40, blk b0_5 [(nV x0_1.params), (nV (w64 (x0_1.params + 1))), (sV b0_4 0 1 1)] 55, blk b0_1 [(sV b0_2 o0_1 r0_1.1.codes.length c0_2)] 40, ow [(.slice p0_3 r0_1.2.length c0_4)] r0_1.2]) [0, 1, 2, 3, 4, 6] rfl rfl
    replace hz_r2_25 : GT.rep hz2_35 [(sV b0_2 o0_1 r0_1.1.codes.length c0_2)] r0_1.1.codes := fz_ow hz_r2_25
    obtain ⟨hz2_36, hle2_36, hm⟩ := hm.shallow (α := Code_) 0 rfl
    obtain ⟨h2_25, h2_25e⟩ := appM_some.1 hpb1_1
    refine tf rfl rfl (fun a hf => e_appendSh (α := Code_) (xs := ([] : List Code_)) (ys := r0_1.1.codes) 0 et_38 hf hm rfl (ro_sh hm.lez (GT.mono hle2_36 hz_r2_25)) rfl rfl rfl h2_25) ?_
    rintro v2_30 w hm
    rw [h2_25e] at hm
    refine tAk (hm.thaw (Heap.le_trans hle2_35 hle2_36)) [3, 4, 5] rfl fun hS => tO ?_
    obtain ⟨hz2_37, hle2_37, hz_r2_26, hm⟩ := hm.freeze 1 rfl
    replace hm := hm.pk (L' := [ow (α := List (Sh hz2_36 Code_)) [v2_30] pb1_1, blk b2_18 [(.slice none 0 0)] 40, blk b0_5 [(nV x0_1.params), (nV (w64 (x0_1.params + 1))), (sV b0_4 0 1 1)] 55, blk b0_1 [(sV b0_2 o0_1 r0_1.1.codes.length c0_2)] 40, ow [(.slice p0_3 r0_1.2.length c0_4)] r0_1.2]) [0, 2, 3, 4, 5] rfl rfl
    replace hz_r2_26 : GT.rep hz2_37 [(sV b2_21 0 1 1)] ([(⟨x0_1.params, w64 (x0_1.params + 1), ([(⟨[], ([(⟨14, x0_1.params, xs0_1, ((r0_1.1.codes.length : Int)) - 1⟩ : Ins_)] : List Ins_), 3, x0_1.params, []⟩ : Block_)] : List Block_)⟩ : Code_)] : List Code_) := fz_ow hz_r2_26
    obtain ⟨h2_26, h2_26e⟩ := appM_some.1 hpb1_2
    replace hm := hm.sh_up hle2_37 0 rfl
    refine tf rfl rfl (fun a hf => e_appendSh (α := Code_) (xs := pb1_1) (ys := ([(⟨x0_1.params, w64 (x0_1.params + 1), ([(⟨[], ([(⟨14, x0_1.params, xs0_1, ((r0_1.1.codes.length : Int)) - 1⟩ : Ins_)] : List Ins_), 3, x0_1.params, []⟩ : Block_)] : List Block_)⟩ : Code_)] : List Code_)) 0 et_38 hf hm rfl (ro_sh hm.lez hz_r2_26) rfl rfl rfl h2_26) ?_
    rintro v2_31 w hm
    rw [h2_26e] at hm
    refine tAn rfl ?_
    obtain ⟨p2_15, c2_15, rfl, hl2_15⟩ := ro_slice (sh_read (Heap.le_trans (Heap.le_refl _) hm.lez) (hm.ow_rep 0 rfl))
    exact tP rfl (fun w => yG rfl (y_build (vs := [(0, (.slice p2_15 pb1_2.length c2_15))]) (cs := #[(.slice p2_15 pb1_2.length c2_15)]) rfl rfl (by kernel_rfl))) (tE (gZ fun a hf => ⟨hz2_37, (sV b0_2 o0_1 r0_1.1.codes.length c0_2), b2_18, (.slice p2_15 pb1_2.length c2_15), (Heap.le_trans (Heap.le_trans hle2_35 hle2_36) hle2_37), (GT.mono (Heap.le_trans hle2_36 hle2_37) hz_r2_25), hf.sb rfl, hm.pk [3, 4, 1, 0] rfl rfl⟩))
   repeat clear hm
   rintro s1_1 a w ⟨hz1_1, v1_5, b1_2, v1_6, hle1_1, h1_6, hf, hm⟩
   refine gv hf (tO (tf0 rfl rfl (fun a hf => e_storeN 2 hf hm rfl sizeOf40 rfl rfl rfl (one_cons (rep_one (sh_read (Heap.le_trans (Heap.le_refl _) hm.lez) (hm.ow_rep 3 rfl))) one_nil) rfl rfl) ?_))
   rintro _ w hm
   exact tAn rfl (tE (gZ fun a hf => ⟨hz1_1, v1_5, b1_2, v1_6, hle1_1, h1_6, hf.sb rfl, hm.pk [0, 1, 2, 3] rfl rfl⟩))
  repeat clear hm
  rintro s0_2 a w ⟨hz0_2, v0_9, b0_6, v0_10, hle0_2, h0_5, hf, hm⟩
  refine gv hf (gS (gR (gY (yn (hm.blk_at 0 rfl) isAgg40 sizeOf40 rfl) (gM rfl (gM rfl (gCg rfl call19 (impl_RunUnit_ok _ r0_1.1 v0_9 (hm.now h0_5) r0_1.2 (.slice p0_3 r0_1.2.length c0_4) (hm.ow_rep 1 rfl) r0_2) ?_))))))
  rintro r0_5 hx0_6 v0_11 w ⟨v0_12, v0_13, rfl, hB⟩
  replace hm := hm.give hB; clear hB
  refine gM rfl (gX rfl (gX rfl (gAl hm zeroValue44 rfl fun b0_7 w hm => gSN hm 0 sizeOf44 (one_cons (rep_one (hm.ow_rep 1 rfl)) (one_cons rfl (one_cons rfl (one_cons (rep_one (hm.ow_rep 2 rfl)) one_nil)))) rfl fun w hm => gA rfl (gE (gS (gR (gY (yn (hm.blk_at 5 rfl) isAgg40 sizeOf40 rfl) (gM rfl (gM rfl (gB rfl (gCg rfl call19 (impl_RunUnit_ok _ (⟨s0_2⟩ : Unit_) v0_10 (sh_read (Heap.le_trans (Heap.le_refl _) hm.lez) (hm.ow_rep 6 rfl)) r0_1.2 (.slice p0_3 r0_1.2.length c0_4) (hm.ow_rep 4 rfl) (w64 (r0_2 + 2))) ?_)))))))))))
  rintro r0_6 hx0_7 v0_14 w ⟨v0_15, v0_16, rfl, hB⟩
  replace hm := hm.give hB; clear hB
  refine gM rfl (gX rfl (gX rfl (gAl hm zeroValue44 rfl fun b0_8 w hm => gSN hm 0 sizeOf44 (one_cons (rep_one (hm.ow_rep 1 rfl)) (one_cons rfl (one_cons rfl (one_cons (rep_one (hm.ow_rep 2 rfl)) one_nil)))) rfl fun w hm => gA rfl (gE (gS (gR (gM rfl (gB rfl (gA rfl (gE (gS (gS (gR (gF fo_44_1 rfl (gL hm 3 isAgg3 rfl (gB rfl (gE (gJ hm (fun s0_3 => [(4, (.slice p0_3 r0_1.2.length c0_4)), (11, (pV b0_6)), (12, (pV b0_7)), (13, (.bool (r0_5.2))), (14, (pV b0_8)), (15, (.bool (r0_6.2))), (16, (nV s0_3))]) (fun s0_3 => [ow [(.slice p0_3 r0_1.2.length c0_4)] r0_1.2, blk b0_6 [v0_10] 40, ow (α := List (Sh hz0_2 Code_)) [v0_10] s0_2, blk b0_7 [v0_12, (nV r0_5.1.end_), (nV r0_5.1.value), v0_13] 44, ow [v0_12] r0_5.1.said, ow [v0_13] r0_5.1.cells, blk b0_8 [v0_15, (nV r0_6.1.end_), (nV r0_6.1.value), v0_16] 44, ow [v0_15] r0_6.1.said, ow [v0_16] r0_6.1.cells]) (fun s0_3 => ?_) ?_))))))))))))))))))
  ·
   refine gsd 117 rfl (fun h1_7 => ?_) fun h1_7 => ?_
   ·
    exact gct rfl (gR (gM rfl (gB rfl (gA rfl (gE (gz hm [7, 8, 9, 3, 4, 5, 0, 1, 2] rfl))))))
   exact gcf rfl (gSk (gz hm [7, 8, 9, 3, 4, 5, 0, 1, 2] rfl))
  repeat clear hm
  intro s0_3 w hm
  refine gS (gJ hm (fun s0_4 => [(2, (.bool (s0_4)))]) (fun s0_4 => []) (fun s0_4 => ?_) ?_)
  ·
   refine gR (gM rfl (gM rfl (gs 121 rfl (fun h1_8 => ?_) fun h1_8 => ?_)))
   ·
    refine gM rfl (gKt rfl (gM rfl (gs 124 rfl (fun h1_9 => ?_) fun h1_9 => ?_)))
    ·
     refine gY (yn (hm.blk_at 6 rfl) isAgg44 sizeOf44 rfl) (gY (yn (hm.blk_at 3 rfl) isAgg44 sizeOf44 rfl) (gC hm rfl call22 (impl_SameOutcome_ok _ r0_6.1 v0_15 (hm.ow_rep 7 rfl) v0_16 (hm.ow_rep 8 rfl) r0_5.1 v0_12 (hm.ow_rep 4 rfl) v0_13 (hm.ow_rep 5 rfl)) fun r1_3 hx1_4 w hm => gKt rfl (gM rfl (gs 129 rfl (fun h1_10 => ?_) fun h1_10 => ?_))))
     ·
      exact gY (yn (hm.blk_at 1 rfl) isAgg40 sizeOf40 rfl) (gM rfl (gC hm rfl call25 (impl_StepsOf_ok _ (⟨s0_2⟩ : Unit_) v0_10 (sh_read (Heap.le_trans (Heap.le_refl _) hm.lez) (hm.ow_rep 2 rfl)) r0_1.2 (.slice p0_3 r0_1.2.length c0_4) (hm.ow_rep 0 rfl)) fun r1_4 hx1_5 w hm => gM rfl (gB rfl (gKt rfl (gA rfl (gE (gz hm [] rfl)))))))
     exact gO rfl (gO rfl (gO rfl (gO rfl (gO rfl (gKf rfl (gA rfl (gE (gz hm [] rfl))))))))
    exact gO rfl (gO rfl (gO rfl (gKf rfl (gM rfl (gO rfl (gO rfl (gO rfl (gO rfl (gO rfl (gKf rfl (gA rfl (gE (gz hm [] rfl)))))))))))))
   exact gO rfl (gKf rfl (gM rfl (gO rfl (gO rfl (gO rfl (gKf rfl (gM rfl (gO rfl (gO rfl (gO rfl (gO rfl (gO rfl (gKf rfl (gA rfl (gE (gz hm [] rfl))))))))))))))))
  repeat clear hm
  intro s0_4 w hm
  refine gRt ?_
  replace hm := hm.thaw hle0_2
  exact gr1 results5 rfl ⟨rfl, hm.below⟩

end Go.Proofs.Ytjbcoilagfdidaa
