/- A part of the proof of FnExactHomesOfSaid. -/
import Derived.Test.YtpllkdbmgcmklaaGreatHoWalksA
namespace Go.Proofs.YtpllkdbmgcmklaaGreat
open Go Go.Wk Go.RowKit
set_option maxRecDepth 4000
set_option maxHeartbeats 4000000

open Tryz
theorem impl_UnitValid_ok (w0 : World) (u : Unit_) (v1 : Value) (h1 : GT.rep (hp w0) [v1] u.codes) :
    ConM Tryz.prog 116 [(.agg #[v1])] w0 (impl_UnitValid u) fun r v w' => v = (.bool (r)) ∧ Below w0.heap.size w0 w' := by
  unfold impl_UnitValid
  refine gcon func116 rfl fun r => ?_
  have hm := Mem.start w0
  refine gS (gR (gBx hm rfl fun b0_1 w hm => gA rfl (gE (gS (gS (gR (gF fo_30_0 rfl (gL hm 0 isAgg28 rfl ?_))))))))
  obtain ⟨p0_1, c0_1, rfl, hl0_1⟩ := ro_slice h1
  refine gY (yV st_28 rfl) (gC hm rfl call63 (impl_within_ok _ (u.codes.length : Int) 1 4) fun r0_1 hx0_1 w hm => gN rfl (gE (gsn 10 rfl (fun h0_1 => ?_) fun h0_1 => ?_)))
  ·
   exact gct rfl (gS (gR (gA rfl (gE (gRt (gr1 results116 rfl ⟨rfl, hm.below⟩))))))
  refine gcf rfl (gSk (gS (gR (gA rfl (gE (gS (gS (gR (gF fo_30_0 rfl (gL hm 0 isAgg28 rfl (gY (yV st_28 rfl) (gM rfl (gE (gBk (gNf hm (fun i1_1 xs1_1 => [(1, (pV b0_1)), (3, (nV xs1_1)), (12, (.slice p0_1 u.codes.length c0_1)), (13, (nV ((u.codes.length : Int)))), (14, (nV i1_1))]) (fun i1_1 xs1_1 => [blk b0_1 [(.slice p0_1 u.codes.length c0_1)] 30]) [0] rfl ?_ ?_)))))))))))))))
  ·
   repeat clear hm
   intro r0_2 hq0_1 i1_1 xs1_1 w hm hi0_1 hi0_2 q0_1 ho0_2
   refine gS (gR (gB rfl (gE (gS (go _ 15 rfl (decide_eq_true (by omega)) (gct rfl (gSk (gS (gBk (gS (gR (gM rfl (gg fun x1_1 h1_1 hx1_2 => ?_)))))))))))))
   obtain ⟨b1_1, o1_1, c1_1, he⟩ := idx_form' h1 hx1_2
   simp only [Value.slice.injEq, Option.some.injEq] at he; obtain ⟨rfl, _, rfl⟩ := he
   obtain ⟨v1_1, hc1_1, h1_2⟩ := rk_Code_ h1 hx1_2
   refine gI st_28 h1_1 (idx_lt hx1_2) rfl (gY (yn (hc1_1.mono hm.lez) isAgg57 sizeOf57 rfl) (gAl hm zeroValue57 rfl fun b1_2 w hm => gA rfl (gSN hm 0 sizeOf57 (one_cons rfl (one_cons rfl (one_cons (rep_one h1_2) one_nil))) rfl fun w hm => gE (gS (gS (gR (gY (yn (hm.blk_at 1 rfl) isAgg30 sizeOf30 rfl) (gM rfl (gC hm rfl call162 (impl_codeOk_ok _ u (sV b1_1 o1_1 u.codes.length c0_1) (hm.now h1) i1_1) fun r1_1 hx1_3 w hm => gN rfl (gE (gsn 22 rfl (fun h1_3 => ?_) fun h1_3 => ?_)))))))))))
   ·
    exact gct rfl (gS (gR (gA rfl (gE (gRt (gLr ho0_2 hq0_1 (gr1 results116 rfl ⟨rfl, hm.below⟩)))))))
   exact gcf rfl (gSk (gR (gM rfl (gY (yn (hm.blk_at 0 rfl) isAgg57 sizeOf57 rfl) (gC hm rfl call128 (impl_codeCount_ok _ x1_1 v1_1 (hm.now h1_2)) fun r1_2 hx1_4 w hm => gB rfl (gA rfl (gE (gR (gP (by omega) (by omega) rfl (gM rfl (gE (gze hm [1] rfl))))))))))))
  repeat clear hm
  intro i0_1 xs0_1 w hm hi0_3 hi0_4
  exact gS (gR (gB rfl (gE (gS (go _ 15 rfl (decide_eq_false (by omega)) (gcf rfl (gXt (gHh (gS (gR (gM rfl (gB rfl (gA rfl (gE (gRt (gr1 results116 rfl ⟨rfl, hm.below⟩))))))))))))))))

theorem impl_codeAt_ok (w0 : World) (u : Unit_) (v1 : Value) (h1 : GT.rep (hp w0) [v1] u.codes) (k_ : Int) :
    ConM Tryz.prog 94 [(.agg #[v1]), (nV k_)] w0 (impl_codeAt u k_) fun r v w' => v = (.bool (r)) ∧ Below w0.heap.size w0 w' := by
  unfold impl_codeAt
  refine gcon func94 rfl fun r => ?_
  have hm := Mem.start w0
  refine gS (gR (gBx hm rfl fun b0_1 w hm => gA rfl (gE (gS (gJ hm (fun s0_1 => [(4, (.bool (s0_1)))]) (fun s0_1 => []) (fun s0_1 => ?_) ?_)))))
  ·
   refine gR (gY (yn (hm.blk_at 0 rfl) isAgg30 sizeOf30 rfl) (gC hm rfl call116 (impl_UnitValid_ok _ u v1 (hm.now h1)) fun r1_1 hx1_1 w hm => gM rfl (gs 7 rfl (fun h1_1 => ?_) fun h1_1 => ?_)))
   ·
    refine gM rfl (gF fo_30_0 rfl (gL hm 0 isAgg28 rfl ?_))
    obtain ⟨p1_1, c1_1, rfl, hl1_1⟩ := ro_slice h1
    exact gY (yV st_28 rfl) (gY (yS (by omega) (by omega) rfl) (gC hm rfl call63 (impl_within_ok _ k_ 0 (((u.codes.length : Int)) - 1)) fun r1_2 hx1_2 w hm => gKt rfl (gA rfl (gE (gz hm [] rfl)))))
   exact gO rfl (gO rfl (gO rfl (gO rfl (gO rfl (gO rfl (gKf rfl (gA rfl (gE (gz hm [] rfl)))))))))
  repeat clear hm
  intro s0_1 w hm
  exact gRt (gr1 results94 rfl ⟨rfl, hm.below⟩)

theorem impl_phiCount_ok (w0 : World) (c_ : Code_) (v1 : Value) (h1 : GT.rep (hp w0) [v1] c_.blocks) :
    ConM Tryz.prog 140 [(.agg #[(nV c_.params), (nV c_.regs), v1])] w0 (impl_phiCount c_) fun r v w' => v = (nV r) ∧ Below w0.heap.size w0 w' := by
  unfold impl_phiCount
  refine gcon func140 rfl fun r => ?_
  have hm := Mem.start w0
  refine gS (gR (gBx hm rfl fun b0_1 w hm => gA rfl (gE (gS (gR (gA rfl (gE (gS (gS (gR (gF fo_57_2 rfl (gL hm 0 isAgg55 rfl ?_))))))))))))
  obtain ⟨p0_1, c0_1, rfl, hl0_1⟩ := ro_slice h1
  refine gY (yV st_55 rfl) (gM rfl (gE (gBk (gNf hm (fun i1_1 xs1_1 => [(3, (nV xs1_1)), (7, (.slice p0_1 c_.blocks.length c0_1)), (8, (nV ((c_.blocks.length : Int)))), (9, (nV i1_1))]) (fun i1_1 xs1_1 => []) [] rfl ?_ ?_))))
  ·
   repeat clear hm
   intro _ _ i1_1 xs1_1 w hm hi0_1 hi0_2 q0_1 _
   refine gS (gR (gB rfl (gE (gS (go _ 10 rfl (decide_eq_true (by omega)) (gct rfl (gSk (gS (gBk (gS (gR (gg fun x1_1 h1_1 hx1_2 => ?_))))))))))))
   obtain ⟨b1_1, o1_1, c1_1, he⟩ := idx_form' h1 hx1_2
   simp only [Value.slice.injEq, Option.some.injEq] at he; obtain ⟨rfl, _, rfl⟩ := he
   obtain ⟨v1_1, v1_2, v1_3, hc1_1, h1_2, h1_3, h1_4⟩ := rk_Block_ h1 hx1_2
   refine gI st_55 h1_1 (idx_lt hx1_2) rfl (gY (yn (hc1_1.mono hm.lez) isAgg104 sizeOf104 rfl) (gAl hm zeroValue104 rfl fun b1_2 w hm => gSN hm 0 sizeOf104 (one_cons (rep_one h1_2) (one_cons (rep_one h1_3) (one_cons rfl (one_cons rfl (one_cons (rep_one h1_4) one_nil))))) rfl fun w hm => gE (gR (gM rfl (gF fo_104_0 rfl (gL hm 0 isAgg101 rfl ?_))))))
   obtain ⟨p1_1, c1_2, rfl, hl1_1⟩ := ro_slice h1_2
   exact gY (yV st_101 rfl) (gB rfl (gA rfl (gE (gR (gP (by omega) (by omega) rfl (gM rfl (gE (gze hm [] rfl))))))))
  repeat clear hm
  intro i0_1 xs0_1 w hm hi0_3 hi0_4
  exact gS (gR (gB rfl (gE (gS (go _ 10 rfl (decide_eq_false (by omega)) (gcf rfl (gXt (gHh (gS (gR (gM rfl (gA rfl (gE (gRt (gr1 results140 rfl ⟨rfl, hm.below⟩)))))))))))))))

theorem impl_PhiCount_ok (w0 : World) (u : Unit_) (v1 : Value) (h1 : GT.rep (hp w0) [v1] u.codes) :
    ConM Tryz.prog 95 [(.agg #[v1])] w0 (impl_PhiCount u) fun r v w' => v = (nV r) ∧ Below w0.heap.size w0 w' := by
  unfold impl_PhiCount
  refine gcon func95 rfl fun r => ?_
  have hm := Mem.start w0
  refine gS (gR (gBx hm rfl fun b0_1 w hm => gA rfl (gE (gS (gS (gR (gY (yn (hm.blk_at 0 rfl) isAgg30 sizeOf30 rfl) (gC hm rfl call116 (impl_UnitValid_ok _ u v1 (hm.now h1)) fun r0_1 hx0_1 w hm => gN rfl (gE (gsn 8 rfl (fun h0_1 => ?_) fun h0_1 => ?_))))))))))
  ·
   exact gct rfl (gS (gR (gA rfl (gE (gRt (gr1 results95 rfl ⟨rfl, hm.below⟩))))))
  refine gcf rfl (gSk (gS (gR (gA rfl (gE (gS (gS (gR (gF fo_30_0 rfl (gL hm 0 isAgg28 rfl ?_))))))))))
  obtain ⟨p0_1, c0_1, rfl, hl0_1⟩ := ro_slice h1
  refine gY (yV st_28 rfl) (gM rfl (gE (gBk (gNf hm (fun i1_1 xs1_1 => [(3, (nV xs1_1)), (10, (.slice p0_1 u.codes.length c0_1)), (11, (nV ((u.codes.length : Int)))), (12, (nV i1_1))]) (fun i1_1 xs1_1 => []) [] rfl ?_ ?_))))
  ·
   repeat clear hm
   intro _ _ i1_1 xs1_1 w hm hi0_1 hi0_2 q0_1 _
   refine gS (gR (gB rfl (gE (gS (go _ 13 rfl (decide_eq_true (by omega)) (gct rfl (gSk (gS (gBk (gS (gR (gg fun x1_1 h1_1 hx1_2 => ?_))))))))))))
   obtain ⟨b1_1, o1_1, c1_1, he⟩ := idx_form' h1 hx1_2
   simp only [Value.slice.injEq, Option.some.injEq] at he; obtain ⟨rfl, _, rfl⟩ := he
   obtain ⟨v1_1, hc1_1, h1_2⟩ := rk_Code_ h1 hx1_2
   exact gI st_28 h1_1 (idx_lt hx1_2) rfl (gY (yn (hc1_1.mono hm.lez) isAgg57 sizeOf57 rfl) (gAl hm zeroValue57 rfl fun b1_2 w hm => gSN hm 0 sizeOf57 (one_cons rfl (one_cons rfl (one_cons (rep_one h1_2) one_nil))) rfl fun w hm => gE (gR (gM rfl (gY (yn (hm.blk_at 0 rfl) isAgg57 sizeOf57 rfl) (gC hm rfl call140 (impl_phiCount_ok _ x1_1 v1_1 (hm.now h1_2)) fun r1_1 hx1_3 w hm => gB rfl (gA rfl (gE (gR (gP (by omega) (by omega) rfl (gM rfl (gE (gze hm [] rfl)))))))))))))
  repeat clear hm
  intro i0_1 xs0_1 w hm hi0_3 hi0_4
  exact gS (gR (gB rfl (gE (gS (go _ 13 rfl (decide_eq_false (by omega)) (gcf rfl (gXt (gHh (gS (gR (gM rfl (gA rfl (gE (gRt (gr1 results95 rfl ⟨rfl, hm.below⟩)))))))))))))))

theorem impl_plainAt_ok (w0 : World) (u : Unit_) (v1 : Value) (h1 : GT.rep (hp w0) [v1] u.codes) (k_ : Int) :
    ConM Tryz.prog 52 [(.agg #[v1]), (nV k_)] w0 (impl_plainAt u k_) fun r v w' => v = (.bool (r)) ∧ Below w0.heap.size w0 w' := by
  unfold impl_plainAt
  refine gcon func52 rfl fun r => ?_
  have hm := Mem.start w0
  refine gS (gR (gBx hm rfl fun b0_1 w hm => gA rfl (gE (gS (gJ hm (fun s0_1 => [(4, (.bool (s0_1)))]) (fun s0_1 => []) (fun s0_1 => ?_) ?_)))))
  ·
   refine gR (gY (yn (hm.blk_at 0 rfl) isAgg30 sizeOf30 rfl) (gM rfl (gC hm rfl call94 (impl_codeAt_ok _ u v1 (hm.now h1) k_) fun r1_1 hx1_1 w hm => gM rfl (gs 8 rfl (fun h1_1 => ?_) fun h1_1 => ?_))))
   ·
    exact gY (yn (hm.blk_at 0 rfl) isAgg30 sizeOf30 rfl) (gC hm rfl call95 (impl_PhiCount_ok _ u v1 (hm.now h1)) fun r1_2 hx1_2 w hm => gB rfl (gKt rfl (gA rfl (gE (gz hm [] rfl)))))
   exact gO rfl (gO rfl (gO rfl (gKf rfl (gA rfl (gE (gz hm [] rfl))))))
  repeat clear hm
  intro s0_1 w hm
  exact gRt (gr1 results52 rfl ⟨rfl, hm.below⟩)

theorem impl_clashing_1_ok (w0 : World) (hz : Heap) (a_ : Int) (b_ : Int) (c0_ : List (MapO Bool)) (bpc0 : Nat) (v1p : Value) (hm0 : Mem w0 hz w0 [blk bpc0 [v1p] 60, ow [v1p] c0_]) :
    ConM Tryz.prog 96 [(nV a_), (nV b_), (pV bpc0)] w0 (impl_clashing_1 a_ b_ c0_) fun r v w' => ∃ (x1 : Value), v = (.tuple #[]) ∧ Mem w0 hz w' [blk bpc0 [x1] 60, ow [x1] r] := by
  unfold impl_clashing_1
  refine gcon func96 rfl fun r => ?_
  have hm := hm0
  refine gS (gR (gM rfl (gM rfl (gB rfl (gE (gJ hm (fun s0_1 => []) (fun s0_1 => [blk bpc0 [v1p] 60, ow [v1p] s0_1]) (fun s0_1 => ?_) ?_))))))
  ·
   refine gsd 7 rfl (fun h1_1 => ?_) fun h1_1 => ?_
   ·
    refine gct rfl (gJ hm (fun s1_1 => []) (fun s1_1 => [blk bpc0 [v1p] 60, ow [v1p] s1_1]) (fun s1_1 => ?_) ?_)
    ·
     refine gW (.p 1 (.p 4 (.p 6 (.p 9 (.q 0 (.p 2 (.q 5 (.p 7 (.e 3 (.e 8 (.e 10 (.p 11 (.e 12 (.e 13 (.p 14 (.e 15 .fin .nil)) .nil) .nil)) .nil) .nil) (.e 8 (.e 3 (.e 10 (.p 11 (.e 12 (.e 13 (.p 14 (.e 15 .fin .nil)) .nil) .nil)) .nil) .nil) .nil)))))))))) [0, 3, 5, 8] [1, 2, 4, 6, 7, 9, 11, 14] hm [0, 1] [blk bpc0 [v1p] 60, ow [v1p] c0_] rfl mxo (by kernel_rfl) (fun _ _ _ h => h.2) fun w hm hS => tP rfl (fun w => yM rfl) (tP rfl (fun w => yM rfl) (tP rfl (fun w => yM rfl) (tP rfl (fun w => yM rfl) (tQ rfl hS (fun w hm => yL hm 0 isAgg60 rfl) (gg fun x2_1 h2_1 hx2_2 => ?_)))))
     obtain ⟨b2_1, o2_1, c2_1, he⟩ := idx_form' (hm.ow_rep 1 rfl) hx2_2
     subst he
     obtain ⟨_, _, hc2_1, hr2_1⟩ := ro_get' (hm.ow_rep 1 rfl) hx2_2
     have h2_2 := hr2_1
     obtain ⟨v2_1, rfl, -⟩ := id h2_2
     replace h2_2 : GT.rep (hp _) [v2_1] x2_1 := h2_2
     replace hc2_1 : CellsAt (hp _) b2_1 (o2_1 + (a_).toNat * 1) [v2_1] := hc2_1
     refine tP rfl (fun w => yI st_60 h2_1 (idx_lt hx2_2) rfl) (tQ rfl hS (fun w hm => yL hm 0 isAgg60 rfl) (gg fun x2_2 h2_3 hx2_4 => ?_))
     obtain ⟨_, _, hc2_2, hr2_2⟩ := ro_get' (hm.ow_rep 1 rfl) hx2_4
     have h2_4 := hr2_2
     obtain ⟨v2_2, rfl, -⟩ := id h2_4
     replace h2_4 : GT.rep (hp _) [v2_2] x2_2 := h2_4
     replace hc2_2 : CellsAt (hp _) b2_1 (o2_1 + (b_).toNat * 1) [v2_2] := hc2_2
     refine tP rfl (fun w => yI st_60 h2_3 (idx_lt hx2_4) rfl) (gb fun pb2_1 hpb2_1 => gb fun pb2_2 hpb2_2 => gb fun pb2_3 hpb2_3 => tMo ?_ ?_)
     ·
      refine tY rfl (yl isAgg63 (hc2_1.cell (j := 0) rfl) rfl) (tAs hS (tO (tY rfl (yl isAgg63 (hc2_2.cell (j := 0) rfl) rfl) (tAs hS (tO ?_)))))
      have hx2_5 : (c0_ : List (MapO Bool))[(a_).toNat]? = some (MapO.of pb2_1) := by rw [hx2_2]; exact congrArg some hpb2_1
      refine tf rfl rfl (fun a hf => e_entL (key := b_) (zv := false) (m := pb2_1) 1 underlying3 underlying63 zeroValue4 hf hm rfl hx2_5 hc2_1 rfl rfl rfl) ?_
      rintro _ w ⟨u2_1, n2_1, rfl, he2_1, hk2_1, hm⟩
      replace hc2_1 := hk2_1 _ _ hc2_1
      replace hc2_2 := hk2_1 _ _ hc2_2
      refine tAn rfl (tP rfl (fun w => yX rfl) (tO (tf0 rfl rfl (fun a hf => e_estL (key := b_) (u := true) (m := pb2_1) 1 hf hm rfl hx2_5 hc2_1 he2_1 rfl rfl rfl rfl) ?_)))
      rintro _ w ⟨hk2_2, hm⟩
      replace hc2_1 := hk2_2 _ _ hc2_1
      replace hc2_2 := hk2_2 _ _ hc2_2
      refine tAn rfl (tO ?_)
      obtain ⟨h2_5, hx2_6⟩ := getI_some.1 hpb2_2
      have hx2_7 : ((c0_.set (a_).toNat (MapO.of (MapS.ins pb2_1 b_ true))) : List (MapO Bool))[(b_).toNat]? = some (MapO.of pb2_3) := by rw [hx2_6]; exact congrArg some hpb2_3
      refine tf rfl rfl (fun a hf => e_entL (key := a_) (zv := false) (m := pb2_3) 1 underlying3 underlying63 zeroValue4 hf hm rfl hx2_7 hc2_2 rfl rfl rfl) ?_
      rintro _ w ⟨u2_2, n2_2, rfl, he2_2, hk2_3, hm⟩
      replace hc2_1 := hk2_3 _ _ hc2_1
      replace hc2_2 := hk2_3 _ _ hc2_2
      refine tAn rfl (tP rfl (fun w => yX rfl) (tO (tf0 rfl rfl (fun a hf => e_estL (key := a_) (u := true) (m := pb2_3) 1 hf hm rfl hx2_7 hc2_2 he2_2 rfl rfl rfl rfl) ?_)))
      rintro _ w ⟨hk2_4, hm⟩
      replace hc2_1 := hk2_4 _ _ hc2_1
      replace hc2_2 := hk2_4 _ _ hc2_2
      exact tAn rfl (tE (gz hm [0, 1] rfl))
     refine tO (tY rfl (yl isAgg63 (hc2_2.cell (j := 0) rfl) rfl) (tAs hS (tO (tY rfl (yl isAgg63 (hc2_1.cell (j := 0) rfl) rfl) (tAs hS (tO ?_))))))
     have hx2_8 : (c0_ : List (MapO Bool))[(a_).toNat]? = some (MapO.of pb2_1) := by rw [hx2_2]; exact congrArg some hpb2_1
     refine tf rfl rfl (fun a hf => e_entL (key := b_) (zv := false) (m := pb2_1) 1 underlying3 underlying63 zeroValue4 hf hm rfl hx2_8 hc2_1 rfl rfl rfl) ?_
     rintro _ w ⟨u2_3, n2_3, rfl, he2_3, hk2_5, hm⟩
     replace hc2_1 := hk2_5 _ _ hc2_1
     replace hc2_2 := hk2_5 _ _ hc2_2
     refine tAn rfl (tP rfl (fun w => yX rfl) (tO (tf0 rfl rfl (fun a hf => e_estL (key := b_) (u := true) (m := pb2_1) 1 hf hm rfl hx2_8 hc2_1 he2_3 rfl rfl rfl rfl) ?_)))
     rintro _ w ⟨hk2_6, hm⟩
     replace hc2_1 := hk2_6 _ _ hc2_1
     replace hc2_2 := hk2_6 _ _ hc2_2
     refine tAn rfl (tO ?_)
     obtain ⟨h2_6, hx2_9⟩ := getI_some.1 hpb2_2
     have hx2_10 : ((c0_.set (a_).toNat (MapO.of (MapS.ins pb2_1 b_ true))) : List (MapO Bool))[(b_).toNat]? = some (MapO.of pb2_3) := by rw [hx2_9]; exact congrArg some hpb2_3
     refine tf rfl rfl (fun a hf => e_entL (key := a_) (zv := false) (m := pb2_3) 1 underlying3 underlying63 zeroValue4 hf hm rfl hx2_10 hc2_2 rfl rfl rfl) ?_
     rintro _ w ⟨u2_4, n2_4, rfl, he2_4, hk2_7, hm⟩
     replace hc2_1 := hk2_7 _ _ hc2_1
     replace hc2_2 := hk2_7 _ _ hc2_2
     refine tAn rfl (tP rfl (fun w => yX rfl) (tO (tf0 rfl rfl (fun a hf => e_estL (key := a_) (u := true) (m := pb2_3) 1 hf hm rfl hx2_10 hc2_2 he2_4 rfl rfl rfl rfl) ?_)))
     rintro _ w ⟨hk2_8, hm⟩
     replace hc2_1 := hk2_8 _ _ hc2_1
     replace hc2_2 := hk2_8 _ _ hc2_2
     exact tAn rfl (tE (gz hm [0, 1] rfl))
    repeat clear hm
    intro s1_1 w hm
    exact gz hm [0, 1] rfl
   exact gcf rfl (gSk (gz hm [0, 1] rfl))
  repeat clear hm
  intro s0_1 w hm
  exact gre results96 ⟨v1p, rfl, hm.pk [0, 1] rfl rfl⟩

theorem slices_Clone_S_int_int_ok (w0 : World) (s_ : List Int) (v1 : Value) (h1 : GT.rep (hp w0) [v1] s_) :
    ConM Tryz.prog 107 [v1] w0 (slices_Clone_S_int_int s_) fun r v w' => ∃ (x1 : Value), v = x1 ∧ Mem w0 (hp w0) w' [ow [x1] r] := by
  unfold slices_Clone_S_int_int
  refine gcon func107 rfl fun r => ?_
  have hm := Mem.start w0
  refine gS (gR (gA rfl (gE (gS (gS (gR (gM rfl ?_)))))))
  rcases nil_or h1 with ⟨he, h0_1⟩ | ⟨p0_1, c0_1, he⟩
  ·
   subst he; subst h0_1
   refine gcg (m' := some ([] : List Int)) (by simp [appM]) (gY (yG rfl (y_eqnil_t st_37.und rfl rfl rfl)) (gE (gct rfl (gS (gR (gA rfl (gE (gRt ?_))))))))
   replace hm := hm.nilow (α := Int)
   exact gr1 results107 rfl ⟨(.slice none 0 0), rfl, hm.pk [0] rfl rfl⟩
  subst he
  refine gY (yG rfl (y_eqnil_f st_37.und rfl rfl rfl)) (gE (gcf rfl (gSk (gS (gR (gf rfl (fun a hf => e_build0 (α := Int) et_37 hm rfl) ?_))))))
  rintro v0_1 w hm
  refine gM rfl (gb fun ys0_1 hx0_1 => ?_)
  obtain ⟨h0_2, h0_2e⟩ := appM_some.1 hx0_1
  refine gf rfl (fun a hf => e_append 0 et_37 hf hm rfl (hm.now h1) rfl rfl rfl h0_2) ?_
  rintro v0_2 w hm
  rw [h0_2e] at hm
  exact gA rfl (gE (gRt (gr1 results107 rfl ⟨v0_2, rfl, hm.pk [0] rfl rfl⟩)))

theorem impl_once_ok (w0 : World) (list : List Int) (v1 : Value) (h1 : GT.rep (hp w0) [v1] list) :
    ConM Tryz.prog 124 [v1] w0 (impl_once list) fun r v w' => ∃ (x1 : Value), v = x1 ∧ Mem w0 (hp w0) w' [ow [x1] r] := by
  unfold impl_once
  refine gcon func124 rfl fun r => ?_
  have hm := Mem.start w0
  refine gS (gR (gA rfl (gE (gS (gR (gM rfl (gCg rfl call107 (slices_Clone_S_int_int_ok _ list v1 (hm.now h1)) ?_)))))))
  rintro r0_1 hx0_1 v0_1 w ⟨_, rfl, hB⟩
  replace hm := hm.give hB; clear hB
  refine gA rfl (gE (gS (gR (gM rfl (gf rfl (fun a hf => e_call hf rfl call100 rfl (sort_con lays189 hm 0 rfl)) ?_)))))
  rintro _ w ⟨rfl, hm⟩
  refine gE (gS (gR (gM rfl (gf rfl (fun a hf => e_call hf rfl call182 rfl (compact_con lays2_20 hm 0 rfl)) ?_))))
  rintro v0_3 w hm
  exact gA rfl (gE (gRt (gr1 results124 rfl ⟨v0_3, rfl, hm.pk [0] rfl rfl⟩)))

theorem pimpl_live__outs_ok (w0 : World) (l_ : live) (bp0 : Nat) (v1p : Value) (h1p : GT.rep (hp w0) [v1p] l_.c.blocks) (v2p : Value) (h2p : GT.rep (hp w0) [v2p] l_.ins) (v3p : Value) (h3p : GT.rep (hp w0) [v3p] l_.preds) (hbbp0 : (hp w0) bp0 = some (.cells ([(nV l_.c.params), (nV l_.c.regs), v1p, v2p, v3p] : List Value).toArray 113 (0, 0))) (b_ : Int) :
    ConM Tryz.prog 143 [(pV bp0), (nV b_)] w0 (pimpl_live__outs l_ b_) fun r v w' => ∃ (x1 : Value), v = x1 ∧ Mem w0 (hp w0) w' [owm x1 r] := by
  unfold pimpl_live__outs
  refine gcon func143 rfl fun r => ?_
  have hm := Mem.start w0
  refine gS (gR (gA rfl (gE (gS (gR (gf rfl (fun a hf => e_mkM (β := Bool) hm rfl) ?_))))))
  rintro v0_1 w hm
  refine gA rfl (gE (gS (gS (gR (gM rfl (gY (yG rfl (y_nilptr rfl rfl)) (gF fo_113_0 rfl (gF fo_57_2 rfl (gY (yl isAgg55 (hm.hz_cell hbbp0 rfl) rfl) (gM rfl (gg fun x0_1 h0_1 hx0_2 => ?_)))))))))))
  obtain ⟨b0_1, o0_1, c0_1, he⟩ := idx_form' h1p hx0_2
  subst he
  obtain ⟨v0_2, v0_3, v0_4, hc0_1, h0_2, h0_3, h0_4⟩ := rk_Block_ h1p hx0_2
  refine gI st_55 h0_1 (idx_lt hx0_2) rfl (gF fo_104_4 rfl (gY (yl isAgg37 ((hc0_1.mono hm.lez).cell (j := 4) rfl) rfl) (gCg rfl call124 (impl_once_ok _ x0_1.next_ v0_4 (hm.now h0_4)) ?_)))
  rintro r0_1 hx0_3 v0_5 w ⟨_, rfl, hB⟩
  replace hm := hm.give hB; clear hB
  obtain ⟨p0_1, c0_2, rfl, hl0_1⟩ := ro_slice (hm.ow_rep 0 rfl)
  refine gY (yV st_37 rfl) (gM rfl (gE (gBk (gNf hm (fun i1_1 xs1_1 => [(0, (pV bp0)), (1, (nV b_)), (5, v0_1), (22, (.slice p0_1 r0_1.length c0_2)), (23, (nV ((r0_1.length : Int)))), (24, (nV i1_1))]) (fun i1_1 xs1_1 => [owm v0_1 xs1_1, ow [(.slice p0_1 r0_1.length c0_2)] r0_1]) [1, 0] rfl ?_ ?_))))
  ·
   repeat clear hm
   intro _ _ i1_1 xs1_1 w hm hi0_1 hi0_2 q0_1 _
   refine gS (gR (gB rfl (gE (gS (go _ 25 rfl (decide_eq_true (by omega)) (gct rfl (gSk (gS (gBk (gS (gR (gg fun x1_1 h1_1 hx1_2 => ?_))))))))))))
   obtain ⟨b1_1, o1_1, c1_1, he⟩ := idx_form (hm.ow_rep 1 rfl) hx1_2
   simp only [Value.slice.injEq, Option.some.injEq] at he; obtain ⟨rfl, _, rfl⟩ := he
   refine gI st_37 h1_1 (idx_lt hx1_2) rfl (gY (yl isAgg3 ((flat_cells (cs := [(nV x1_1)]) (hm.ow_rep 1 rfl) hx1_2 rfl).cell (j := 0) rfl) rfl) (gA rfl (gE (gS (gS (gR (gM rfl (gY (yG rfl (y_nilptr rfl rfl)) (gF fo_113_1 rfl (gY (yl isAgg60 (hm.hz_cell hbbp0 rfl) rfl) (gM rfl (gg fun x1_2 h1_2 hx1_4 => ?_))))))))))))
   obtain ⟨b1_2, o1_2, c1_2, he⟩ := idx_form' h2p hx1_4
   subst he
   obtain ⟨_, _, hc1_1, hr1_1⟩ := ro_get' h2p hx1_4
   have h1_3 := hr1_1
   obtain ⟨v1_1, rfl, -⟩ := id h1_3
   replace h1_3 : GT.rep (hp w0) [v1_1] x1_2 := h1_3
   replace hc1_1 : CellsAt (hp w0) b1_2 (o1_2 + (x1_1).toNat * 1) [v1_1] := hc1_1
   refine gI st_60 h1_2 (idx_lt hx1_4) rfl (gY (yl isAgg63 ((hc1_1.mono hm.lez).cell (j := 0) rfl) rfl) (gf rfl (fun a hf => e_rangeS (m := (x1_2 : MapS Bool)) hf hm underlying63 h1_3 rfl rfl) ?_))
   rintro _ w ⟨b1_3, rfl, hm⟩
   refine gE (gJ hm (fun s1_1 => [(0, (pV bp0)), (1, (nV b_)), (5, v0_1), (7, (nV x1_1)), (22, (sV b1_1 o1_1 r0_1.length c0_2)), (23, (nV ((r0_1.length : Int)))), (24, (nV i1_1))]) (fun s1_1 => [owm v0_1 s1_1, ow [(sV b1_1 o1_1 r0_1.length c0_2)] r0_1]) (fun s1_1 => ?_) ?_)
   ·
    refine gBk (gRng (m := (x1_2 : MapS Bool)) (by exact comm_ins) h1_3 (fun sn3_1 xs3_1 a w => St 74 [(0, (pV bp0)), (1, (nV b_)), (5, v0_1), (7, (nV x1_1)), (22, (sV b1_1 o1_1 r0_1.length c0_2)), (23, (nV ((r0_1.length : Int)))), (24, (nV i1_1)), (35, (pV b1_3))] w0 (hp w0) [owm v0_1 xs3_1, ow [(sV b1_1 o1_1 r0_1.length c0_2)] r0_1, itc (hp w0) v1_1 b1_3 sn3_1] a w) (fun a hf => ⟨hf.sb rfl, hm.pk [1, 2, 0] rfl rfl⟩) ?_ ?_)
    ·
     repeat clear hm
     rintro sn3_1 xs3_1 a w ⟨hf, hm⟩ hmo
     refine gv (m := some ()) (r := ()) hf ?_ rfl
     refine gS (gR (gf rfl (fun a hf => e_nextS 2 hf hm rfl hmo rfl rfl) ?_))
     rintro _ w ⟨bn3_1, p3_1, s3_1, rfl, hb3_1, hg3_1, hm⟩
     refine gSw hb3_1 (gX rfl (gE (gS (gct rfl (gSk (gBk (gS (gR (gY (yG rfl (y_entryS 2 hm rfl hg3_1 rfl rfl)) (gX rfl (gA rfl (gE (gR (gM rfl (gM rfl (gf0 rfl (fun a hf => e_insM (β := Bool) (key := p3_1.1) (u := true) (b := false) 0 underlying3 underlying63 hf hm rfl rfl rfl rfl rfl) ?_))))))))))))))))
     rintro _ w hm
     exact gE (gZr hg3_1 hb3_1 fun a hf => ⟨hf.sb rfl, hm.pk [0, 1, 2] rfl rfl⟩)
    repeat clear hm
    rintro sn2_1 xs2_1 a w ⟨hf, hm⟩ hno hk
    refine gv hf ?_ hk
    exact gS (gR (gY (yG rfl (y_nextE 2 hm rfl hno rfl rfl)) (gX rfl (gE (gS (gcf rfl (gXt (gHh (gz hm [0, 1] rfl)))))))))
   repeat clear hm
   intro s1_1 w hm
   refine gS (gR (gM rfl (gY (yG rfl (y_nilptr rfl rfl)) (gF fo_113_2 rfl (gY (yl isAgg26 (hm.hz_cell hbbp0 rfl) rfl) (gM rfl (gg fun x1_3 h1_4 hx1_6 => ?_)))))))
   obtain ⟨b1_4, o1_3, c1_3, he⟩ := idx_form' h3p hx1_6
   subst he
   obtain ⟨_, _, hc1_2, hr1_2⟩ := ro_get' h3p hx1_6
   have h1_5 := hr1_2
   obtain ⟨v1_2, rfl, -⟩ := id h1_5
   replace h1_5 : GT.rep (hp w0) [v1_2] x1_3 := h1_5
   replace hc1_2 : CellsAt (hp w0) b1_4 (o1_3 + (x1_1).toNat * 1) [v1_2] := hc1_2
   refine gI st_26 h1_4 (idx_lt hx1_6) rfl (gY (yl isAgg37 ((hc1_2.mono hm.lez).cell (j := 0) rfl) rfl) (gM rfl (gC hm rfl call157 (slices_Index_S_int_int_ok _ x1_3 v1_2 (hm.now h1_5) b_) fun r1_1 hx1_7 w hm => gA rfl (gE (gS (gR (gM rfl (gY (yG rfl (y_nilptr rfl rfl)) (gF fo_113_0 rfl (gF fo_57_2 rfl (gY (yl isAgg55 (hm.hz_cell hbbp0 rfl) rfl) (gM rfl (gg fun x1_4 h1_6 hx1_9 => ?_)))))))))))))
   obtain ⟨v1_4, v1_5, v1_6, hc1_3, h1_7, h1_8, h1_9⟩ := rk_Block_ h1p hx1_9
   refine gI st_55 h1_6 (idx_lt hx1_9) rfl (gF fo_104_0 rfl (gY (yl isAgg101 ((hc1_3.mono hm.lez).cell (j := 0) rfl) rfl) ?_))
   obtain ⟨p1_1, c1_4, rfl, hl1_1⟩ := ro_slice h1_7
   refine gY (yV st_101 rfl) (gM rfl (gE (gBk (gNf hm (fun i2_1 xs2_2 => [(0, (pV bp0)), (1, (nV b_)), (5, v0_1), (9, (nV r1_1)), (22, (sV b1_1 o1_1 r0_1.length c0_2)), (23, (nV ((r0_1.length : Int)))), (24, (nV i1_1)), (59, (.slice p1_1 x1_4.phis.length c1_4)), (60, (nV ((x1_4.phis.length : Int)))), (61, (nV i2_1))]) (fun i2_1 xs2_2 => [owm v0_1 xs2_2, ow [(sV b1_1 o1_1 r0_1.length c0_2)] r0_1]) [0, 1] rfl ?_ ?_))))
   ·
    repeat clear hm
    intro _ _ i2_1 xs2_2 w hm hi1_1 hi1_2 q1_1 _
    refine gS (gR (gB rfl (gE (gS (go _ 62 rfl (decide_eq_true (by omega)) (gct rfl (gSk (gS (gBk (gS (gR (gg fun x2_1 h2_1 hx2_2 => ?_))))))))))))
    obtain ⟨b2_1, o2_1, c2_1, he⟩ := idx_form' h1_7 hx2_2
    simp only [Value.slice.injEq, Option.some.injEq] at he; obtain ⟨rfl, _, rfl⟩ := he
    obtain ⟨v2_1, hc2_1, h2_2⟩ := rk_Phi_ h1_7 hx2_2
    refine gI st_101 h2_1 (idx_lt hx2_2) rfl (gY (yn (hc2_1.mono hm.lez) isAgg143 sizeOf143 rfl) (gAl hm zeroValue143 rfl fun b2_2 w hm => gSN hm 0 sizeOf143 (one_cons rfl (one_cons (rep_one h2_2) one_nil)) rfl fun w hm => gE (gR (gM rfl (gF fo_143_1 rfl (gL hm 0 isAgg37 rfl (gM rfl (gg fun x2_2 h2_3 hx2_4 => ?_))))))))
    obtain ⟨b2_3, o2_2, c2_2, he⟩ := idx_form h2_2 hx2_4
    subst he
    refine gI st_37 h2_3 (idx_lt hx2_4) rfl (gY (yl isAgg3 ((flat_cells (cs := [(nV x2_2)]) (hm.now h2_2) hx2_4 rfl).cell (j := 0) rfl) rfl) (gf0 rfl (fun a hf => e_insM (β := Bool) (key := x2_2) (u := true) (b := false) 1 underlying3 underlying63 hf hm rfl rfl rfl rfl rfl) ?_))
    rintro _ w hm
    exact gE (gR (gP (by omega) (by omega) rfl (gM rfl (gE (gze hm [1, 2] rfl)))))
   repeat clear hm
   intro i1_2 xs1_2 w hm hi1_3 hi1_4
   exact gS (gR (gB rfl (gE (gS (go _ 62 rfl (decide_eq_false (by omega)) (gcf rfl (gXt (gHh (gR (gP (by omega) (by omega) rfl (gM rfl (gE (gze hm [0, 1] rfl)))))))))))))
  repeat clear hm
  intro i0_1 xs0_1 w hm hi0_3 hi0_4
  exact gS (gR (gB rfl (gE (gS (go _ 25 rfl (decide_eq_false (by omega)) (gcf rfl (gXt (gHh (gS (gR (gM rfl (gA rfl (gE (gRt (gr1 results143 rfl ⟨v0_1, rfl, hm.pk [0] rfl rfl⟩)))))))))))))))

theorem impl_MadeBy_ok (w0 : World) (x_ : Ins_) (v1 : Value) (h1 : GT.rep (hp w0) [v1] x_.args) :
    ConM Tryz.prog 98 [(.agg #[(nV x_.op), (nV x_.to), v1, (nV x_.n_)])] w0 (impl_MadeBy x_) fun r v w' => v = (nV r) ∧ Below w0.heap.size w0 w' := by
  unfold impl_MadeBy
  refine gcon func98 rfl fun r => ?_
  have hm := Mem.start w0
  refine gS (gR (gBx hm rfl fun b0_1 w hm => gA rfl (gE (gS (gS (gR (gF fo_106_0 rfl (gL hm 0 isAgg3 rfl (gC hm rfl call142 (impl_sets_ok _ x_.op) fun r0_1 hx0_1 w hm => gN rfl (gE (gsn 6 rfl (fun h0_1 => ?_) fun h0_1 => ?_)))))))))))
  ·
   exact gct rfl (gS (gR (gA rfl (gE (gRt (gr1 results98 rfl ⟨rfl, hm.below⟩))))))
  exact gcf rfl (gSk (gS (gR (gF fo_106_1 rfl (gL hm 0 isAgg3 rfl (gA rfl (gE (gRt (gr1 results98 rfl ⟨rfl, hm.below⟩)))))))))

theorem impl_regSet__with_ok (w0 : World) (hz : Heap) (s_ : MapS Bool) (v1 : Value) (list : List Int) (v2 : Value) (h2 : GT.rep hz [v2] list) (hm0 : Mem w0 hz w0 [owm v1 s_]) :
    ConM Tryz.prog 145 [v1, v2] w0 (impl_regSet__with s_ list) fun r v w' => v = v1 ∧ Mem w0 hz w' [owm v1 r] := by
  unfold impl_regSet__with
  refine gcon func145 rfl fun r => ?_
  have hm := hm0
  refine gS (gR (gA rfl (gE (gS (gS (gR (gM rfl ?_)))))))
  obtain ⟨p0_1, c0_1, rfl, hl0_1⟩ := ro_slice h2
  refine gY (yV st_37 rfl) (gM rfl (gE (gBk (gNf hm (fun i1_1 xs1_1 => [(0, v1), (7, (.slice p0_1 list.length c0_1)), (8, (nV ((list.length : Int)))), (9, (nV i1_1))]) (fun i1_1 xs1_1 => [owm v1 xs1_1]) [0] rfl ?_ ?_))))
  ·
   repeat clear hm
   intro _ _ i1_1 xs1_1 w hm hi0_1 hi0_2 q0_1 _
   refine gS (gR (gB rfl (gE (gS (go _ 10 rfl (decide_eq_true (by omega)) (gct rfl (gSk (gS (gBk (gS (gR (gg fun x1_1 h1_1 hx1_2 => ?_))))))))))))
   obtain ⟨b1_1, o1_1, c1_1, he⟩ := idx_form h2 hx1_2
   simp only [Value.slice.injEq, Option.some.injEq] at he; obtain ⟨rfl, _, rfl⟩ := he
   refine gI st_37 h1_1 (idx_lt hx1_2) rfl (gY (yl isAgg3 ((flat_cells (cs := [(nV x1_1)]) (hm.now h2) hx1_2 rfl).cell (j := 0) rfl) rfl) (gA rfl (gE (gR (gM rfl (gM rfl (gf0 rfl (fun a hf => e_insM (β := Bool) (key := x1_1) (u := true) (b := false) 0 underlying3 underlying63 hf hm rfl rfl rfl rfl rfl) ?_)))))))
   rintro _ w hm
   exact gE (gR (gP (by omega) (by omega) rfl (gM rfl (gE (gze hm [0] rfl)))))
  repeat clear hm
  intro i0_1 xs0_1 w hm hi0_3 hi0_4
  exact gS (gR (gB rfl (gE (gS (go _ 10 rfl (decide_eq_false (by omega)) (gcf rfl (gXt (gHh (gS (gR (gM rfl (gA rfl (gE (gRt (gr1 results145 rfl ⟨rfl, hm.pk [0] rfl rfl⟩)))))))))))))))

theorem pimpl_live__behind_ok (w0 : World) (l_ : live) (bp0 : Nat) (v1p : Value) (h1p : GT.rep (hp w0) [v1p] l_.c.blocks) (v2p : Value) (h2p : GT.rep (hp w0) [v2p] l_.ins) (v3p : Value) (h3p : GT.rep (hp w0) [v3p] l_.preds) (hbbp0 : (hp w0) bp0 = some (.cells ([(nV l_.c.params), (nV l_.c.regs), v1p, v2p, v3p] : List Value).toArray 113 (0, 0))) (b_ : Int) (i_ : Int) :
    ConM Tryz.prog 99 [(pV bp0), (nV b_), (nV i_)] w0 (pimpl_live__behind l_ b_ i_) fun r v w' => ∃ (x1 : Value), v = x1 ∧ Mem w0 (hp w0) w' [owm x1 r] := by
  unfold pimpl_live__behind
  refine gcon func99 rfl fun r => ?_
  have hm := Mem.start w0
  refine gS (gR (gA rfl (gE (gS (gR (gM rfl (gM rfl (gCg rfl call143 (pimpl_live__outs_ok _ l_ bp0 v1p (hm.now h1p) v2p (hm.now h2p) v3p (hm.now h3p) (hm.lez _ _ ((Heap.le_refl _) _ _ hbbp0)) b_) ?_))))))))
  rintro r0_1 hx0_1 v0_1 w ⟨_, rfl, hB⟩
  replace hm := hm.give hB; clear hB
  refine gA rfl (gE (gS (gR (gM rfl (gY (yG rfl (y_nilptr rfl rfl)) (gF fo_113_0 rfl (gF fo_57_2 rfl (gY (yl isAgg55 (hm.hz_cell hbbp0 rfl) rfl) (gM rfl (gg fun x0_1 h0_1 hx0_3 => ?_))))))))))
  obtain ⟨b0_1, o0_1, c0_1, he⟩ := idx_form' h1p hx0_3
  subst he
  obtain ⟨v0_3, v0_4, v0_5, hc0_1, h0_2, h0_3, h0_4⟩ := rk_Block_ h1p hx0_3
  refine gI st_55 h0_1 (idx_lt hx0_3) rfl (gY (yn (hc0_1.mono hm.lez) isAgg104 sizeOf104 rfl) (gAl hm zeroValue104 rfl fun b0_2 w hm => gSN hm 0 sizeOf104 (one_cons (rep_one h0_2) (one_cons (rep_one h0_3) (one_cons rfl (one_cons rfl (one_cons (rep_one h0_4) one_nil))))) rfl fun w hm => gE (gS (gS (gR (gF fo_104_2 rfl (gL hm 0 isAgg3 rfl (gC hm rfl call144 (impl_usesOn_ok _ x0_1.jump) fun r0_2 hx0_4 w hm => gE (gJ hm (fun s0_1 => [(2, (nV i_)), (7, v0_1), (8, (pV b0_2))]) (fun s0_1 => [owm v0_1 s0_1, blk b0_2 [v0_3, v0_4, (nV x0_1.jump), (nV x0_1.on), v0_5] 104]) (fun s0_1 => ?_) ?_)))))))))
  ·
   refine gs 24 rfl (fun h1_1 => ?_) fun h1_1 => ?_
   ·
    refine gct rfl (gR (gM rfl (gF fo_104_3 rfl (gL hm 0 isAgg3 rfl (gf0 rfl (fun a hf => e_insM (β := Bool) (key := x0_1.on) (u := true) (b := false) 1 underlying3 underlying63 hf hm rfl rfl rfl rfl rfl) ?_)))))
    rintro _ w hm
    exact gE (gz hm [1, 0] rfl)
   exact gcf rfl (gSk (gz hm [1, 0] rfl))
  repeat clear hm
  intro s0_1 w hm
  refine gS (gS (gR (gF fo_104_1 rfl (gL hm 1 isAgg102 rfl ?_))))
  obtain ⟨p0_1, c0_2, rfl, hl0_1⟩ := ro_slice h0_3
  refine gY (yV st_102 rfl) (gY (yS (by omega) (by omega) rfl) (gA rfl (gE (gJ hm (fun s0_2 => [(7, v0_1)]) (fun s0_2 => [owm v0_1 s0_2]) (fun s0_2 => ?_) ?_))))
  ·
   refine gBk (gMf hm (fun xs2_1 => [(2, (nV i_)), (7, v0_1), (8, (pV b0_2)), (9, (nV xs2_1.2))]) (fun xs2_1 => [owm v0_1 xs2_1.1, blk b0_2 [v0_3, (.slice p0_1 x0_1.ins.length c0_2), (nV x0_1.jump), (nV x0_1.on), v0_5] 104]) [0, 1] rfl ?_)
   repeat clear hm
   intro r1_1 hq1_1 xs2_1 w hm q1_1 ho1_1
   refine gS (gS (gR (gM rfl (gM rfl (gB rfl (gE (gsd 34 rfl (fun h2_1 => ?_) fun h2_1 => ?_)))))))
   ·
    refine gct rfl (gSk (gS (gBk (gS (gS (gR (gF fo_104_1 rfl (gL hm 1 isAgg102 rfl (gM rfl (gg fun x2_1 h2_2 hx2_2 => ?_))))))))))
    obtain ⟨b2_1, o2_1, c2_1, he⟩ := idx_form' h0_3 hx2_2
    simp only [Value.slice.injEq, Option.some.injEq] at he; obtain ⟨rfl, _, rfl⟩ := he
    obtain ⟨v2_1, hc2_1, h2_3⟩ := rk_Ins_ h0_3 hx2_2
    refine gI st_102 h2_2 (idx_lt hx2_2) rfl (gY (yn (hc2_1.mono hm.lez) isAgg106 sizeOf106 rfl) (gC hm rfl call98 (impl_MadeBy_ok _ x2_1 v2_1 (hm.now h2_3)) fun r2_1 hx2_3 w hm => gA rfl (gE (gS (gR (gM rfl (gB rfl (gE (gJ hm (fun s2_1 => [(2, (nV i_)), (7, v0_1), (8, (pV b0_2)), (9, (nV xs2_1.2))]) (fun s2_1 => [owm v0_1 s2_1, blk b0_2 [v0_3, (sV b2_1 o2_1 x0_1.ins.length c0_2), (nV x0_1.jump), (nV x0_1.on), v0_5] 104]) (fun s2_1 => ?_) ?_)))))))))
    ·
     refine gsd 44 rfl (fun h3_1 => ?_) fun h3_1 => ?_
     ·
      refine gct rfl (gR (gM rfl (gM rfl (gf0 rfl (fun a hf => e_delM (β := Bool) (key := r2_1) 0 underlying3 underlying63 hf hm rfl rfl rfl rfl rfl) ?_))))
      rintro _ w hm
      exact gE (gz hm [0, 1] rfl)
     exact gcf rfl (gSk (gz hm [0, 1] rfl))
    repeat clear hm
    intro s2_1 w hm
    refine gR (gM rfl (gF fo_104_1 rfl (gL hm 1 isAgg102 rfl (gM rfl (gI st_102 h2_2 (idx_lt hx2_2) rfl (gF fo_106_2 rfl (gY (yl isAgg37 ((hc2_1.mono hm.lez).cell (j := 2) rfl) rfl) ?_)))))))
    obtain ⟨hz2_1, hle, hm1, hsub, hk2_1⟩ := hm.take2 (L1 := [owm v0_1 s2_1]) (L2 := [blk b0_2 [v0_3, (sV b2_1 o2_1 x0_1.ins.length c0_2), (nV x0_1.jump), (nV x0_1.on), v0_5] 104]) [0] [1] (by decide) rfl rfl
    refine gCg rfl call145 (impl_regSet__with_ok _ hz2_1 s2_1 v0_1 x2_1.args v2_1 (GT.mono hle h2_3) hm1 ) ?_
    rintro r2_2 hx2_4 v2_3 w ⟨rfl, hB⟩
    replace hm := hk2_1 _ _ hB; clear hB
    exact gE (gR (gM rfl (gB rfl (gA rfl (gE (gze hm [0, 1] rfl))))))
   exact gcf rfl (gXt (gHh (gLp ho1_1 hq1_1 (gz hm [0] rfl))))
  repeat clear hm
  intro s0_2 w hm
  exact gS (gR (gM rfl (gA rfl (gE (gRt (gr1 results99 rfl ⟨v0_1, rfl, hm.pk [0] rfl rfl⟩))))))

theorem impl_liveOf_ok (w0 : World) (hz : Heap) (hle0 : Heap.le hz (hp w0)) (c_ : Code_) (v1 : Value) (h1 : GT.rep hz [v1] c_.blocks) :
    ConM Tryz.prog 97 [(.agg #[(nV c_.params), (nV c_.regs), v1])] w0 (impl_liveOf c_) fun r v w' => ∃ (b1 : Nat) (x2 : Value) (x3 : Value) (x4 : Value) (hz2 : Heap), v = (pV b1) ∧ Heap.le hz hz2 ∧ GT.rep hz2 [x2] r.c.blocks ∧ Mem w0 hz2 w' [junk w0 hz, blk b1 [(nV r.c.params), (nV r.c.regs), x2, x3, x4] 113, ow [x3] r.ins, ow [x4] r.preds] := by
  unfold impl_liveOf
  refine gcon func97 rfl fun r => ?_
  have hm := Mem.startA hle0
  refine gS (gR (gBx hm rfl fun b0_1 w hm => gA rfl (gE (gS (gW (.p 1 (.q 0 (.e 2 (.p 3 (.e 4 (.p 5 (.e 6 (.p 7 .fin) .nil)) .nil)) .nil))) [2, 4] [1, 3, 5, 7] hm [0, 1] [blk b0_1 [(nV c_.params), (nV c_.regs), v1] 57, junk w0 hz] rfl mxo (by kernel_rfl) (fun _ _ _ h => h.2) fun w hm hS => tP rfl (fun w => yF fo_57_2 rfl) (tQ rfl hS (fun w hm => yn (hm.blk_at 0 rfl) isAgg57 sizeOf57 rfl) (tO (tY rfl (yL hm 0 isAgg55 rfl) (tAs hS ?_)))))))))
  obtain ⟨p0_1, c0_1, rfl, hl0_1⟩ := ro_slice h1
  refine tP rfl (fun w => yV st_55 rfl) (tO (gb fun ys0_1 hx0_1 => ?_))
  obtain ⟨⟨h0_11, h0_12⟩, h0_1e⟩ := makeM_some.1 hx0_1
  refine tf rfl rfl (fun a hf => e_make (x0 := ((MapS.mk0 : MapS Bool) : MapS Bool)) et_60 (fun _ => (own_map.2 (.inl ⟨rfl, rfl⟩))) hf hm rfl rfl rfl h0_11 (Int.le_refl _) h0_12) ?_
  rintro v0_1 w hm
  rw [h0_1e] at hm
  have h0_1l : (ys0_1.length : Int) = (c_.blocks.length : Int) := by rw [← h0_1e]; simp only [List.length_replicate]; omega
  refine tAk hm [1, 2] rfl fun hS => ?_
  obtain ⟨p0_2, c0_2, rfl, hl0_2⟩ := ro_slice (hm.ow_rep 0 rfl)
  refine tP rfl (fun w => yG rfl (y_build (vs := [(0, (.agg #[(nV c_.params), (nV c_.regs), (.slice p0_1 c_.blocks.length c0_1)])), (1, (.slice p0_2 ys0_1.length c0_2))]) (cs := #[(nV c_.params), (nV c_.regs), (.slice p0_1 c_.blocks.length c0_1), (.slice p0_2 ys0_1.length c0_2), (.slice none 0 0)]) rfl rfl (by kernel_rfl))) (tO (tf rfl rfl (fun a hf => e_box hf hm rfl rfl rfl) ?_))
  rintro _ w ⟨b0_2, rfl, hm⟩
  refine tAn rfl (tP rfl (fun w => yA rfl) (tE (gS (gS (gR (gF fo_57_2 rfl (gL hm 2 isAgg55 rfl (gY (yV st_55 rfl) (gM rfl (gE (gBk ?_)))))))))))
  replace hm := hm.nilow (α := List Int)
  refine gNg (fun i1_1 xs1_1 a w => ∃ (v1_1 : Value), St 82 [(1, (pV b0_1)), (3, (pV b0_2)), (19, (nV ((c_.blocks.length : Int)))), (20, (nV i1_1))] w0 hz [blk b0_1 [(nV c_.params), (nV c_.regs), (.slice p0_1 c_.blocks.length c0_1)] 57, blk b0_2 [(nV c_.params), (nV c_.regs), (.slice p0_1 c_.blocks.length c0_1), (.slice p0_2 ys0_1.length c0_2), v1_1] 113, ow [(.slice p0_2 ys0_1.length c0_2)] ys0_1, ow [v1_1] xs1_1, junk w0 hz] a w) (fun a hf => ⟨(.slice none 0 0), hf.sb rfl, hm.pk [3, 1, 2, 0, 4] rfl rfl⟩) ?_ ?_
  ·
   repeat clear hm
   rintro _ _ i1_1 xs1_1 a w ⟨v1_1, hf, hm⟩ hi0_1 hi0_2 q0_1 _
   refine gv hf (gS (gR (gB rfl (gE (gS (go _ 21 rfl (decide_eq_true (by omega)) (gct rfl (gSk (gS (gBk (gS (gR (gM rfl (gA rfl (gE (gW (.p 0 (.p 1 (.p 2 (.p 3 (.p 6 (.q 4 (.e 5 (.e 7 (.e 8 (.e 9 (.p 10 (.p 11 (.e 12 .fin .nil))) .nil) .nil) .nil) .nil))))))) [5, 7, 8] [0, 1, 2, 3, 6, 10, 11] hm [0, 1, 2, 3, 4] [blk b0_1 [(nV c_.params), (nV c_.regs), (.slice p0_1 c_.blocks.length c0_1)] 57, blk b0_2 [(nV c_.params), (nV c_.regs), (.slice p0_1 c_.blocks.length c0_1), (.slice p0_2 ys0_1.length c0_2), v1_1] 113, ow [(.slice p0_2 ys0_1.length c0_2)] ys0_1, ow [v1_1] xs1_1, junk w0 hz] rfl mxo (by kernel_rfl) (fun _ _ _ h => h.2) fun w hm hS => tP rfl (fun w => yM rfl) (tP rfl (fun w => yM rfl) (tP rfl (fun w => yG rfl (y_nilptr rfl rfl)) (tP rfl (fun w => yF fo_113_2 rfl) (tP rfl (fun w => yM rfl) (tQ rfl hS (fun w hm => yL hm 1 isAgg26 rfl) (tO (tY rfl (yn (hm.blk_at 0 rfl) isAgg57 sizeOf57 rfl) (tAs hS (tO (gb fun r1_1 hx1_1 => tf rfl rfl (fun a hf => e_call hf rfl call141 rfl (impl_PredsOf_ok _ c_ (.slice p0_1 c_.blocks.length c0_1) (hm.now h1) i1_1 _ hx1_1)) ?_))))))))))))))))))))))))))
   rintro v1_2 w ⟨_, rfl, hB⟩
   replace hm := hm.give hB; clear hB
   refine tAk hm [1, 2, 3, 4, 5] rfl fun hS => tO ?_
   obtain ⟨p1_1, c1_1, rfl, hl1_1⟩ := ro_slice (hm.ow_rep 0 rfl)
   refine tf rfl rfl (fun a hf => e_build (vs := #[(0, (.slice p1_1 r1_1.length c1_1))]) (cs := [(.slice p1_1 r1_1.length c1_1)]) et_26 hf hm rfl rfl (by kernel_rfl) rfl rfl) ?_
   rintro _ w ⟨b1_1, rfl, hm⟩
   replace hm := hm.els_nil (α := List Int)
   replace hm := hm.imp (c' := ow [(.slice p1_1 r1_1.length c1_1)] (r1_1 : List Int)) 2 rfl (fun F h0 => h0)
   replace hm := (hm.els_cons 0 2 (by decide) rfl rfl).pk (L' := [els [(.slice p1_1 r1_1.length c1_1)] ([r1_1] : List (List Int)), blk b1_1 [(.slice p1_1 r1_1.length c1_1)] 37, blk b0_1 [(nV c_.params), (nV c_.regs), (.slice p0_1 c_.blocks.length c0_1)] 57, blk b0_2 [(nV c_.params), (nV c_.regs), (.slice p0_1 c_.blocks.length c0_1), (.slice p0_2 ys0_1.length c0_2), v1_1] 113, ow [(.slice p0_2 ys0_1.length c0_2)] ys0_1, ow [v1_1] xs1_1, junk w0 hz]) [0, 1, 3, 4, 5, 6, 7] rfl rfl
   replace hm := (hm.lit_els 1 0 (by decide) rfl rfl rfl rfl).pk (L' := [ow [(sV b1_1 0 1 1)] ([r1_1] : List (List Int)), blk b0_1 [(nV c_.params), (nV c_.regs), (.slice p0_1 c_.blocks.length c0_1)] 57, blk b0_2 [(nV c_.params), (nV c_.regs), (.slice p0_1 c_.blocks.length c0_1), (.slice p0_2 ys0_1.length c0_2), v1_1] 113, ow [(.slice p0_2 ys0_1.length c0_2)] ys0_1, ow [v1_1] xs1_1, junk w0 hz]) [1, 2, 3, 4, 5, 6] rfl rfl
   refine tAk hm [1, 2, 3, 4, 5] rfl fun hS => tO (gb fun ys1_1 hx1_2 => ?_)
   obtain ⟨h1_1, h1_1e⟩ := appM_some.1 hx1_2
   replace hm := (hm.both 4 0 (by decide) rfl rfl).pk (L' := [blk b0_1 [(nV c_.params), (nV c_.regs), (.slice p0_1 c_.blocks.length c0_1)] 57, blk b0_2 [(nV c_.params), (nV c_.regs), (.slice p0_1 c_.blocks.length c0_1), (.slice p0_2 ys0_1.length c0_2), v1_1] 113, ow [(.slice p0_2 ys0_1.length c0_2)] ys0_1, both (ow [v1_1] xs1_1) (ow [(sV b1_1 0 1 1)] ([r1_1] : List (List Int))), junk w0 hz]) [1, 2, 3, 4, 5] rfl rfl
   refine tf rfl rfl (fun a hf => e_appendD (xs := xs1_1) (ys := ([r1_1] : List (List Int))) 3 et_26 hf hm rfl rfl rfl rfl h1_1) ?_
   rintro v1_4 w hm
   rw [h1_1e] at hm
   refine tAn rfl (tP rfl (fun w => yG rfl (y_nilptr rfl rfl)) (tP rfl (fun w => yF fo_113_2 rfl) (tO (tf0 rfl rfl (fun a hf => e_store1 1 hf hm rfl sizeOf26 rfl rfl rfl (rep_one (hm.ow_rep 3 rfl)) rfl) ?_))))
   rintro _ w hm
   exact tAn rfl (tE (gR (gP (by omega) (by omega) rfl (gM rfl (gE (gZe fun a hf => ⟨v1_4, hf.sb rfl, hm.pk [0, 1, 2, 3, 4] rfl rfl⟩))))))
  repeat clear hm
  rintro i0_1 xs0_1 a w ⟨v0_2, hf, hm⟩ hi0_3 hi0_4
  refine gv hf (gS (gR (gB rfl (gE (gS (go _ 21 rfl (decide_eq_false (by omega)) (gcf rfl (gXt (gHh (gS (gS (gR (gA rfl (gE ?_))))))))))))))
  obtain ⟨p0_3, c0_3, rfl, hl0_3⟩ := ro_slice (hm.ow_rep 3 rfl)
  refine gJ hm (fun s0_1 => [(3, (pV b0_2))]) (fun s0_1 => [blk b0_2 [(nV c_.params), (nV c_.regs), (.slice p0_1 c_.blocks.length c0_1), (.slice p0_2 ys0_1.length c0_2), (.slice p0_3 xs0_1.length c0_3)] 113, ow [(.slice p0_2 ys0_1.length c0_2)] s0_1, ow [(.slice p0_3 xs0_1.length c0_3)] xs0_1, junk w0 hz]) (fun s0_1 => ?_) ?_
  ·
   refine gBk (gMf hm (fun xs2_1 => [(1, (pV b0_1)), (3, (pV b0_2)), (5, (.bool (xs2_1.2)))]) (fun xs2_1 => [blk b0_1 [(nV c_.params), (nV c_.regs), (.slice p0_1 c_.blocks.length c0_1)] 57, blk b0_2 [(nV c_.params), (nV c_.regs), (.slice p0_1 c_.blocks.length c0_1), (.slice p0_2 ys0_1.length c0_2), (.slice p0_3 xs0_1.length c0_3)] 113, ow [(.slice p0_2 ys0_1.length c0_2)] xs2_1.1, ow [(.slice p0_3 xs0_1.length c0_3)] xs0_1, junk w0 hz]) [0, 1, 2, 3, 4] rfl ?_)
   repeat clear hm
   intro r1_2 hq1_1 xs2_1 w hm q1_1 ho1_2
   refine gS (gS (gR (gM rfl (gE (gs 36 rfl (fun h2_1 => ?_) fun h2_1 => ?_)))))
   ·
    refine gct rfl (gSk (gBk (gS (gR (gA rfl (gE (gS (gR (gF fo_57_2 rfl (gL hm 0 isAgg55 rfl (gY (yV st_55 rfl) (gY (yS (by omega) (by omega) rfl) (gA rfl (gE (gJ hm (fun s2_1 => [(1, (pV b0_1)), (3, (pV b0_2)), (5, (.bool (s2_1.2)))]) (fun s2_1 => [blk b0_1 [(nV c_.params), (nV c_.regs), (.slice p0_1 c_.blocks.length c0_1)] 57, blk b0_2 [(nV c_.params), (nV c_.regs), (.slice p0_1 c_.blocks.length c0_1), (.slice p0_2 ys0_1.length c0_2), (.slice p0_3 xs0_1.length c0_3)] 113, ow [(.slice p0_2 ys0_1.length c0_2)] s2_1.1, ow [(.slice p0_3 xs0_1.length c0_3)] xs0_1, junk w0 hz]) (fun s2_1 => ?_) ?_)))))))))))))))
    ·
     refine gBk (gMf hm (fun xs4_1 => [(1, (pV b0_1)), (3, (pV b0_2)), (5, (.bool (xs4_1.2.1))), (6, (nV xs4_1.2.2))]) (fun xs4_1 => [blk b0_1 [(nV c_.params), (nV c_.regs), (.slice p0_1 c_.blocks.length c0_1)] 57, blk b0_2 [(nV c_.params), (nV c_.regs), (.slice p0_1 c_.blocks.length c0_1), (.slice p0_2 ys0_1.length c0_2), (.slice p0_3 xs0_1.length c0_3)] 113, ow [(.slice p0_2 ys0_1.length c0_2)] xs4_1.1, ow [(.slice p0_3 xs0_1.length c0_3)] xs0_1, junk w0 hz]) [0, 1, 2, 3, 4] rfl ?_)
     repeat clear hm
     intro r3_1 hq3_1 xs4_1 w hm q3_1 ho3_1
     refine gS (gS (gR (gM rfl (gB rfl (gE (gsd 42 rfl (fun h4_1 => ?_) fun h4_1 => ?_))))))
     ·
      refine gct rfl (gSk (gS (gJ hm (fun s4_1 => [(1, (pV b0_1)), (3, (pV b0_2)), (5, (.bool (s4_1.2))), (6, (nV xs4_1.2.2))]) (fun s4_1 => [blk b0_1 [(nV c_.params), (nV c_.regs), (.slice p0_1 c_.blocks.length c0_1)] 57, blk b0_2 [(nV c_.params), (nV c_.regs), (.slice p0_1 c_.blocks.length c0_1), (.slice p0_2 ys0_1.length c0_2), (.slice p0_3 xs0_1.length c0_3)] 113, ow [(.slice p0_2 ys0_1.length c0_2)] s4_1.1, ow [(.slice p0_3 xs0_1.length c0_3)] xs0_1, junk w0 hz]) (fun s4_1 => ?_) ?_)))
      ·
       refine gBk (gS (gR (gM rfl (gM rfl (gCg rfl call99 (pimpl_live__behind_ok _ (⟨c_, xs4_1.1, xs0_1⟩ : live) b0_2 (.slice p0_1 c_.blocks.length c0_1) (hm.now h1) (.slice p0_2 ys0_1.length c0_2) (hm.ow_rep 2 rfl) (.slice p0_3 xs0_1.length c0_3) (hm.ow_rep 3 rfl) (hm.blk_cells 1 rfl).1 xs4_1.2.2 (-1)) ?_)))))
       rintro r5_1 hx5_1 v5_1 w ⟨_, rfl, hB⟩
       replace hm := hm.give hB; clear hB
       refine gA rfl (gE (gS (gS (gR (gF fo_57_2 rfl (gL hm 1 isAgg55 rfl (gM rfl (gg fun x5_1 h5_1 hx5_3 => ?_))))))))
       obtain ⟨b5_1, o5_1, c5_1, he⟩ := idx_form' h1 hx5_3
       simp only [Value.slice.injEq, Option.some.injEq] at he; obtain ⟨rfl, _, rfl⟩ := he
       obtain ⟨v5_3, v5_4, v5_5, hc5_1, h5_2, h5_3, h5_4⟩ := rk_Block_ h1 hx5_3
       refine gI st_55 h5_1 (idx_lt hx5_3) rfl (gF fo_104_0 rfl (gY (yl isAgg101 ((hc5_1.mono hm.lez).cell (j := 0) rfl) rfl) ?_))
       obtain ⟨p5_1, c5_2, rfl, hl5_1⟩ := ro_slice h5_2
       refine gY (yV st_101 rfl) (gM rfl (gE (gBk (gNf hm (fun i6_1 xs6_1 => [(1, (pV b0_1)), (3, (pV b0_2)), (5, (.bool (xs4_1.2.1))), (6, (nV xs4_1.2.2)), (7, v5_1), (53, (.slice p5_1 x5_1.phis.length c5_2)), (54, (nV ((x5_1.phis.length : Int)))), (55, (nV i6_1))]) (fun i6_1 xs6_1 => [blk b0_1 [(nV c_.params), (nV c_.regs), (sV b5_1 o5_1 c_.blocks.length c0_1)] 57, blk b0_2 [(nV c_.params), (nV c_.regs), (sV b5_1 o5_1 c_.blocks.length c0_1), (.slice p0_2 ys0_1.length c0_2), (.slice p0_3 xs0_1.length c0_3)] 113, ow [(.slice p0_2 ys0_1.length c0_2)] xs4_1.1, ow [(.slice p0_3 xs0_1.length c0_3)] xs0_1, owm v5_1 xs6_1, junk w0 hz]) [1, 2, 3, 4, 0, 5] rfl ?_ ?_))))
       ·
        repeat clear hm
        intro _ _ i6_1 xs6_1 w hm hi5_1 hi5_2 q5_1 _
        refine gS (gR (gB rfl (gE (gS (go _ 56 rfl (decide_eq_true (by omega)) (gct rfl (gSk (gS (gBk (gS (gR (gg fun x6_1 h6_1 hx6_2 => ?_))))))))))))
        obtain ⟨b6_1, o6_1, c6_1, he⟩ := idx_form' h5_2 hx6_2
        simp only [Value.slice.injEq, Option.some.injEq] at he; obtain ⟨rfl, _, rfl⟩ := he
        obtain ⟨v6_1, hc6_1, h6_2⟩ := rk_Phi_ h5_2 hx6_2
        refine gI st_101 h6_1 (idx_lt hx6_2) rfl (gY (yn (hc6_1.mono hm.lez) isAgg143 sizeOf143 rfl) (gAl hm zeroValue143 rfl fun b6_2 w hm => gSN hm 0 sizeOf143 (one_cons rfl (one_cons (rep_one h6_2) one_nil)) rfl fun w hm => gE (gR (gM rfl (gF fo_143_0 rfl (gL hm 0 isAgg3 rfl (gf0 rfl (fun a hf => e_delM (β := Bool) (key := x6_1.to) 5 underlying3 underlying63 hf hm rfl rfl rfl rfl rfl) ?_)))))))
        rintro _ w hm
        exact gE (gR (gP (by omega) (by omega) rfl (gM rfl (gE (gze hm [1, 2, 3, 4, 5, 6] rfl)))))
       repeat clear hm
       intro i5_1 xs5_1 w hm hi5_3 hi5_4
       refine gS (gR (gB rfl (gE (gS (go _ 56 rfl (decide_eq_false (by omega)) (gcf rfl (gXt (gHh (gS (gW (.p 0 (.p 2 (.p 3 (.p 4 (.p 6 (.q 1 (.e 5 (.p 7 (.e 8 (.e 9 (.p 10 .fin) .nil) .nil)) .nil))))))) [5, 8] [0, 2, 3, 4, 6, 7, 10] hm [0, 1, 2, 3, 4, 5] [blk b0_1 [(nV c_.params), (nV c_.regs), (sV b5_1 o5_1 c_.blocks.length c0_1)] 57, blk b0_2 [(nV c_.params), (nV c_.regs), (sV b5_1 o5_1 c_.blocks.length c0_1), (.slice p0_2 ys0_1.length c0_2), (.slice p0_3 xs0_1.length c0_3)] 113, ow [(.slice p0_2 ys0_1.length c0_2)] xs4_1.1, ow [(.slice p0_3 xs0_1.length c0_3)] xs0_1, owm v5_1 xs5_1, junk w0 hz] rfl mxo (by kernel_rfl) (fun _ _ _ h => h.2) fun w hm hS => tP rfl (fun w => yM rfl) (tP rfl (fun w => yM rfl) (tP rfl (fun w => yG rfl (y_nilptr rfl rfl)) (tP rfl (fun w => yF fo_113_1 rfl) (tP rfl (fun w => yM rfl) (tQ rfl hS (fun w hm => yG rfl (y_lenS (m := (xs5_1 : MapS Bool)) underlying63 (hm.owm_rep 4 rfl) rfl rfl)) (tO (tY rfl (yL hm 1 isAgg60 rfl) (tAs hS (gg fun x5_2 h5_5 hx5_5 => ?_)))))))))))))))))))
       obtain ⟨b5_2, o5_2, c5_3, he⟩ := idx_form' (hm.ow_rep 2 rfl) hx5_5
       simp only [Value.slice.injEq, Option.some.injEq] at he; obtain ⟨rfl, _, rfl⟩ := he
       obtain ⟨_, _, hc5_2, hr5_1⟩ := ro_get' (hm.ow_rep 2 rfl) hx5_5
       have h5_6 := hr5_1
       obtain ⟨v5_6, rfl, -⟩ := id h5_6
       replace h5_6 : GT.rep (hp _) [v5_6] x5_2 := h5_6
       replace hc5_2 : CellsAt (hp _) b5_2 (o5_2 + (xs4_1.2.2).toNat * 1) [v5_6] := hc5_2
       have hL5_1 := rep_slice_len (hm.ow_rep 2 rfl)
       refine tP rfl (fun w => yI st_60 h5_5 (idx_lt2 hx5_5 hL5_1) rfl) (tO (tY rfl (yl isAgg63 (hc5_2.cell (j := 0) rfl) rfl) (tAs hS (tO (tY rfl (yG rfl (y_lenS (m := (x5_2 : MapS Bool)) underlying63 h5_6 rfl rfl)) (tAn rfl (tP rfl (fun w => yB rfl) (tE (gJ hm (fun s5_1 => [(1, (pV b0_1)), (3, (pV b0_2)), (5, (.bool (s5_1.2))), (6, (nV xs4_1.2.2))]) (fun s5_1 => [blk b0_1 [(nV c_.params), (nV c_.regs), (sV b5_1 o5_1 c_.blocks.length c0_1)] 57, blk b0_2 [(nV c_.params), (nV c_.regs), (sV b5_1 o5_1 c_.blocks.length c0_1), (sV b5_2 o5_2 ys0_1.length c0_2), (.slice p0_3 xs0_1.length c0_3)] 113, ow [(sV b5_2 o5_2 ys0_1.length c0_2)] s5_1.1, ow [(.slice p0_3 xs0_1.length c0_3)] xs0_1, junk w0 hz]) (fun s5_1 => ?_) ?_)))))))))
       ·
        refine gsd 73 rfl (fun h6_3 => ?_) fun h6_3 => ?_
        ·
         refine gct rfl (gR (gM rfl (gY (yG rfl (y_nilptr rfl rfl)) (gF fo_113_1 rfl (gL hm 1 isAgg60 rfl (gM rfl (gM rfl ?_)))))))
         obtain ⟨_, _, hc6_2, hr6_1⟩ := ro_get' (hm.ow_rep 2 rfl) hx5_5
         have h6_4 := hr6_1
         obtain ⟨v6_2, rfl, -⟩ := id h6_4
         replace h6_4 : GT.rep (hp _) [v6_2] x5_2 := h6_4
         replace hc6_2 : CellsAt (hp _) b5_2 (o5_2 + (xs4_1.2.2).toNat * 1) [v6_2] := hc6_2
         have hL6_1 := rep_slice_len (hm.ow_rep 2 rfl)
         refine gI st_60 h5_5 (idx_lt2 hx5_5 hL6_1) rfl ?_
         have hcl6_1 := owm_cells hm 4 rfl
         replace hm := hm.imp (c' := ow [v5_1] (xs5_1 : MapS Bool)) 4 rfl (fun F h0 => own_owm h0)
         replace hm := hm.imp (c' := ow [v5_1] (xs5_1 : MapS Bool)) 4 rfl (fun F h0 => h0)
         replace hm := (hm.both 2 4 (by decide) rfl rfl).pk (L' := [blk b0_1 [(nV c_.params), (nV c_.regs), (sV b5_1 o5_1 c_.blocks.length c0_1)] 57, blk b0_2 [(nV c_.params), (nV c_.regs), (sV b5_1 o5_1 c_.blocks.length c0_1), (sV b5_2 o5_2 ys0_1.length c0_2), (.slice p0_3 xs0_1.length c0_3)] 113, both (ow [(sV b5_2 o5_2 ys0_1.length c0_2)] xs4_1.1) (ow [v5_1] (xs5_1 : MapS Bool)), ow [(.slice p0_3 xs0_1.length c0_3)] xs0_1, junk w0 hz]) [0, 1, 2, 3, 5] rfl rfl
         refine gf0 rfl (fun a hf => e_putElem (x1 := (xs5_1 : MapS Bool)) (vs := [v5_1]) 2 hf hm rfl hx5_5 rfl sizeOf63 rfl rfl hcl6_1 rfl) ?_
         rintro _ w hm
         have hx6_3 := List.getElem?_set_self (a := (xs5_1 : MapS Bool)) (idx_lt hx5_5)
         exact gA rfl (gE (gz hm [0, 1, 2, 3, 4] rfl))
        exact gcf rfl (gSk (gz hm [0, 1, 2, 3, 5] rfl))
       repeat clear hm
       intro s5_1 w hm
       exact gz hm [0, 1, 2, 3, 4] rfl
      repeat clear hm
      intro s4_1 w hm
      exact gR (gM rfl (gB rfl (gA rfl (gE (gze hm [0, 1, 2, 3, 4] rfl)))))
     exact gcf rfl (gXt (gHh (gLp ho3_1 hq3_1 (gz hm [0, 1, 2, 3, 4] rfl))))
    repeat clear hm
    intro s2_1 w hm
    exact gze hm [0, 1, 2, 3, 4] rfl
   exact gcf rfl (gXt (gHh (gLp ho1_2 hq1_1 (gz hm [1, 2, 3, 4] rfl))))
  repeat clear hm
  intro s0_1 w hm
  exact gS (gR (gM rfl (gA rfl (gE (gRt (gr1 results97 rfl ⟨b0_2, (.slice p0_1 c_.blocks.length c0_1), (.slice p0_2 ys0_1.length c0_2), (.slice p0_3 xs0_1.length c0_3), hz, rfl, (Heap.le_refl _), h1, hm.pk [3, 0, 1, 2] rfl rfl⟩))))))

theorem impl_clashing_ok (w0 : World) (c_ : Code_) (v1 : Value) (h1 : GT.rep (hp w0) [v1] c_.blocks) :
    ConM Tryz.prog 53 [(.agg #[(nV c_.params), (nV c_.regs), v1])] w0 (impl_clashing c_) fun r v w' => ∃ (x1 : Value), v = x1 ∧ Mem w0 (hp w0) w' [ow [x1] r] := by
  unfold impl_clashing
  refine gcon func53 rfl fun r => ?_
  have hm := Mem.start w0
  refine gS (gR (gBx hm rfl fun b0_1 w hm => gA rfl (gE (gS (gR (gF fo_57_1 rfl (gL hm 0 isAgg3 rfl (gb fun ys0_1 hx0_1 => ?_))))))))
  obtain ⟨⟨h0_11, h0_12⟩, h0_1e⟩ := makeM_some.1 hx0_1
  refine gf rfl (fun a hf => e_make (x0 := ((MapO.nil : MapO Bool) : MapO Bool)) et_60 (fun _ => own_nilO) hf hm rfl rfl rfl h0_11 (Int.le_refl _) h0_12) ?_
  rintro v0_1 w hm
  rw [h0_1e] at hm
  have h0_1l : (ys0_1.length : Int) = c_.regs := by rw [← h0_1e]; simp only [List.length_replicate]; omega
  refine gAl hm zeroValue60 rfl fun b0_2 w hm => gS1 hm 0 sizeOf60 (rep_one (hm.ow_rep 1 rfl)) rfl fun w hm => gE (gS (gS (gR (gL hm 0 isAgg60 rfl ?_))))
  obtain ⟨p0_1, c0_1, rfl, hl0_1⟩ := ro_slice (hm.ow_rep 1 rfl)
  refine gY (yV st_60 rfl) (gM rfl (gE (gBk (gNf hm (fun i1_1 xs1_1 => [(1, (pV b0_1)), (3, (pV b0_2)), (19, (nV ((ys0_1.length : Int)))), (20, (nV i1_1))]) (fun i1_1 xs1_1 => [blk b0_1 [(nV c_.params), (nV c_.regs), v1] 57, blk b0_2 [(.slice p0_1 ys0_1.length c0_1)] 60, ow [(.slice p0_1 ys0_1.length c0_1)] xs1_1]) [2, 0, 1] rfl ?_ ?_))))
  ·
   repeat clear hm
   intro _ _ i1_1 xs1_1 w hm hi0_1 hi0_2 q0_1 _
   refine gS (gR (gB rfl (gE (gS (go _ 21 rfl (decide_eq_true (by omega)) (gct rfl (gSk (gS (gBk (gS (gR (gM rfl (gA rfl (gE (gR (gL hm 1 isAgg60 rfl (gM rfl (gf rfl (fun a hf => e_mkM (β := Bool) hm rfl) ?_))))))))))))))))))
   rintro v1_1 w hm
   refine gg fun x1_1 h1_1 hx1_2 => ?_
   obtain ⟨b1_1, o1_1, c1_1, he⟩ := idx_form' (hm.ow_rep 3 rfl) hx1_2
   simp only [Value.slice.injEq, Option.some.injEq] at he; obtain ⟨rfl, _, rfl⟩ := he
   obtain ⟨_, _, hc1_1, hr1_1⟩ := ro_get' (hm.ow_rep 3 rfl) hx1_2
   have h1_2 := hr1_1
   obtain ⟨v1_2, rfl, -⟩ := id h1_2
   replace h1_2 : GT.rep (hp _) [v1_2] x1_1 := h1_2
   replace hc1_1 : CellsAt (hp _) b1_1 (o1_1 + (i1_1).toNat * 1) [v1_2] := hc1_1
   have hL1_1 := rep_slice_len (hm.ow_rep 3 rfl)
   refine gI st_60 h1_1 (idx_lt2 hx1_2 hL1_1) rfl ?_
   have hcl1_1 := owm_cells hm 0 rfl
   replace hm := hm.owm_owO 0 rfl
   replace hm := hm.imp (c' := ow [v1_1] (MapO.of (MapS.mk0 : MapS Bool) : MapO Bool)) 0 rfl (fun F h0 => h0)
   replace hm := (hm.both 3 0 (by decide) rfl rfl).pk (L' := [blk b0_1 [(nV c_.params), (nV c_.regs), v1] 57, blk b0_2 [(sV b1_1 o1_1 ys0_1.length c0_1)] 60, both (ow [(sV b1_1 o1_1 ys0_1.length c0_1)] xs1_1) (ow [v1_1] (MapO.of (MapS.mk0 : MapS Bool) : MapO Bool))]) [1, 2, 3] rfl rfl
   refine gf0 rfl (fun a hf => e_putElem (x1 := (MapO.of (MapS.mk0 : MapS Bool) : MapO Bool)) (vs := [v1_1]) 2 hf hm rfl hx1_2 rfl sizeOf63 rfl rfl hcl1_1 rfl) ?_
   rintro _ w hm
   have hx1_3 := List.getElem?_set_self (a := (MapO.of (MapS.mk0 : MapS Bool) : MapO Bool)) (idx_lt hx1_2)
   exact gE (gR (gP (by omega) (by omega) rfl (gM rfl (gE (gze hm [0, 1, 2] rfl)))))
  repeat clear hm
  intro i0_1 xs0_1 w hm hi0_3 hi0_4
  refine gS (gR (gB rfl (gE (gS (go _ 21 rfl (decide_eq_false (by omega)) (gcf rfl (gXt (gHh (gS (gR (gY (yU rfl) (gA rfl (gE (gS (gR (gY (yn (hm.blk_at 0 rfl) isAgg57 sizeOf57 rfl) (gCg rfl call97 (impl_liveOf_ok _ _ hm.lez c_ v1 h1 ) ?_)))))))))))))))))
  rintro r0_2 hx0_2 v0_2 w ⟨b0_3, v0_3, v0_4, v0_5, hz0_1, rfl, hle0_1, h0_2, hB⟩
  replace hm := Mem.giveA hm hle0_1 hB; clear hB
  refine gA rfl (gE (gS (gS (gR (gM rfl (gY (yG rfl (y_nilptr rfl rfl)) (gF fo_113_1 rfl (gL hm 0 isAgg60 rfl ?_))))))))
  obtain ⟨hz0_2, hle0_2, hz_r0_1, hm⟩ := hm.freeze 1 rfl
  replace hm := hm.pk (L' := [blk b0_3 [(nV r0_2.c.params), (nV r0_2.c.regs), v0_3, v0_4, v0_5] 113, ow [v0_5] r0_2.preds, blk b0_1 [(nV c_.params), (nV c_.regs), v1] 57, blk b0_2 [(.slice p0_1 ys0_1.length c0_1)] 60, ow [(.slice p0_1 ys0_1.length c0_1)] xs0_1]) [0, 2, 3, 4, 5] rfl rfl
  replace hz_r0_1 : GT.rep hz0_2 [v0_4] r0_2.ins := fz_ow hz_r0_1
  refine gg fun x0_1 h0_3 hx0_4 => ?_
  obtain ⟨b0_4, o0_1, c0_2, he⟩ := idx_form' hz_r0_1 hx0_4
  subst he
  obtain ⟨_, _, hc0_1, hr0_1⟩ := ro_get' hz_r0_1 hx0_4
  have h0_4 := hr0_1
  obtain ⟨v0_6, rfl, -⟩ := id h0_4
  replace h0_4 : GT.rep hz0_2 [v0_6] x0_1 := h0_4
  replace hc0_1 : CellsAt hz0_2 b0_4 (o0_1 + (0 : Int).toNat * 1) [v0_6] := hc0_1
  refine gI st_60 h0_3 (idx_lt hx0_4) rfl (gY (yl isAgg63 ((hc0_1.mono hm.lez).cell (j := 0) rfl) rfl) (gf rfl (fun a hf => e_rangeS (m := (x0_1 : MapS Bool)) hf hm underlying63 h0_4 rfl rfl) ?_))
  rintro _ w ⟨b0_5, rfl, hm⟩
  refine gE ?_
  obtain ⟨p0_2, c0_3, rfl, hl0_2⟩ := ro_slice (hm.ow_rep 2 rfl)
  refine gJg (fun s0_1 a w => ∃ (v0_7 : Value), St 108 [(1, (pV b0_1)), (3, (pV b0_2)), (5, (.func (.func 96) #[] #[(pV b0_2)])), (6, (pV b0_3))] w0 hz0_2 [blk b0_1 [(nV c_.params), (nV c_.regs), v1] 57, blk b0_2 [v0_7] 60, ow [v0_7] s0_1, blk b0_3 [(nV r0_2.c.params), (nV r0_2.c.regs), v0_3, (sV b0_4 o0_1 r0_2.ins.length c0_2), (.slice p0_2 r0_2.preds.length c0_3)] 113, ow [(.slice p0_2 r0_2.preds.length c0_3)] r0_2.preds] a w) (fun s0_1 => ?_) ?_
  ·
   refine gBk (gRng (m := (x0_1 : MapS Bool)) (by refine fun p q => (?_ : CommF _ _); (try dsimp only); repeat' (with_reducible first | exact Unt.cput_r | exact cf_some | refine Unt.cput_l ?_ | refine cf_post ?_ | refine cf_bind fun _ => ?_ | refine cf_ite ?_ ?_ | refine cf_range (fun _ => ?_) _)) h0_4 (fun sn2_1 xs2_1 a w => ∃ (v2_1 : Value), St 108 [(1, (pV b0_1)), (3, (pV b0_2)), (5, (.func (.func 96) #[] #[(pV b0_2)])), (6, (pV b0_3)), (37, (pV b0_5))] w0 hz0_2 [blk b0_1 [(nV c_.params), (nV c_.regs), v1] 57, blk b0_2 [v2_1] 60, ow [v2_1] xs2_1, blk b0_3 [(nV r0_2.c.params), (nV r0_2.c.regs), v0_3, (sV b0_4 o0_1 r0_2.ins.length c0_2), (.slice p0_2 r0_2.preds.length c0_3)] 113, ow [(.slice p0_2 r0_2.preds.length c0_3)] r0_2.preds, itc hz0_2 v0_6 b0_5 sn2_1] a w) (fun a hf => ⟨(.slice p0_1 ys0_1.length c0_1), hf.sb rfl, hm.pk [3, 4, 5, 1, 2, 0] rfl rfl⟩) ?_ ?_)
   ·
    repeat clear hm
    rintro sn2_1 xs2_1 a w ⟨v2_1, hf, hm⟩ hmo
    refine gv (m := some ()) (r := ()) hf ?_ rfl
    refine gS (gR (gf rfl (fun a hf => e_nextS 5 hf hm rfl hmo rfl rfl) ?_))
    rintro _ w ⟨bn2_1, p2_1, s2_1, rfl, hb2_1, hg2_1, hm⟩
    refine gSw hb2_1 (gX rfl (gE (gS (gct rfl (gSk (gBk (gS (gR (gY (yG rfl (y_entryS 5 hm rfl hg2_1 rfl rfl)) (gX rfl (gA rfl (gE (gS (gR (gM rfl (gY (yG rfl (y_nilptr rfl rfl)) (gF fo_113_1 rfl (gL hm 3 isAgg60 rfl (gI st_60 h0_3 (idx_lt hx0_4) rfl (gY (yl isAgg63 ((hc0_1.mono hm.lez).cell (j := 0) rfl) rfl) (gf rfl (fun a hf => e_rangeS (m := (x0_1 : MapS Bool)) hf hm underlying63 h0_4 rfl rfl) ?_)))))))))))))))))))))
    rintro _ w ⟨b2_1, rfl, hm⟩
    refine gE ?_
    obtain ⟨p2_2, c2_1, rfl, hl2_1⟩ := ro_slice (hm.ow_rep 3 rfl)
    refine gJg (fun s2_2 a w => ∃ (v2_2 : Value), St 108 [(1, (pV b0_1)), (3, (pV b0_2)), (5, (.func (.func 96) #[] #[(pV b0_2)])), (6, (pV b0_3)), (37, (pV b0_5))] w0 hz0_2 [blk b0_1 [(nV c_.params), (nV c_.regs), v1] 57, blk b0_2 [v2_2] 60, ow [v2_2] s2_2, blk b0_3 [(nV r0_2.c.params), (nV r0_2.c.regs), v0_3, (sV b0_4 o0_1 r0_2.ins.length c0_2), (.slice p0_2 r0_2.preds.length c0_3)] 113, ow [(.slice p0_2 r0_2.preds.length c0_3)] r0_2.preds, itc hz0_2 v0_6 b0_5 (Array.push sn2_1 bn2_1)] a w) (fun s2_2 => ?_) ?_
    ·
     refine gBk (gRng (m := (x0_1 : MapS Bool)) (by refine fun p q => (?_ : CommF _ _); (try dsimp only); repeat' (with_reducible first | exact Unt.cput_r | exact cf_some | refine Unt.cput_l ?_ | refine cf_post ?_ | refine cf_bind fun _ => ?_ | refine cf_ite ?_ ?_ | refine cf_range (fun _ => ?_) _)) h0_4 (fun sn4_1 xs4_1 a w => ∃ (v4_1 : Value), St 108 [(1, (pV b0_1)), (3, (pV b0_2)), (5, (.func (.func 96) #[] #[(pV b0_2)])), (6, (pV b0_3)), (7, (nV p2_1.1)), (37, (pV b0_5)), (48, (pV b2_1))] w0 hz0_2 [blk b0_1 [(nV c_.params), (nV c_.regs), v1] 57, blk b0_2 [v4_1] 60, ow [v4_1] xs4_1, blk b0_3 [(nV r0_2.c.params), (nV r0_2.c.regs), v0_3, (sV b0_4 o0_1 r0_2.ins.length c0_2), (.slice p0_2 r0_2.preds.length c0_3)] 113, ow [(.slice p0_2 r0_2.preds.length c0_3)] r0_2.preds, itc hz0_2 v0_6 b0_5 (Array.push sn2_1 bn2_1), itc hz0_2 v0_6 b2_1 sn4_1] a w) (fun a hf => ⟨(.slice p2_2 xs2_1.length c2_1), hf.sb rfl, hm.pk [1, 2, 3, 4, 5, 6, 0] rfl rfl⟩) ?_ ?_)
     ·
      repeat clear hm
      rintro sn4_1 xs4_1 a w ⟨v4_1, hf, hm⟩ hmo
      refine gv (m := some ()) (r := ()) hf ?_ rfl
      refine gS (gR (gf rfl (fun a hf => e_nextS 6 hf hm rfl hmo rfl rfl) ?_))
      rintro _ w ⟨bn4_1, p4_1, s4_1, rfl, hb4_1, hg4_1, hm⟩
      refine gSw hb4_1 (gX rfl (gE (gS (gct rfl (gSk (gJg (fun s4_2 a w => ∃ (v4_2 : Value), St 108 [(1, (pV b0_1)), (3, (pV b0_2)), (5, (.func (.func 96) #[] #[(pV b0_2)])), (6, (pV b0_3)), (7, (nV p2_1.1)), (37, (pV b0_5)), (48, (pV b2_1))] w0 hz0_2 [blk b0_1 [(nV c_.params), (nV c_.regs), v1] 57, blk b0_2 [v4_2] 60, ow [v4_2] s4_2, blk b0_3 [(nV r0_2.c.params), (nV r0_2.c.regs), v0_3, (sV b0_4 o0_1 r0_2.ins.length c0_2), (.slice p0_2 r0_2.preds.length c0_3)] 113, ow [(.slice p0_2 r0_2.preds.length c0_3)] r0_2.preds, itc hz0_2 v0_6 b0_5 (Array.push sn2_1 bn2_1), itc hz0_2 v0_6 b2_1 (Array.push sn4_1 bn4_1)] a w) (fun s4_2 => ?_) ?_))))))
      ·
       refine gBk (gS (gR (gY (yG rfl (y_entryS 6 hm rfl hg4_1 rfl rfl)) (gX rfl (gA rfl (gE (gS (gR (gM rfl (gF fo_57_0 rfl (gL hm 0 isAgg3 rfl (gB rfl (gE (gJg (fun s5_1 a w => ∃ (v5_1 : Value), St 108 [(1, (pV b0_1)), (3, (pV b0_2)), (5, (.func (.func 96) #[] #[(pV b0_2)])), (6, (pV b0_3)), (7, (nV p2_1.1)), (37, (pV b0_5)), (48, (pV b2_1))] w0 hz0_2 [blk b0_1 [(nV c_.params), (nV c_.regs), v1] 57, blk b0_2 [v5_1] 60, ow [v5_1] s5_1, blk b0_3 [(nV r0_2.c.params), (nV r0_2.c.regs), v0_3, (sV b0_4 o0_1 r0_2.ins.length c0_2), (.slice p0_2 r0_2.preds.length c0_3)] 113, ow [(.slice p0_2 r0_2.preds.length c0_3)] r0_2.preds, itc hz0_2 v0_6 b0_5 (Array.push sn2_1 bn2_1), itc hz0_2 v0_6 b2_1 (Array.push sn4_1 bn4_1)] a w) (fun s5_1 => ?_) ?_))))))))))))))
       ·
        refine gsd 56 rfl (fun h6_1 => ?_) fun h6_1 => ?_
        ·
         refine gct rfl (gR (gM rfl (gM rfl (gM rfl ?_))))
         obtain ⟨hz6_1, hle, hm1, hsub, hk6_1⟩ := hm.take2 (L1 := [blk b0_2 [v4_1] 60, ow [v4_1] xs4_1]) (L2 := [blk b0_1 [(nV c_.params), (nV c_.regs), v1] 57, blk b0_3 [(nV r0_2.c.params), (nV r0_2.c.regs), v0_3, (sV b0_4 o0_1 r0_2.ins.length c0_2), (.slice p0_2 r0_2.preds.length c0_3)] 113, ow [(.slice p0_2 r0_2.preds.length c0_3)] r0_2.preds, itc hz0_2 v0_6 b0_5 (Array.push sn2_1 bn2_1), itc hz0_2 v0_6 b2_1 (Array.push sn4_1 bn4_1)]) [1, 2] [0, 3, 4, 5, 6] (by decide) rfl rfl
         refine gb fun r6_1 hx6_1 => gf rfl (fun a hf => e_callv hf rfl rfl rfl ⟨96, [(pV b0_2)], rfl, call96, impl_clashing_1_ok _ hz6_1 p2_1.1 p4_1.1 xs4_1 b0_2 v4_1 hm1  _ hx6_1⟩) ?_
         rintro v6_1 w ⟨v6_2, rfl, hB⟩
         replace hm := hk6_1 _ _ hB; clear hB
         exact gE (gZ fun a hf => ⟨v6_2, hf.sb rfl, hm.pk [2, 0, 1, 3, 4, 5, 6] rfl rfl⟩)
        exact gcf rfl (gSk (gZ fun a hf => ⟨v4_1, hf.sb rfl, hm.pk [0, 1, 2, 3, 4, 5, 6] rfl rfl⟩))
       repeat clear hm
       rintro s5_1 a w ⟨v5_1, hf, hm⟩
       exact gv hf (gZ fun a hf => ⟨v5_1, hf.sb rfl, hm.pk [0, 1, 2, 3, 4, 5, 6] rfl rfl⟩)
      repeat clear hm
      rintro s4_2 a w ⟨v4_2, hf, hm⟩
      exact gv hf (gZr hg4_1 hb4_1 fun a hf => ⟨v4_2, hf.sb rfl, hm.pk [0, 1, 2, 3, 4, 5, 6] rfl rfl⟩)
     repeat clear hm
     rintro sn3_1 xs3_1 a w ⟨v3_1, hf, hm⟩ hno hk
     refine gv hf ?_ hk
     exact gS (gR (gY (yG rfl (y_nextE 6 hm rfl hno rfl rfl)) (gX rfl (gE (gS (gcf rfl (gXt (gHh (gZ fun a hf => ⟨v3_1, hf.sb rfl, hm.pk [0, 1, 2, 3, 4, 5] rfl rfl⟩)))))))))
    repeat clear hm
    rintro s2_2 a w ⟨v2_2, hf, hm⟩
    exact gv hf (gZr hg2_1 hb2_1 fun a hf => ⟨v2_2, hf.sb rfl, hm.pk [0, 1, 2, 3, 4, 5] rfl rfl⟩)
   repeat clear hm
   rintro sn1_1 xs1_2 a w ⟨v1_3, hf, hm⟩ hno hk
   refine gv hf ?_ hk
   exact gS (gR (gY (yG rfl (y_nextE 5 hm rfl hno rfl rfl)) (gX rfl (gE (gS (gcf rfl (gXt (gHh (gZ fun a hf => ⟨v1_3, hf.sb rfl, hm.pk [0, 1, 2, 3, 4] rfl rfl⟩)))))))))
  repeat clear hm
  rintro s0_1 a w ⟨v0_7, hf, hm⟩
  refine gv hf (gS (gS (gR (gF fo_57_2 rfl (gL hm 0 isAgg55 rfl ?_)))))
  obtain ⟨p0_3, c0_4, rfl, hl0_3⟩ := ro_slice h1
  refine gY (yV st_55 rfl) (gM rfl (gE ?_))
  obtain ⟨p0_4, c0_5, rfl, hl0_4⟩ := ro_slice (hm.ow_rep 2 rfl)
  refine gBk (gNg (fun i1_2 xs1_3 a w => ∃ (hz1_1 : Heap) (v1_4 : Value), Heap.le hz0_2 hz1_1 ∧ St 108 [(3, (pV b0_2)), (5, (.func (.func 96) #[] #[(pV b0_2)])), (6, (pV b0_3)), (62, (.slice p0_3 c_.blocks.length c0_4)), (63, (nV ((c_.blocks.length : Int)))), (64, (nV i1_2))] w0 hz1_1 [blk b0_2 [v1_4] 60, ow [v1_4] xs1_3, blk b0_3 [(nV r0_2.c.params), (nV r0_2.c.regs), v0_3, (sV b0_4 o0_1 r0_2.ins.length c0_2), (.slice p0_2 r0_2.preds.length c0_3)] 113, ow [(.slice p0_2 r0_2.preds.length c0_3)] r0_2.preds] a w) (fun a hf => ⟨hz0_2, (.slice p0_4 s0_1.length c0_5), (Heap.le_refl _), hf.sb rfl, hm.pk [1, 2, 3, 4] rfl rfl⟩) ?_ ?_)
  ·
   repeat clear hm
   rintro _ _ i1_2 xs1_3 a w ⟨hz1_1, v1_4, hle1_1, hf, hm⟩ hi0_5 hi0_6 q0_2 _
   refine gv hf (gS (gR (gB rfl (gE (gS (go _ 65 rfl (decide_eq_true (by omega)) (gct rfl (gSk (gS (gBk (gS (gR (gM rfl (gg fun x1_2 h1_3 hx1_5 => ?_))))))))))))))
   obtain ⟨b1_2, o1_2, c1_2, he⟩ := idx_form' h1 hx1_5
   simp only [Value.slice.injEq, Option.some.injEq] at he; obtain ⟨rfl, _, rfl⟩ := he
   obtain ⟨v1_5, v1_6, v1_7, hc1_2, h1_4, h1_5, h1_6⟩ := rk_Block_ h1 hx1_5
   refine gI st_55 h1_3 (idx_lt hx1_5) rfl (gY (yn (hc1_2.mono (Heap.le_trans (Heap.le_trans (Heap.le_trans hle0_1 hle0_2) hle1_1) hm.lez)) isAgg104 sizeOf104 rfl) (gAl hm zeroValue104 rfl fun b1_3 w hm => gA rfl (gSN hm 0 sizeOf104 (one_cons (rep_one h1_4) (one_cons (rep_one h1_5) (one_cons rfl (one_cons rfl (one_cons (rep_one h1_6) one_nil))))) rfl fun w hm => gE (gS (gR (gF fo_104_1 rfl (gL hm 0 isAgg102 rfl ?_)))))))
   obtain ⟨p1_1, c1_3, rfl, hl1_1⟩ := ro_slice h1_5
   refine gY (yV st_102 rfl) (gM rfl (gE ?_))
   obtain ⟨p1_2, c1_4, rfl, hl1_2⟩ := ro_slice (hm.ow_rep 2 rfl)
   refine gBk (gNg (fun i2_1 xs2_2 a w => ∃ (hz2_1 : Heap) (v2_3 : Value), Heap.le hz1_1 hz2_1 ∧ St 108 [(3, (pV b0_2)), (5, (.func (.func 96) #[] #[(pV b0_2)])), (6, (pV b0_3)), (9, (nV i1_2)), (62, (sV b1_2 o1_2 c_.blocks.length c0_4)), (63, (nV ((c_.blocks.length : Int)))), (64, (nV i1_2)), (70, (.slice p1_1 x1_2.ins.length c1_3)), (71, (nV ((x1_2.ins.length : Int)))), (72, (nV i2_1))] w0 hz2_1 [blk b0_2 [v2_3] 60, ow [v2_3] xs2_2, blk b0_3 [(nV r0_2.c.params), (nV r0_2.c.regs), v0_3, (sV b0_4 o0_1 r0_2.ins.length c0_2), (.slice p0_2 r0_2.preds.length c0_3)] 113, ow [(.slice p0_2 r0_2.preds.length c0_3)] r0_2.preds] a w) (fun a hf => ⟨hz1_1, (.slice p1_2 xs1_3.length c1_4), (Heap.le_refl _), hf.sb rfl, hm.pk [1, 2, 3, 4] rfl rfl⟩) ?_ ?_)
   ·
    repeat clear hm
    rintro _ _ i2_1 xs2_2 a w ⟨hz2_1, v2_3, hle2_1, hf, hm⟩ hi1_1 hi1_2 q1_1 _
    refine gv hf (gS (gR (gB rfl (gE (gS (go _ 73 rfl (decide_eq_true (by omega)) (gct rfl (gSk (gS (gJg (fun s2_3 a w => ∃ (hz2_2 : Heap) (v2_4 : Value), Heap.le hz2_1 hz2_2 ∧ St 108 [(3, (pV b0_2)), (5, (.func (.func 96) #[] #[(pV b0_2)])), (6, (pV b0_3)), (9, (nV i1_2)), (62, (sV b1_2 o1_2 c_.blocks.length c0_4)), (63, (nV ((c_.blocks.length : Int)))), (64, (nV i1_2)), (70, (.slice p1_1 x1_2.ins.length c1_3)), (71, (nV ((x1_2.ins.length : Int)))), (72, (nV i2_1))] w0 hz2_2 [blk b0_2 [v2_4] 60, ow [v2_4] s2_3, blk b0_3 [(nV r0_2.c.params), (nV r0_2.c.regs), v0_3, (sV b0_4 o0_1 r0_2.ins.length c0_2), (.slice p0_2 r0_2.preds.length c0_3)] 113, ow [(.slice p0_2 r0_2.preds.length c0_3)] r0_2.preds] a w) (fun s2_3 => ?_) ?_))))))))))
    ·
     refine gBk (gS (gR (gM rfl (gg fun x3_1 h3_1 hx3_2 => ?_))))
     obtain ⟨b3_1, o3_1, c3_1, he⟩ := idx_form' h1_5 hx3_2
     simp only [Value.slice.injEq, Option.some.injEq] at he; obtain ⟨rfl, _, rfl⟩ := he
     obtain ⟨v3_2, hc3_1, h3_2⟩ := rk_Ins_ h1_5 hx3_2
     refine gI st_102 h3_1 (idx_lt hx3_2) rfl (gY (yn (hc3_1.mono (Heap.le_trans (Heap.le_trans (Heap.le_trans (Heap.le_trans hle0_1 hle0_2) hle1_1) hle2_1) hm.lez)) isAgg106 sizeOf106 rfl) (gAl hm zeroValue106 rfl fun b3_2 w hm => gA rfl (gSN hm 0 sizeOf106 (one_cons rfl (one_cons rfl (one_cons (rep_one h3_2) (one_cons rfl one_nil)))) rfl fun w hm => gE (gS (gR (gY (yn (hm.blk_at 0 rfl) isAgg106 sizeOf106 rfl) (gC hm rfl call98 (impl_MadeBy_ok _ x3_1 v3_2 (hm.now (GT.mono (Heap.le_trans (Heap.le_trans (Heap.le_trans hle0_1 hle0_2) hle1_1) hle2_1) h3_2))) fun r3_1 hx3_3 w hm => gA rfl (gE (gS (gS (gR (gM rfl (gB rfl (gE (gsd 80 rfl (fun h3_3 => ?_) fun h3_3 => ?_)))))))))))))))
     ·
      exact gct rfl (gXt (gHh (gZ fun a hf => ⟨hz2_1, v2_3, (Heap.le_refl _), hf.sb rfl, hm.pk [1, 2, 3, 4] rfl rfl⟩)))
     refine gcf rfl (gSk (gS (gR (gM rfl (gM rfl (gM rfl (gCg rfl call99 (pimpl_live__behind_ok _ r0_2 b0_3 v0_3 (hm.now (GT.mono (Heap.le_trans (Heap.le_trans hle0_2 hle1_1) hle2_1) h0_2)) (sV b0_4 o0_1 r0_2.ins.length c0_2) (hm.now (GT.mono (Heap.le_trans hle1_1 hle2_1) hz_r0_1)) (.slice p0_2 r0_2.preds.length c0_3) (hm.ow_rep 4 rfl) (hm.blk_cells 3 rfl).1 i1_2 i2_1) ?_)))))))
     rintro r3_2 hx3_4 v3_4 w ⟨_, rfl, hB⟩
     replace hm := hm.give hB; clear hB
     obtain ⟨hz3_2, hle3_2, hz_r3_1, hm⟩ := hm.freeze 0 rfl
     replace hm := hm.pk (L' := [blk b3_2 [(nV x3_1.op), (nV x3_1.to), v3_2, (nV x3_1.n_)] 106, blk b0_2 [v2_3] 60, ow [v2_3] xs2_2, blk b0_3 [(nV r0_2.c.params), (nV r0_2.c.regs), v0_3, (sV b0_4 o0_1 r0_2.ins.length c0_2), (.slice p0_2 r0_2.preds.length c0_3)] 113, ow [(.slice p0_2 r0_2.preds.length c0_3)] r0_2.preds]) [1, 2, 3, 4, 5] rfl rfl
     replace hz_r3_1 : GT.rep hz3_2 [v3_4] r3_2 := fz_owm hz_r3_1
     refine gf rfl (fun a hf => e_rangeS (m := (r3_2 : MapS Bool)) hf hm underlying63 hz_r3_1 rfl rfl) ?_
     rintro _ w ⟨b3_3, rfl, hm⟩
     refine gE ?_
     obtain ⟨p3_1, c3_2, rfl, hl3_1⟩ := ro_slice (hm.ow_rep 3 rfl)
     refine gJg (fun s3_1 a w => ∃ (v3_6 : Value), St 108 [(3, (pV b0_2)), (5, (.func (.func 96) #[] #[(pV b0_2)])), (6, (pV b0_3)), (9, (nV i1_2)), (62, (sV b1_2 o1_2 c_.blocks.length c0_4)), (63, (nV ((c_.blocks.length : Int)))), (64, (nV i1_2)), (70, (sV b3_1 o3_1 x1_2.ins.length c1_3)), (71, (nV ((x1_2.ins.length : Int)))), (72, (nV i2_1))] w0 hz3_2 [blk b0_2 [v3_6] 60, ow [v3_6] s3_1, blk b0_3 [(nV r0_2.c.params), (nV r0_2.c.regs), v0_3, (sV b0_4 o0_1 r0_2.ins.length c0_2), (.slice p0_2 r0_2.preds.length c0_3)] 113, ow [(.slice p0_2 r0_2.preds.length c0_3)] r0_2.preds] a w) (fun s3_1 => ?_) ?_
     ·
      refine gBk (gRng (m := (r3_2 : MapS Bool)) (by refine fun p q => (?_ : CommF _ _); (try dsimp only); repeat' (with_reducible first | exact Unt.cput_r | exact cf_some | refine Unt.cput_l ?_ | refine cf_post ?_ | refine cf_bind fun _ => ?_ | refine cf_ite ?_ ?_ | refine cf_range (fun _ => ?_) _)) hz_r3_1 (fun sn5_1 xs5_1 a w => ∃ (v5_2 : Value), St 108 [(3, (pV b0_2)), (5, (.func (.func 96) #[] #[(pV b0_2)])), (6, (pV b0_3)), (9, (nV i1_2)), (12, (pV b3_2)), (13, (nV r3_1)), (62, (sV b1_2 o1_2 c_.blocks.length c0_4)), (63, (nV ((c_.blocks.length : Int)))), (64, (nV i1_2)), (70, (sV b3_1 o3_1 x1_2.ins.length c1_3)), (71, (nV ((x1_2.ins.length : Int)))), (72, (nV i2_1)), (85, (pV b3_3))] w0 hz3_2 [blk b0_2 [v5_2] 60, ow [v5_2] xs5_1, blk b0_3 [(nV r0_2.c.params), (nV r0_2.c.regs), v0_3, (sV b0_4 o0_1 r0_2.ins.length c0_2), (.slice p0_2 r0_2.preds.length c0_3)] 113, ow [(.slice p0_2 r0_2.preds.length c0_3)] r0_2.preds, blk b3_2 [(nV x3_1.op), (nV x3_1.to), v3_2, (nV x3_1.n_)] 106, itc hz3_2 v3_4 b3_3 sn5_1] a w) (fun a hf => ⟨(.slice p3_1 xs2_2.length c3_2), hf.sb rfl, hm.pk [2, 3, 4, 5, 1, 0] rfl rfl⟩) ?_ ?_)
      ·
       repeat clear hm
       rintro sn5_1 xs5_1 a w ⟨v5_2, hf, hm⟩ hmo
       refine gv (m := some ()) (r := ()) hf ?_ rfl
       refine gS (gR (gf rfl (fun a hf => e_nextS 5 hf hm rfl hmo rfl rfl) ?_))
       rintro _ w ⟨bn5_1, p5_1, s5_2, rfl, hb5_1, hg5_1, hm⟩
       refine gSw hb5_1 (gX rfl (gE (gS (gct rfl (gSk (gJg (fun s5_3 a w => ∃ (v5_3 : Value), St 108 [(3, (pV b0_2)), (5, (.func (.func 96) #[] #[(pV b0_2)])), (6, (pV b0_3)), (9, (nV i1_2)), (12, (pV b3_2)), (13, (nV r3_1)), (62, (sV b1_2 o1_2 c_.blocks.length c0_4)), (63, (nV ((c_.blocks.length : Int)))), (64, (nV i1_2)), (70, (sV b3_1 o3_1 x1_2.ins.length c1_3)), (71, (nV ((x1_2.ins.length : Int)))), (72, (nV i2_1)), (85, (pV b3_3))] w0 hz3_2 [blk b0_2 [v5_3] 60, ow [v5_3] s5_3, blk b0_3 [(nV r0_2.c.params), (nV r0_2.c.regs), v0_3, (sV b0_4 o0_1 r0_2.ins.length c0_2), (.slice p0_2 r0_2.preds.length c0_3)] 113, ow [(.slice p0_2 r0_2.preds.length c0_3)] r0_2.preds, blk b3_2 [(nV x3_1.op), (nV x3_1.to), v3_2, (nV x3_1.n_)] 106, itc hz3_2 v3_4 b3_3 (Array.push sn5_1 bn5_1)] a w) (fun s5_3 => ?_) ?_))))))
       ·
        refine gBk (gS (gR (gY (yG rfl (y_entryS 5 hm rfl hg5_1 rfl rfl)) (gX rfl (gA rfl (gE (gS (gJ hm (fun s6_1 => [(3, (pV b0_2)), (5, (.func (.func 96) #[] #[(pV b0_2)])), (6, (pV b0_3)), (9, (nV i1_2)), (12, (pV b3_2)), (13, (nV r3_1)), (14, (nV p5_1.1)), (62, (sV b1_2 o1_2 c_.blocks.length c0_4)), (63, (nV ((c_.blocks.length : Int)))), (64, (nV i1_2)), (70, (sV b3_1 o3_1 x1_2.ins.length c1_3)), (71, (nV ((x1_2.ins.length : Int)))), (72, (nV i2_1)), (85, (pV b3_3)), (100, (.bool (s6_1)))]) (fun s6_1 => [blk b0_2 [v5_2] 60, ow [v5_2] xs5_1, blk b0_3 [(nV r0_2.c.params), (nV r0_2.c.regs), v0_3, (sV b0_4 o0_1 r0_2.ins.length c0_2), (.slice p0_2 r0_2.preds.length c0_3)] 113, ow [(.slice p0_2 r0_2.preds.length c0_3)] r0_2.preds, blk b3_2 [(nV x3_1.op), (nV x3_1.to), v3_2, (nV x3_1.n_)] 106, itc hz3_2 v3_4 b3_3 (Array.push sn5_1 bn5_1)]) (fun s6_1 => ?_) ?_))))))))
        ·
         refine gR (gF fo_106_0 rfl (gL hm 4 isAgg3 rfl (gB rfl (gM rfl (gsd 93 rfl (fun h7_1 => ?_) fun h7_1 => ?_)))))
         ·
          exact gO rfl (gO rfl (gO rfl (gO rfl (gO rfl (gO rfl (gKt rfl (gE (gz hm [0, 1, 2, 3, 4, 5] rfl))))))))
         refine gF fo_106_2 rfl (gL hm 4 isAgg37 rfl (gg fun x7_1 h7_2 hx7_2 => ?_))
         obtain ⟨b7_1, o7_1, c7_1, he⟩ := idx_form h3_2 hx7_2
         subst he
         exact gI st_37 h7_2 (idx_lt hx7_2) rfl (gY (yl isAgg3 ((flat_cells (cs := [(nV x7_1)]) (hm.now (GT.mono (Heap.le_trans (Heap.le_trans (Heap.le_trans (Heap.le_trans hle0_1 hle0_2) hle1_1) hle2_1) hle3_2) h3_2)) hx7_2 rfl).cell (j := 0) rfl) rfl) (gM rfl (gB rfl (gKf rfl (gE (gz hm [0, 1, 2, 3, 4, 5] rfl))))))
        repeat clear hm
        intro s6_1 w hm
        refine gJg (fun s6_2 a w => ∃ (v6_3 : Value), St 108 [(3, (pV b0_2)), (5, (.func (.func 96) #[] #[(pV b0_2)])), (6, (pV b0_3)), (9, (nV i1_2)), (12, (pV b3_2)), (13, (nV r3_1)), (62, (sV b1_2 o1_2 c_.blocks.length c0_4)), (63, (nV ((c_.blocks.length : Int)))), (64, (nV i1_2)), (70, (sV b3_1 o3_1 x1_2.ins.length c1_3)), (71, (nV ((x1_2.ins.length : Int)))), (72, (nV i2_1)), (85, (pV b3_3))] w0 hz3_2 [blk b0_2 [v6_3] 60, ow [v6_3] s6_2, blk b0_3 [(nV r0_2.c.params), (nV r0_2.c.regs), v0_3, (sV b0_4 o0_1 r0_2.ins.length c0_2), (.slice p0_2 r0_2.preds.length c0_3)] 113, ow [(.slice p0_2 r0_2.preds.length c0_3)] r0_2.preds, blk b3_2 [(nV x3_1.op), (nV x3_1.to), v3_2, (nV x3_1.n_)] 106, itc hz3_2 v3_4 b3_3 (Array.push sn5_1 bn5_1)] a w) (fun s6_2 => ?_) ?_
        ·
         refine gs 100 rfl (fun h7_3 => ?_) fun h7_3 => ?_
         ·
          refine gct rfl (gR (gM rfl (gM rfl (gM rfl ?_))))
          obtain ⟨hz7_1, hle, hm1, hsub, hk7_1⟩ := hm.take2 (L1 := [blk b0_2 [v5_2] 60, ow [v5_2] xs5_1]) (L2 := [blk b0_3 [(nV r0_2.c.params), (nV r0_2.c.regs), v0_3, (sV b0_4 o0_1 r0_2.ins.length c0_2), (.slice p0_2 r0_2.preds.length c0_3)] 113, ow [(.slice p0_2 r0_2.preds.length c0_3)] r0_2.preds, blk b3_2 [(nV x3_1.op), (nV x3_1.to), v3_2, (nV x3_1.n_)] 106, itc hz3_2 v3_4 b3_3 (Array.push sn5_1 bn5_1)]) [0, 1] [2, 3, 4, 5] (by decide) rfl rfl
          refine gb fun r7_1 hx7_3 => gf rfl (fun a hf => e_callv hf rfl rfl rfl ⟨96, [(pV b0_2)], rfl, call96, impl_clashing_1_ok _ hz7_1 r3_1 p5_1.1 xs5_1 b0_2 v5_2 hm1  _ hx7_3⟩) ?_
          rintro v7_1 w ⟨v7_2, rfl, hB⟩
          replace hm := hk7_1 _ _ hB; clear hB
          exact gE (gZ fun a hf => ⟨v7_2, hf.sb rfl, hm.pk [0, 1, 2, 3, 4, 5] rfl rfl⟩)
         exact gcf rfl (gSk (gZ fun a hf => ⟨v5_2, hf.sb rfl, hm.pk [0, 1, 2, 3, 4, 5] rfl rfl⟩))
        repeat clear hm
        rintro s6_2 a w ⟨v6_3, hf, hm⟩
        exact gv hf (gZ fun a hf => ⟨v6_3, hf.sb rfl, hm.pk [0, 1, 2, 3, 4, 5] rfl rfl⟩)
       repeat clear hm
       rintro s5_3 a w ⟨v5_3, hf, hm⟩
       exact gv hf (gZr hg5_1 hb5_1 fun a hf => ⟨v5_3, hf.sb rfl, hm.pk [0, 1, 2, 3, 4, 5] rfl rfl⟩)
      repeat clear hm
      rintro sn4_2 xs4_2 a w ⟨v4_3, hf, hm⟩ hno hk
      refine gv hf ?_ hk
      exact gS (gR (gY (yG rfl (y_nextE 5 hm rfl hno rfl rfl)) (gX rfl (gE (gS (gcf rfl (gXt (gHh (gZ fun a hf => ⟨v4_3, hf.sb rfl, hm.pk [0, 1, 2, 3] rfl rfl⟩)))))))))
     repeat clear hm
     rintro s3_1 a w ⟨v3_6, hf, hm⟩
     exact gv hf (gZ fun a hf => ⟨hz3_2, v3_6, hle3_2, hf.sb rfl, hm.pk [0, 1, 2, 3] rfl rfl⟩)
    repeat clear hm
    rintro s2_3 a w ⟨hz2_2, v2_4, hle2_2, hf, hm⟩
    exact gv hf (gR (gP (by omega) (by omega) rfl (gM rfl (gE (gZe fun a hf => ⟨hz2_2, v2_4, (Heap.le_trans hle2_1 hle2_2), hf.sb rfl, hm.pk [0, 1, 2, 3] rfl rfl⟩)))))
   repeat clear hm
   rintro i1_3 xs1_4 a w ⟨hz1_2, v1_8, hle1_2, hf, hm⟩ hi1_3 hi1_4
   exact gv hf (gS (gR (gB rfl (gE (gS (go _ 73 rfl (decide_eq_false (by omega)) (gcf rfl (gXt (gHh (gR (gP (by omega) (by omega) rfl (gM rfl (gE (gZe fun a hf => ⟨hz1_2, v1_8, (Heap.le_trans hle1_1 hle1_2), hf.sb rfl, hm.pk [0, 1, 2, 3] rfl rfl⟩))))))))))))))
  repeat clear hm
  rintro i0_2 xs0_2 a w ⟨hz0_3, v0_8, hle0_3, hf, hm⟩ hi0_7 hi0_8
  refine gv hf (gS (gR (gB rfl (gE (gS (go _ 65 rfl (decide_eq_false (by omega)) (gcf rfl (gXt (gHh (gS (gR (gL hm 0 isAgg60 rfl (gA rfl (gE (gRt ?_)))))))))))))))
  replace hm := hm.ow_toS 1 rfl
  replace hm := hm.thaw (Heap.le_trans (Heap.le_trans hle0_1 hle0_2) hle0_3)
  exact gr1 results53 rfl ⟨v0_8, rfl, hm.pk [1] rfl rfl⟩

theorem impl_coloured_ok (w0 : World) (c_ : Code_) (v1 : Value) (h1 : GT.rep (hp w0) [v1] c_.blocks) (most : Int) :
    ConM Tryz.prog 64 [(.agg #[(nV c_.params), (nV c_.regs), v1]), (nV most)] w0 (impl_coloured c_ most) fun r v w' => ∃ (x1 : Value), v = x1 ∧ Mem w0 (hp w0) w' [ow [x1] r] := by
  unfold impl_coloured
  refine gconM func64 rfl fun r => ?_
  have hm := Mem.start w0
  refine gS (gR (gBx hm rfl fun b0_1 w hm => gBx hm rfl fun b0_2 w hm => gA rfl (gE (gS (gR (gY (yn (hm.blk_at 1 rfl) isAgg57 sizeOf57 rfl) (gCg rfl call53 (impl_clashing_ok _ c_ v1 (hm.now h1)) ?_)))))))
  rintro r0_1 hx0_1 v0_1 w ⟨_, rfl, hB⟩
  replace hm := hm.give hB; clear hB
  refine gAl hm zeroValue60 rfl fun b0_3 w hm => gS1 hm 0 sizeOf60 (rep_one (hm.ow_rep 1 rfl)) rfl fun w hm => gE (gS (gR (gF fo_57_1 rfl (gL hm 3 isAgg3 rfl (gb fun ys0_1 hx0_2 => ?_)))))
  obtain ⟨⟨h0_11, h0_12⟩, h0_1e⟩ := makeM_some.1 hx0_2
  refine gf rfl (fun a hf => e_make (x0 := (0 : Int)) et_37 (fun _ => (Flat.own_iff.2 rfl)) hf hm rfl rfl rfl h0_11 (Int.le_refl _) h0_12) ?_
  rintro v0_3 w hm
  rw [h0_1e] at hm
  have h0_1l : (ys0_1.length : Int) = c_.regs := by rw [← h0_1e]; simp only [List.length_replicate]; omega
  refine gAl hm zeroValue37 rfl fun b0_4 w hm => gS1 hm 0 sizeOf37 (rep_one (hm.ow_rep 1 rfl)) rfl fun w hm => gE (gS (gR (gF fo_57_1 rfl (gL hm 5 isAgg3 rfl (gb fun ys0_2 hx0_3 => ?_)))))
  obtain ⟨⟨h0_21, h0_22⟩, h0_2e⟩ := makeM_some.1 hx0_3
  refine gf rfl (fun a hf => e_make (x0 := (false : Bool)) et_58 (fun _ => (Flat.own_iff.2 rfl)) hf hm rfl rfl rfl h0_21 (Int.le_refl _) h0_22) ?_
  rintro v0_4 w hm
  rw [h0_2e] at hm
  have h0_2l : (ys0_2.length : Int) = c_.regs := by rw [← h0_2e]; simp only [List.length_replicate]; omega
  refine gA rfl (gE (gS (gR (gA rfl (gE (gS (gS (gR (gF fo_57_1 rfl (gL hm 6 isAgg3 rfl (gM rfl (gE ?_))))))))))))
  obtain ⟨hz0_2, hle0_2, hz_r0_1, hm⟩ := hm.freeze 4 rfl
  replace hm := hm.pk (L' := [ow [v0_4] ys0_2, blk b0_4 [v0_3] 37, ow [v0_3] ys0_1, blk b0_3 [v0_1] 60, blk b0_2 [(nV most)] 3, blk b0_1 [(nV c_.params), (nV c_.regs), v1] 57]) [0, 1, 2, 3, 5, 6] rfl rfl
  replace hz_r0_1 : GT.rep hz0_2 [v0_1] r0_1 := fz_ow hz_r0_1
  obtain ⟨p0_1, c0_1, rfl, hl0_1⟩ := ro_slice (hm.ow_rep 2 rfl)
  obtain ⟨p0_2, c0_2, rfl, hl0_2⟩ := ro_slice (hm.ow_rep 0 rfl)
  refine gBk (gb fun _ hfit0_1 => ?_)
  replace hfit0_1 := fitI_some.1 hfit0_1
  replace hm := hm.nilow (α := Int)
  refine gNg (fun i1_1 xs1_1 a w => ∃ (v1_1 : Value), St 117 [(3, (pV b0_2)), (5, (pV b0_3)), (6, (pV b0_4)), (7, (.slice p0_2 ys0_2.length c0_2)), (8, v1_1), (30, (nV c_.regs)), (31, (nV i1_1))] w0 hz0_2 [blk b0_2 [(nV most)] 3, blk b0_3 [v0_1] 60, blk b0_4 [(.slice p0_1 ys0_1.length c0_1)] 37, ow [(.slice p0_1 ys0_1.length c0_1)] ys0_1, ow [(.slice p0_2 ys0_2.length c0_2)] xs1_1.1, ow [v1_1] xs1_1.2] a w) (fun a hf => ⟨(.slice none 0 0), hf.sb rfl, hm.pk [5, 4, 2, 3, 1, 0] rfl rfl⟩) ?_ ?_
  ·
   repeat clear hm
   rintro _ _ i1_1 xs1_1 a w ⟨v1_1, hf, hm⟩ hi0_1 hi0_2 q0_1 _
   refine gv hf (gS (gR (gB rfl (gE (gS (go _ 32 rfl (decide_eq_true (by omega)) (gct rfl (gSk (gS (gBk (gS (gR (gA rfl (gA rfl (gE (gS (gS (gR (gL hm 1 isAgg60 rfl ?_)))))))))))))))))))
   obtain ⟨p1_1, c1_1, rfl, hl1_1⟩ := ro_slice hz_r0_1
   refine gY (yV st_60 rfl) (gM rfl (gE ?_))
   obtain ⟨p1_2, c1_2, rfl, hl1_2⟩ := ro_slice (hm.ow_rep 5 rfl)
   refine gBk (gNf hm (fun i2_1 xs2_1 => [(3, (pV b0_2)), (5, (pV b0_3)), (6, (pV b0_4)), (7, (.slice p0_2 ys0_2.length c0_2)), (8, (.slice p1_2 xs1_1.2.length c1_2)), (9, (nV xs2_1.1)), (10, (nV xs2_1.2)), (30, (nV c_.regs)), (31, (nV i1_1)), (33, (.slice p1_1 r0_1.length c1_1)), (34, (nV ((r0_1.length : Int)))), (35, (nV i2_1))]) (fun i2_1 xs2_1 => [blk b0_2 [(nV most)] 3, blk b0_3 [(.slice p1_1 r0_1.length c1_1)] 60, blk b0_4 [(.slice p0_1 ys0_1.length c0_1)] 37, ow [(.slice p0_1 ys0_1.length c0_1)] ys0_1, ow [(.slice p0_2 ys0_2.length c0_2)] xs1_1.1, ow [(.slice p1_2 xs1_1.2.length c1_2)] xs1_1.2]) [0, 1, 2, 3, 4, 5] rfl ?_ ?_)
   ·
    repeat clear hm
    intro _ _ i2_1 xs2_1 w hm hi1_1 hi1_2 q1_1 _
    refine gS (gR (gB rfl (gE (gS (go _ 36 rfl (decide_eq_true (by omega)) (gct rfl (gSk (gS (gJ hm (fun s2_1 => [(3, (pV b0_2)), (5, (pV b0_3)), (6, (pV b0_4)), (7, (.slice p0_2 ys0_2.length c0_2)), (8, (.slice p1_2 xs1_1.2.length c1_2)), (9, (nV s2_1.1)), (10, (nV s2_1.2)), (30, (nV c_.regs)), (31, (nV i1_1)), (33, (.slice p1_1 r0_1.length c1_1)), (34, (nV ((r0_1.length : Int)))), (35, (nV i2_1))]) (fun s2_1 => [blk b0_2 [(nV most)] 3, blk b0_3 [(.slice p1_1 r0_1.length c1_1)] 60, blk b0_4 [(.slice p0_1 ys0_1.length c0_1)] 37, ow [(.slice p0_1 ys0_1.length c0_1)] ys0_1, ow [(.slice p0_2 ys0_2.length c0_2)] xs1_1.1, ow [(.slice p1_2 xs1_1.2.length c1_2)] xs1_1.2]) (fun s2_1 => ?_) ?_)))))))))
    ·
     refine gBk (gS (gR (gM rfl (gg fun x3_1 h3_1 hx3_2 => ?_))))
     obtain ⟨b3_1, o3_1, c3_1, he⟩ := idx_form' hz_r0_1 hx3_2
     simp only [Value.slice.injEq, Option.some.injEq] at he; obtain ⟨rfl, _, rfl⟩ := he
     obtain ⟨_, _, hc3_1, hr3_1⟩ := ro_get' hz_r0_1 hx3_2
     have h3_2 := hr3_1
     obtain ⟨v3_1, rfl, -⟩ := id h3_2
     replace h3_2 : GT.rep hz0_2 [v3_1] x3_1 := h3_2
     replace hc3_1 : CellsAt hz0_2 b3_1 (o3_1 + (i2_1).toNat * 1) [v3_1] := hc3_1
     refine gI st_60 h3_1 (idx_lt hx3_2) rfl (gY (yl isAgg63 ((hc3_1.mono hm.lez).cell (j := 0) rfl) rfl) (gA rfl (gA rfl (gE (gS (gS (gR (gM rfl (gM rfl (gg fun x3_2 h3_3 hx3_4 => ?_))))))))))
     obtain ⟨b3_2, o3_2, c3_2, he⟩ := idx_form (hm.ow_rep 4 rfl) hx3_4
     simp only [Value.slice.injEq, Option.some.injEq] at he; obtain ⟨rfl, _, rfl⟩ := he
     have hL3_1 := rep_slice_len (hm.ow_rep 4 rfl)
     refine gI st_58 h3_3 (idx_lt2 hx3_4 hL3_1) rfl (gY (yl isAgg4 ((flat_cells (cs := [(.bool (x3_2))]) (hm.ow_rep 4 rfl) hx3_4 rfl).cell (j := 0) rfl) rfl) (gE (gs 43 rfl (fun h3_4 => ?_) fun h3_4 => ?_)))
     ·
      exact gct rfl (gXt (gHh (gz hm [0, 1, 2, 3, 4, 5] rfl)))
     refine gcf rfl (gSk (gS (gR (gA rfl (gE (gS (gS (gR (gM rfl (gf rfl (fun a hf => e_rangeS (m := (x3_1 : MapS Bool)) hf hm underlying63 h3_2 rfl rfl) ?_))))))))))
     rintro _ w ⟨b3_3, rfl, hm⟩
     refine gE (gJ hm (fun s3_1 => [(3, (pV b0_2)), (5, (pV b0_3)), (6, (pV b0_4)), (7, (sV b3_2 o3_2 ys0_2.length c0_2)), (8, (.slice p1_2 xs1_1.2.length c1_2)), (9, (nV xs2_1.1)), (10, (nV xs2_1.2)), (11, (nV i2_1)), (13, (nV s3_1)), (30, (nV c_.regs)), (31, (nV i1_1)), (33, (sV b3_1 o3_1 r0_1.length c1_1)), (34, (nV ((r0_1.length : Int)))), (35, (nV i2_1))]) (fun s3_1 => [blk b0_2 [(nV most)] 3, blk b0_3 [(sV b3_1 o3_1 r0_1.length c1_1)] 60, blk b0_4 [(.slice p0_1 ys0_1.length c0_1)] 37, ow [(.slice p0_1 ys0_1.length c0_1)] ys0_1, ow [(sV b3_2 o3_2 ys0_2.length c0_2)] xs1_1.1, ow [(.slice p1_2 xs1_1.2.length c1_2)] xs1_1.2]) (fun s3_1 => ?_) ?_)
     ·
      refine gBk (gRng (m := (x3_1 : MapS Bool)) (by refine fun p q => (?_ : CommF _ _); (try dsimp only); (repeat' (with_reducible first | exact cf_some | exact cf_sm | exact cf_ms | refine cf_post ?_ | refine cf_bind fun _ => ?_ | refine cf_ite ?_ ?_)); (all_goals refine cf_symm ?_); (all_goals repeat' (with_reducible first | exact cf_some | exact cf_sm | exact cf_ms | refine cf_post ?_ | refine cf_bind fun _ => ?_ | refine cf_ite ?_ ?_)); (all_goals (first | exact cf_add | exact cf_ins))) h3_2 (fun sn5_1 xs5_1 a w => St 117 [(3, (pV b0_2)), (5, (pV b0_3)), (6, (pV b0_4)), (7, (sV b3_2 o3_2 ys0_2.length c0_2)), (8, (.slice p1_2 xs1_1.2.length c1_2)), (9, (nV xs2_1.1)), (10, (nV xs2_1.2)), (11, (nV i2_1)), (13, (nV xs5_1)), (30, (nV c_.regs)), (31, (nV i1_1)), (33, (sV b3_1 o3_1 r0_1.length c1_1)), (34, (nV ((r0_1.length : Int)))), (35, (nV i2_1)), (45, (pV b3_3))] w0 hz0_2 [blk b0_2 [(nV most)] 3, blk b0_3 [(sV b3_1 o3_1 r0_1.length c1_1)] 60, blk b0_4 [(.slice p0_1 ys0_1.length c0_1)] 37, ow [(.slice p0_1 ys0_1.length c0_1)] ys0_1, ow [(sV b3_2 o3_2 ys0_2.length c0_2)] xs1_1.1, ow [(.slice p1_2 xs1_1.2.length c1_2)] xs1_1.2, itc hz0_2 v3_1 b3_3 sn5_1] a w) (fun a hf => ⟨hf.sb rfl, hm.pk [1, 2, 3, 4, 5, 6, 0] rfl rfl⟩) ?_ ?_)
      ·
       repeat clear hm
       rintro sn5_1 xs5_1 a w ⟨hf, hm⟩ hmo
       refine gv (m := some ()) (r := ()) hf ?_ rfl
       refine gS (gR (gf rfl (fun a hf => e_nextS 6 hf hm rfl hmo rfl rfl) ?_))
       rintro _ w ⟨bn5_1, p5_1, s5_1, rfl, hb5_1, hg5_1, hm⟩
       refine gSw hb5_1 (gX rfl (gE (gS (gct rfl (gSk (gJ hm (fun s5_2 => [(3, (pV b0_2)), (5, (pV b0_3)), (6, (pV b0_4)), (7, (sV b3_2 o3_2 ys0_2.length c0_2)), (8, (.slice p1_2 xs1_1.2.length c1_2)), (9, (nV xs2_1.1)), (10, (nV xs2_1.2)), (11, (nV i2_1)), (13, (nV s5_2)), (30, (nV c_.regs)), (31, (nV i1_1)), (33, (sV b3_1 o3_1 r0_1.length c1_1)), (34, (nV ((r0_1.length : Int)))), (35, (nV i2_1)), (45, (pV b3_3))]) (fun s5_2 => [blk b0_2 [(nV most)] 3, blk b0_3 [(sV b3_1 o3_1 r0_1.length c1_1)] 60, blk b0_4 [(.slice p0_1 ys0_1.length c0_1)] 37, ow [(.slice p0_1 ys0_1.length c0_1)] ys0_1, ow [(sV b3_2 o3_2 ys0_2.length c0_2)] xs1_1.1, ow [(.slice p1_2 xs1_1.2.length c1_2)] xs1_1.2, itc hz0_2 v3_1 b3_3 (Array.push sn5_1 bn5_1)]) (fun s5_2 => ?_) ?_))))))
       ·
        refine gBk (gS (gR (gY (yG rfl (y_entryS 6 hm rfl hg5_1 rfl rfl)) (gX rfl (gA rfl (gE (gS (gR (gM rfl (gM rfl (gg fun x6_1 h6_1 hx6_2 => ?_)))))))))))
        have hL6_1 := rep_slice_len (hm.ow_rep 4 rfl)
        refine gI st_58 h6_1 (idx_lt2 hx6_2 hL6_1) rfl (gY (yl isAgg4 ((flat_cells (cs := [(.bool (x6_1))]) (hm.ow_rep 4 rfl) hx6_2 rfl).cell (j := 0) rfl) rfl) (gN rfl (gE (gJ hm (fun s6_1 => [(3, (pV b0_2)), (5, (pV b0_3)), (6, (pV b0_4)), (7, (sV b3_2 o3_2 ys0_2.length c0_2)), (8, (.slice p1_2 xs1_1.2.length c1_2)), (9, (nV xs2_1.1)), (10, (nV xs2_1.2)), (11, (nV i2_1)), (13, (nV s6_1)), (30, (nV c_.regs)), (31, (nV i1_1)), (33, (sV b3_1 o3_1 r0_1.length c1_1)), (34, (nV ((r0_1.length : Int)))), (35, (nV i2_1)), (45, (pV b3_3))]) (fun s6_1 => [blk b0_2 [(nV most)] 3, blk b0_3 [(sV b3_1 o3_1 r0_1.length c1_1)] 60, blk b0_4 [(.slice p0_1 ys0_1.length c0_1)] 37, ow [(.slice p0_1 ys0_1.length c0_1)] ys0_1, ow [(sV b3_2 o3_2 ys0_2.length c0_2)] xs1_1.1, ow [(.slice p1_2 xs1_1.2.length c1_2)] xs1_1.2, itc hz0_2 v3_1 b3_3 (Array.push sn5_1 bn5_1)]) (fun s6_1 => ?_) ?_))))
        ·
         refine gsn 54 rfl (fun h7_1 => ?_) fun h7_1 => ?_
         ·
          exact gct rfl (gR (gM rfl (gB rfl (gA rfl (gE (gz hm [0, 1, 2, 3, 4, 5, 6] rfl))))))
         exact gcf rfl (gSk (gz hm [0, 1, 2, 3, 4, 5, 6] rfl))
        repeat clear hm
        intro s6_1 w hm
        exact gz hm [0, 1, 2, 3, 4, 5, 6] rfl
       repeat clear hm
       intro s5_2 w hm
       exact gZr hg5_1 hb5_1 fun a hf => ⟨hf.sb rfl, hm.pk [0, 1, 2, 3, 4, 5, 6] rfl rfl⟩
      repeat clear hm
      rintro sn4_1 xs4_1 a w ⟨hf, hm⟩ hno hk
      refine gv hf ?_ hk
      exact gS (gR (gY (yG rfl (y_nextE 6 hm rfl hno rfl rfl)) (gX rfl (gE (gS (gcf rfl (gXt (gHh (gz hm [0, 1, 2, 3, 4, 5] rfl)))))))))
     repeat clear hm
     intro s3_1 w hm
     refine gS (gJ hm (fun s3_2 => [(3, (pV b0_2)), (5, (pV b0_3)), (6, (pV b0_4)), (7, (sV b3_2 o3_2 ys0_2.length c0_2)), (8, (.slice p1_2 xs1_1.2.length c1_2)), (9, (nV xs2_1.1)), (10, (nV xs2_1.2)), (11, (nV i2_1)), (13, (nV s3_1)), (30, (nV c_.regs)), (31, (nV i1_1)), (33, (sV b3_1 o3_1 r0_1.length c1_1)), (34, (nV ((r0_1.length : Int)))), (35, (nV i2_1)), (63, (.bool (s3_2)))]) (fun s3_2 => [blk b0_2 [(nV most)] 3, blk b0_3 [(sV b3_1 o3_1 r0_1.length c1_1)] 60, blk b0_4 [(.slice p0_1 ys0_1.length c0_1)] 37, ow [(.slice p0_1 ys0_1.length c0_1)] ys0_1, ow [(sV b3_2 o3_2 ys0_2.length c0_2)] xs1_1.1, ow [(.slice p1_2 xs1_1.2.length c1_2)] xs1_1.2]) (fun s3_2 => ?_) ?_)
     ·
      refine gR (gM rfl (gB rfl (gM rfl (gsd 59 rfl (fun h4_1 => ?_) fun h4_1 => ?_))))
      ·
       exact gO rfl (gO rfl (gO rfl (gKt rfl (gE (gz hm [0, 1, 2, 3, 4, 5] rfl)))))
      exact gM rfl (gM rfl (gB rfl (gKf rfl (gE (gz hm [0, 1, 2, 3, 4, 5] rfl)))))
     repeat clear hm
     intro s3_2 w hm
     refine gJ hm (fun s3_3 => [(3, (pV b0_2)), (5, (pV b0_3)), (6, (pV b0_4)), (7, (sV b3_2 o3_2 ys0_2.length c0_2)), (8, (.slice p1_2 xs1_1.2.length c1_2)), (9, (nV s3_3.1)), (10, (nV s3_3.2)), (30, (nV c_.regs)), (31, (nV i1_1)), (33, (sV b3_1 o3_1 r0_1.length c1_1)), (34, (nV ((r0_1.length : Int)))), (35, (nV i2_1))]) (fun s3_3 => [blk b0_2 [(nV most)] 3, blk b0_3 [(sV b3_1 o3_1 r0_1.length c1_1)] 60, blk b0_4 [(.slice p0_1 ys0_1.length c0_1)] 37, ow [(.slice p0_1 ys0_1.length c0_1)] ys0_1, ow [(sV b3_2 o3_2 ys0_2.length c0_2)] xs1_1.1, ow [(.slice p1_2 xs1_1.2.length c1_2)] xs1_1.2]) (fun s3_3 => ?_) ?_
     ·
      refine gs 63 rfl (fun h4_2 => ?_) fun h4_2 => ?_
      ·
       exact gct rfl (gR (gM rfl (gM rfl (gA rfl (gA rfl (gE (gz hm [0, 1, 2, 3, 4, 5] rfl)))))))
      exact gcf rfl (gSk (gz hm [0, 1, 2, 3, 4, 5] rfl))
     repeat clear hm
     intro s3_3 w hm
     exact gz hm [0, 1, 2, 3, 4, 5] rfl
    repeat clear hm
    intro s2_1 w hm
    exact gR (gP (by omega) (by omega) rfl (gM rfl (gE (gze hm [0, 1, 2, 3, 4, 5] rfl))))
   repeat clear hm
   intro i1_2 xs1_2 w hm hi1_3 hi1_4
   refine gS (gR (gB rfl (gE (gS (go _ 36 rfl (decide_eq_false (by omega)) (gcf rfl (gXt (gHh (gS (gR (gM rfl (gM rfl (gg fun x1_1 h1_1 hx1_2 => ?_)))))))))))))
   obtain ⟨b1_1, o1_1, c1_3, he⟩ := idx_form (hm.ow_rep 4 rfl) hx1_2
   simp only [Value.slice.injEq, Option.some.injEq] at he; obtain ⟨rfl, _, rfl⟩ := he
   have hL1_1 := rep_slice_len (hm.ow_rep 4 rfl)
   refine gI st_58 h1_1 (idx_lt2 hx1_2 hL1_1) rfl (gf0 rfl (fun a hf => e_setElem (x1 := true) (j := 0) (vs := [(.bool (true))]) 4 hf hm rfl hx1_2 rfl sizeOf4 rfl rfl rfl (one_cons rfl one_nil) rfl rfl) ?_)
   rintro _ w hm
   have hx1_3 := List.getElem?_set_self (a := true) (idx_lt hx1_2)
   refine gE (gR (gM rfl (gM rfl (gf rfl (fun a hf => e_build (vs := #[(0, (nV xs1_2.1))]) (cs := [(nV xs1_2.1)]) et_37 hf hm rfl rfl (by kernel_rfl) rfl rfl) ?_))))
   rintro _ w ⟨b1_2, rfl, hm⟩
   replace hm := hm.lit (xs := ([xs1_2.1] : List Int)) 0 rfl rfl rfl rfl
   refine gb fun ys1_1 hx1_4 => ?_
   obtain ⟨h1_2, h1_2e⟩ := appM_some.1 hx1_4
   refine gf rfl (fun a hf => e_append 6 et_37 hf hm rfl (hm.ow_rep 0 rfl) rfl rfl rfl h1_2) ?_
   rintro v1_2 w hm
   rw [h1_2e] at hm
   exact gA rfl (gE (gR (gP (by omega) (by omega) rfl (gM rfl (gE (gZe fun a hf => ⟨v1_2, hf.sb rfl, hm.pk [1, 2, 3, 4, 5, 6] rfl rfl⟩))))))
  repeat clear hm
  rintro i0_1 xs0_1 a w ⟨v0_5, hf, hm⟩ hi0_3 hi0_4
  refine gv hf (gS (gR (gB rfl (gE (gS (go _ 32 rfl (decide_eq_false (by omega)) (gcf rfl (gXt (gHh (gS (gS (gR (gL hm 2 isAgg37 rfl (gY (yV st_37 rfl) (gM rfl (gE ?_))))))))))))))))
  obtain ⟨p0_3, c0_3, rfl, hl0_3⟩ := ro_slice (hm.ow_rep 5 rfl)
  refine gBk (gNf hm (fun i1_3 xs1_3 => [(3, (pV b0_2)), (5, (pV b0_3)), (6, (pV b0_4)), (8, (.slice p0_3 xs0_1.2.length c0_3)), (76, (nV ((ys0_1.length : Int)))), (77, (nV i1_3))]) (fun i1_3 xs1_3 => [blk b0_2 [(nV most)] 3, blk b0_3 [v0_1] 60, blk b0_4 [(.slice p0_1 ys0_1.length c0_1)] 37, ow [(.slice p0_1 ys0_1.length c0_1)] xs1_3, ow [(.slice p0_3 xs0_1.2.length c0_3)] xs0_1.2]) [0, 1, 2, 3, 5] rfl ?_ ?_)
  ·
   repeat clear hm
   intro _ _ i1_3 xs1_3 w hm hi0_5 hi0_6 q0_2 _
   refine gS (gR (gB rfl (gE (gS (go _ 78 rfl (decide_eq_true (by omega)) (gct rfl (gSk (gS (gBk (gS (gR (gM rfl (gA rfl (gE (gR (gL hm 2 isAgg37 rfl (gM rfl (gg fun x1_2 h1_3 hx1_6 => ?_))))))))))))))))))
   obtain ⟨b1_3, o1_2, c1_4, he⟩ := idx_form (hm.ow_rep 3 rfl) hx1_6
   simp only [Value.slice.injEq, Option.some.injEq] at he; obtain ⟨rfl, _, rfl⟩ := he
   have hL1_2 := rep_slice_len (hm.ow_rep 3 rfl)
   refine gI st_37 h1_3 (idx_lt2 hx1_6 hL1_2) rfl (gf0 rfl (fun a hf => e_setElem (x1 := -1) (j := 0) (vs := [(nV (-1))]) 3 hf hm rfl hx1_6 rfl sizeOf3 rfl rfl rfl (one_cons rfl one_nil) rfl rfl) ?_)
   rintro _ w hm
   have hx1_7 := List.getElem?_set_self (a := -1) (idx_lt hx1_6)
   exact gE (gR (gP (by omega) (by omega) rfl (gM rfl (gE (gze hm [0, 1, 2, 3, 4] rfl)))))
  repeat clear hm
  intro i0_2 xs0_2 w hm hi0_7 hi0_8
  refine gS (gR (gB rfl (gE (gS (go _ 78 rfl (decide_eq_false (by omega)) (gcf rfl (gXt (gHh (gS (gS (gR (gM rfl (gf rfl (fun a hf => e_call hf rfl call106 rfl (back106 hm)) ?_)))))))))))))
  rintro _ w ⟨b0_5, rfl, hm⟩
  refine gE (gBk (gBf 4 5 back151 call151 hm (fun xs1_4 => [blk b0_2 [(nV most)] 3, blk b0_3 [v0_1] 60, blk b0_4 [(.slice p0_1 ys0_1.length c0_1)] 37, ow [(.slice p0_1 ys0_1.length c0_1)] xs1_4, blk b0_5 [(.slice p0_3 xs0_1.2.length c0_3)] 37, ow [(.slice p0_3 xs0_1.2.length c0_3)] xs0_1.2]) [1, 2, 3, 4, 0, 5] rfl (fun _ => rfl) (fun _ => rfl) rfl ?_ ?_))
  ·
   repeat clear hm
   intro i1_4 e1_1 xs1_4 _ w
   refine gR (gA rfl (gE (gGt fun hz1_1 w hle1_1 hm => gBk (gS (gR (gf rfl (fun a hf => e_mkM (β := Bool) hm rfl) ?_))))))
   rintro v1_3 w hm
   refine gA rfl (gE (gS (gS (gR (gL hm 2 isAgg60 rfl (gM rfl (gg fun x1_3 h1_4 hx1_9 => ?_)))))))
   obtain ⟨b1_4, o1_3, c1_5, he⟩ := idx_form' hz_r0_1 hx1_9
   subst he
   obtain ⟨_, _, hc1_1, hr1_1⟩ := ro_get' hz_r0_1 hx1_9
   have h1_5 := hr1_1
   obtain ⟨v1_4, rfl, -⟩ := id h1_5
   replace h1_5 : GT.rep hz0_2 [v1_4] x1_3 := h1_5
   replace hc1_1 : CellsAt hz0_2 b1_4 (o1_3 + (e1_1).toNat * 1) [v1_4] := hc1_1
   refine gI st_60 h1_4 (idx_lt hx1_9) rfl (gY (yl isAgg63 ((hc1_1.mono (Heap.le_trans hle1_1 hm.lez)).cell (j := 0) rfl) rfl) (gf rfl (fun a hf => e_rangeS (m := (x1_3 : MapS Bool)) hf hm underlying63 (GT.mono hle1_1 h1_5) rfl rfl) ?_))
   rintro _ w ⟨b1_5, rfl, hm⟩
   refine gE (gJ hm (fun s1_1 => [(3, (pV b0_2)), (5, (pV b0_3)), (6, (pV b0_4)), (17, (nV e1_1)), (18, v1_3), (85, (.func (.func 151) #[] #[(pV b0_5)]))]) (fun s1_1 => [blk b0_2 [(nV most)] 3, blk b0_3 [(sV b1_4 o1_3 r0_1.length c1_5)] 60, blk b0_4 [(.slice p0_1 ys0_1.length c0_1)] 37, ow [(.slice p0_1 ys0_1.length c0_1)] xs1_4, owm v1_3 s1_1, blk b0_5 [(.slice p0_3 xs0_1.2.length c0_3)] 37, ow [(.slice p0_3 xs0_1.2.length c0_3)] xs0_1.2]) (fun s1_1 => ?_) ?_)
   ·
    refine gBk (gRng (m := (x1_3 : MapS Bool)) (by refine fun p q => (?_ : CommF _ _); (try dsimp only); (repeat' (with_reducible first | exact cf_some | exact cf_sm | exact cf_ms | refine cf_post ?_ | refine cf_bind fun _ => ?_ | refine cf_ite ?_ ?_)); (all_goals refine cf_symm ?_); (all_goals repeat' (with_reducible first | exact cf_some | exact cf_sm | exact cf_ms | refine cf_post ?_ | refine cf_bind fun _ => ?_ | refine cf_ite ?_ ?_)); (all_goals (first | exact cf_add | exact cf_ins))) (GT.mono hle1_1 h1_5) (fun sn3_1 xs3_1 a w => St 117 [(3, (pV b0_2)), (5, (pV b0_3)), (6, (pV b0_4)), (17, (nV e1_1)), (18, v1_3), (85, (.func (.func 151) #[] #[(pV b0_5)])), (93, (pV b1_5))] w0 hz1_1 [blk b0_2 [(nV most)] 3, blk b0_3 [(sV b1_4 o1_3 r0_1.length c1_5)] 60, blk b0_4 [(.slice p0_1 ys0_1.length c0_1)] 37, ow [(.slice p0_1 ys0_1.length c0_1)] xs1_4, owm v1_3 xs3_1, blk b0_5 [(.slice p0_3 xs0_1.2.length c0_3)] 37, ow [(.slice p0_3 xs0_1.2.length c0_3)] xs0_1.2, itc hz1_1 v1_4 b1_5 sn3_1] a w) (fun a hf => ⟨hf.sb rfl, hm.pk [2, 3, 4, 5, 1, 6, 7, 0] rfl rfl⟩) ?_ ?_)
    ·
     repeat clear hm
     rintro sn3_1 xs3_1 a w ⟨hf, hm⟩ hmo
     refine gv (m := some ()) (r := ()) hf ?_ rfl
     refine gS (gR (gf rfl (fun a hf => e_nextS 7 hf hm rfl hmo rfl rfl) ?_))
     rintro _ w ⟨bn3_1, p3_1, s3_4, rfl, hb3_1, hg3_1, hm⟩
     refine gSw hb3_1 (gX rfl (gE (gS (gct rfl (gSk (gBk (gS (gR (gY (yG rfl (y_entryS 7 hm rfl hg3_1 rfl rfl)) (gX rfl (gA rfl (gE (gR (gM rfl (gL hm 2 isAgg37 rfl (gM rfl (gg fun x3_3 h3_5 hx3_6 => ?_)))))))))))))))))
     obtain ⟨b3_4, o3_3, c3_3, he⟩ := idx_form (hm.ow_rep 3 rfl) hx3_6
     simp only [Value.slice.injEq, Option.some.injEq] at he; obtain ⟨rfl, _, rfl⟩ := he
     have hL3_2 := rep_slice_len (hm.ow_rep 3 rfl)
     refine gI st_37 h3_5 (idx_lt2 hx3_6 hL3_2) rfl (gY (yl isAgg3 ((flat_cells (cs := [(nV x3_3)]) (hm.ow_rep 3 rfl) hx3_6 rfl).cell (j := 0) rfl) rfl) (gf0 rfl (fun a hf => e_insM (β := Bool) (key := x3_3) (u := true) (b := false) 4 underlying3 underlying62 hf hm rfl rfl rfl rfl rfl) ?_))
     rintro _ w hm
     exact gE (gZr hg3_1 hb3_1 fun a hf => ⟨hf.sb rfl, hm.pk [0, 1, 2, 3, 4, 5, 6, 7] rfl rfl⟩)
    repeat clear hm
    rintro sn2_1 xs2_2 a w ⟨hf, hm⟩ hno hk
    refine gv hf ?_ hk
    exact gS (gR (gY (yG rfl (y_nextE 7 hm rfl hno rfl rfl)) (gX rfl (gE (gS (gcf rfl (gXt (gHh (gz hm [0, 1, 2, 3, 4, 5, 6] rfl)))))))))
   repeat clear hm
   intro s1_1 w hm
   refine gS (gR (gL hm 0 isAgg3 rfl (gM rfl (gE (gJ hm (fun s1_2 => [(3, (pV b0_2)), (5, (pV b0_3)), (6, (pV b0_4)), (85, (.func (.func 151) #[] #[(pV b0_5)]))]) (fun s1_2 => [blk b0_2 [(nV most)] 3, blk b0_3 [(sV b1_4 o1_3 r0_1.length c1_5)] 60, blk b0_4 [(.slice p0_1 ys0_1.length c0_1)] 37, ow [(.slice p0_1 ys0_1.length c0_1)] s1_2, blk b0_5 [(.slice p0_3 xs0_1.2.length c0_3)] 37, ow [(.slice p0_3 xs0_1.2.length c0_3)] xs0_1.2]) (fun s1_2 => ?_) ?_)))))
   ·
    refine gBk (gb fun _ hfit2_1 => ?_)
    replace hfit2_1 := fitI_some.1 hfit2_1
    refine gNf hm (fun i3_1 xs3_2 => [(3, (pV b0_2)), (5, (pV b0_3)), (6, (pV b0_4)), (17, (nV e1_1)), (18, v1_3), (85, (.func (.func 151) #[] #[(pV b0_5)])), (103, (nV most)), (104, (nV i3_1))]) (fun i3_1 xs3_2 => [blk b0_2 [(nV most)] 3, blk b0_3 [(sV b1_4 o1_3 r0_1.length c1_5)] 60, blk b0_4 [(.slice p0_1 ys0_1.length c0_1)] 37, ow [(.slice p0_1 ys0_1.length c0_1)] xs1_4, owm v1_3 s1_1, blk b0_5 [(.slice p0_3 xs0_1.2.length c0_3)] 37, ow [(.slice p0_3 xs0_1.2.length c0_3)] xs0_1.2]) [0, 1, 2, 3, 4, 5, 6] rfl ?_ ?_
    ·
     repeat clear hm
     intro r2_1 hq2_2 i3_1 xs3_2 w hm hi2_1 hi2_2 q2_1 ho2_1
     refine gS (gR (gB rfl (gE (gS (go _ 105 rfl (decide_eq_true (by omega)) (gct rfl (gSk (gS (gBk (gS (gR (gM rfl (gA rfl (gE (gS (gR (gM rfl (gM rfl (gY (yG rfl (y_lookB (key := i3_1) (m := (s1_1 : MapS Bool)) underlying3 underlying62 zeroValue4 (hm.owm_rep 4 rfl) rfl rfl rfl)) (gN rfl (gE (gsn 110 rfl (fun h3_6 => ?_) fun h3_6 => ?_))))))))))))))))))))))
     ·
      refine gct rfl (gS (gR (gL hm 2 isAgg37 rfl (gM rfl (gM rfl (gg fun x3_4 h3_7 hx3_8 => ?_))))))
      obtain ⟨b3_5, o3_4, c3_4, he⟩ := idx_form (hm.ow_rep 3 rfl) hx3_8
      simp only [Value.slice.injEq, Option.some.injEq] at he; obtain ⟨rfl, _, rfl⟩ := he
      have hL3_3 := rep_slice_len (hm.ow_rep 3 rfl)
      refine gI st_37 h3_7 (idx_lt2 hx3_8 hL3_3) rfl (gf0 rfl (fun a hf => e_setElem (x1 := i3_1) (j := 0) (vs := [(nV i3_1)]) 3 hf hm rfl hx3_8 rfl sizeOf3 rfl rfl rfl (one_cons rfl one_nil) rfl rfl) ?_)
      rintro _ w hm
      have hx3_9 := List.getElem?_set_self (a := i3_1) (idx_lt hx3_8)
      exact gE (gXt (gHm rfl (gHh (gLr ho2_1 hq2_2 (gz hm [0, 1, 2, 3, 5, 6] rfl)))))
     exact gcf rfl (gSk (gR (gP (by omega) (by omega) rfl (gM rfl (gE (gze hm [0, 1, 2, 3, 4, 5, 6] rfl))))))
    repeat clear hm
    intro i2_2 xs2_3 w hm hi2_3 hi2_4
    exact gS (gR (gB rfl (gE (gS (go _ 105 rfl (decide_eq_false (by omega)) (gcf rfl (gXt (gHh (gz hm [0, 1, 2, 3, 5, 6] rfl)))))))))
   repeat clear hm
   intro s1_2 w hm
   exact gGz hm [0, 1, 2, 3, 4, 5] rfl
  repeat clear hm
  intro D0_1 hz0_3 xs0_3 w hle0_3 hD0_1 hD0_2 hm
  refine gS (gR (gL hm 2 isAgg37 rfl (gA rfl (gE (gRt ?_)))))
  obtain ⟨_, htk, hm⟩ := hm.shutK (P := Tryz.prog) hle0_3 hD0_1 hD0_2
  replace hm := hm.thaw hle0_2
  exact gK1 results64 rfl ⟨_, htk, ⟨(.slice p0_1 ys0_1.length c0_1), rfl, hm.pk [3] rfl rfl⟩⟩

theorem laws_eqIntS_ok (w0 : World) (a_ : List Int) (v1 : Value) (h1 : GT.rep (hp w0) [v1] a_) (b_ : List Int) (v2 : Value) (h2 : GT.rep (hp w0) [v2] b_) :
    ConM Tryz.prog 26 [v1, v2] w0 (laws_eqIntS a_ b_) fun r v w' => v = (.bool (r)) ∧ Below w0.heap.size w0 w' := by
  unfold laws_eqIntS
  refine gcon func26 rfl fun r => ?_
  have hm := Mem.start w0
  refine gS (gR (gA rfl (gE (gS (gS (gR (gM rfl ?_)))))))
  obtain ⟨p0_1, c0_1, rfl, hl0_1⟩ := ro_slice h1
  refine gY (yV st_37 rfl) (gM rfl ?_)
  obtain ⟨p0_2, c0_2, rfl, hl0_2⟩ := ro_slice h2
  refine gY (yV st_37 rfl) (gB rfl (gE (gsd 10 rfl (fun h0_1 => ?_) fun h0_1 => ?_)))
  ·
   exact gct rfl (gS (gR (gA rfl (gE (gRt (gr1 results26 rfl ⟨rfl, hm.below⟩))))))
  refine gcf rfl (gSk (gS (gS (gR (gA rfl (gE (gBk (gNf hm (fun i1_1 xs1_1 => [(0, (.slice p0_1 a_.length c0_1)), (1, (.slice p0_2 b_.length c0_2)), (5, (nV i1_1))]) (fun i1_1 xs1_1 => []) [] rfl ?_ ?_))))))))
  ·
   repeat clear hm
   intro r0_1 hq0_1 i1_1 xs1_1 w hm hi0_1 hi0_2 q0_1 ho0_1
   refine gS (gS (gR (gM rfl (gM rfl (gY (yV st_37 rfl) (gB rfl (gE (go _ 14 rfl (decide_eq_true (by omega)) (gct rfl (gSk (gS (gBk (gS (gW (.p 0 (.p 1 (.p 2 (.p 4 (.p 5 (.p 6 (.q 3 (.e 7 (.p 8 .fin) .nil)))))))) [7] [0, 1, 2, 4, 5, 6, 8] hm [] [] rfl mxo (by kernel_rfl) (fun _ _ _ h => h.2) fun w hm hS => tP rfl (fun w => yM rfl) (tP rfl (fun w => yM rfl) (gg fun x1_1 h1_1 hx1_2 => ?_))))))))))))))))
   obtain ⟨b1_1, o1_1, c1_1, he⟩ := idx_form h1 hx1_2
   simp only [Value.slice.injEq, Option.some.injEq] at he; obtain ⟨rfl, _, rfl⟩ := he
   refine tP rfl (fun w => yI st_37 h1_1 (idx_lt hx1_2) rfl) (tP rfl (fun w => yM rfl) (tP rfl (fun w => yM rfl) (gg fun x1_2 h1_2 hx1_4 => ?_)))
   obtain ⟨b1_2, o1_2, c1_2, he⟩ := idx_form h2 hx1_4
   simp only [Value.slice.injEq, Option.some.injEq] at he; obtain ⟨rfl, _, rfl⟩ := he
   refine tP rfl (fun w => yI st_37 h1_2 (idx_lt hx1_4) rfl) (tQ rfl hS (fun w hm => yl isAgg3 ((flat_cells (cs := [(nV x1_1)]) (hm.now h1) hx1_2 rfl).cell (j := 0) rfl) rfl) (tO (tY rfl (yl isAgg3 ((flat_cells (cs := [(nV x1_2)]) (hm.now h2) hx1_4 rfl).cell (j := 0) rfl) rfl) (tAs hS (tP rfl (fun w => yB rfl) (tE (gsd 25 rfl (fun h1_3 => ?_) fun h1_3 => ?_)))))))
   ·
    exact gct rfl (gS (gR (gA rfl (gE (gRt (gLr ho0_1 hq0_1 (gr1 results26 rfl ⟨rfl, hm.below⟩)))))))
   exact gcf rfl (gSk (gR (gM rfl (gP (by omega) (by omega) rfl (gA rfl (gE (gze hm [] rfl)))))))
  repeat clear hm
  intro i0_1 xs0_1 w hm hi0_3 hi0_4
  exact gS (gS (gR (gM rfl (gM rfl (gY (yV st_37 rfl) (gB rfl (gE (go _ 14 rfl (decide_eq_false (by omega)) (gcf rfl (gXt (gHh (gS (gR (gA rfl (gE (gRt (gr1 results26 rfl ⟨rfl, hm.below⟩)))))))))))))))))

theorem laws_eqPhi_ok (w0 : World) (a_ : Phi_) (v1 : Value) (h1 : GT.rep (hp w0) [v1] a_.args) (b_ : Phi_) (v2 : Value) (h2 : GT.rep (hp w0) [v2] b_.args) :
    ConM Tryz.prog 306 [(.agg #[(nV a_.to), v1]), (.agg #[(nV b_.to), v2])] w0 (laws_eqPhi a_ b_) fun r v w' => v = (.bool (r)) ∧ Below w0.heap.size w0 w' := by
  unfold laws_eqPhi
  refine gcon func306 rfl fun r => ?_
  have hm := Mem.start w0
  refine gS (gR (gBx hm rfl fun b0_1 w hm => gBx hm rfl fun b0_2 w hm => gA rfl (gE (gS (gS (gR (gF fo_143_0 rfl (gL hm 1 isAgg3 rfl (gF fo_143_0 rfl (gL hm 0 isAgg3 rfl (gB rfl (gE (gsd 9 rfl (fun h0_1 => ?_) fun h0_1 => ?_)))))))))))))
  ·
   exact gct rfl (gS (gR (gA rfl (gE (gRt (gr1 results306 rfl ⟨rfl, hm.below⟩))))))
  refine gcf rfl (gSk (gS (gS (gR (gF fo_143_1 rfl (gL hm 1 isAgg37 rfl (gF fo_143_1 rfl (gL hm 0 isAgg37 rfl (gC hm rfl call26 (laws_eqIntS_ok _ a_.args v1 (hm.now h1) b_.args v2 (hm.now h2)) fun r0_1 hx0_1 w hm => gN rfl (gE (gsn 15 rfl (fun h0_2 => ?_) fun h0_2 => ?_)))))))))))
  ·
   exact gct rfl (gS (gR (gA rfl (gE (gRt (gr1 results306 rfl ⟨rfl, hm.below⟩))))))
  exact gcf rfl (gSk (gS (gR (gA rfl (gE (gRt (gr1 results306 rfl ⟨rfl, hm.below⟩)))))))

theorem laws_eqPhiS_ok (w0 : World) (a_ : List Phi_) (v1 : Value) (h1 : GT.rep (hp w0) [v1] a_) (b_ : List Phi_) (v2 : Value) (h2 : GT.rep (hp w0) [v2] b_) :
    ConM Tryz.prog 277 [v1, v2] w0 (laws_eqPhiS a_ b_) fun r v w' => v = (.bool (r)) ∧ Below w0.heap.size w0 w' := by
  unfold laws_eqPhiS
  refine gcon func277 rfl fun r => ?_
  have hm := Mem.start w0
  refine gS (gR (gA rfl (gE (gS (gS (gR (gM rfl ?_)))))))
  obtain ⟨p0_1, c0_1, rfl, hl0_1⟩ := ro_slice h1
  refine gY (yV st_101 rfl) (gM rfl ?_)
  obtain ⟨p0_2, c0_2, rfl, hl0_2⟩ := ro_slice h2
  refine gY (yV st_101 rfl) (gB rfl (gE (gsd 10 rfl (fun h0_1 => ?_) fun h0_1 => ?_)))
  ·
   exact gct rfl (gS (gR (gA rfl (gE (gRt (gr1 results277 rfl ⟨rfl, hm.below⟩))))))
  refine gcf rfl (gSk (gS (gS (gR (gA rfl (gE (gBk (gNf hm (fun i1_1 xs1_1 => [(0, (.slice p0_1 a_.length c0_1)), (1, (.slice p0_2 b_.length c0_2)), (5, (nV i1_1))]) (fun i1_1 xs1_1 => []) [] rfl ?_ ?_))))))))
  ·
   repeat clear hm
   intro r0_1 hq0_1 i1_1 xs1_1 w hm hi0_1 hi0_2 q0_1 ho0_1
   refine gS (gS (gR (gM rfl (gM rfl (gY (yV st_101 rfl) (gB rfl (gE (go _ 14 rfl (decide_eq_true (by omega)) (gct rfl (gSk (gS (gBk (gS (gW (.p 0 (.p 1 (.p 2 (.p 4 (.p 5 (.p 6 (.q 3 (.e 7 (.e 8 (.p 9 .fin) .nil) .nil)))))))) [7] [0, 1, 2, 4, 5, 6, 9] hm [] [] rfl mxo (by kernel_rfl) (fun _ _ _ h => h.2) fun w hm hS => tP rfl (fun w => yM rfl) (tP rfl (fun w => yM rfl) (gg fun x1_1 h1_1 hx1_2 => ?_))))))))))))))))
   obtain ⟨b1_1, o1_1, c1_1, he⟩ := idx_form' h1 hx1_2
   simp only [Value.slice.injEq, Option.some.injEq] at he; obtain ⟨rfl, _, rfl⟩ := he
   obtain ⟨v1_1, hc1_1, h1_2⟩ := rk_Phi_ h1 hx1_2
   refine tP rfl (fun w => yI st_101 h1_1 (idx_lt hx1_2) rfl) (tP rfl (fun w => yM rfl) (tP rfl (fun w => yM rfl) (gg fun x1_2 h1_3 hx1_4 => ?_)))
   obtain ⟨b1_2, o1_2, c1_2, he⟩ := idx_form' h2 hx1_4
   simp only [Value.slice.injEq, Option.some.injEq] at he; obtain ⟨rfl, _, rfl⟩ := he
   obtain ⟨v1_2, hc1_2, h1_4⟩ := rk_Phi_ h2 hx1_4
   refine tP rfl (fun w => yI st_101 h1_3 (idx_lt hx1_4) rfl) (tQ rfl hS (fun w hm => yn (hc1_1.mono hm.lez) isAgg143 sizeOf143 rfl) (tO (tY rfl (yn (hc1_2.mono hm.lez) isAgg143 sizeOf143 rfl) (tAs hS (tO (gb fun r1_1 hx1_5 => tf rfl rfl (fun a hf => e_call hf rfl call306 rfl (laws_eqPhi_ok _ x1_1 v1_1 (hm.now h1_2) x1_2 v1_2 (hm.now h1_4) _ hx1_5)) ?_))))))
   rintro v1_3 w ⟨rfl, hB⟩
   replace hm := hm.below' hB; clear hB
   refine tAn rfl (tP rfl (fun w => yN rfl) (tE (gsn 26 rfl (fun h1_5 => ?_) fun h1_5 => ?_)))
   ·
    exact gct rfl (gS (gR (gA rfl (gE (gRt (gLr ho0_1 hq0_1 (gr1 results277 rfl ⟨rfl, hm.below⟩)))))))
   exact gcf rfl (gSk (gR (gM rfl (gP (by omega) (by omega) rfl (gA rfl (gE (gze hm [] rfl)))))))
  repeat clear hm
  intro i0_1 xs0_1 w hm hi0_3 hi0_4
  exact gS (gS (gR (gM rfl (gM rfl (gY (yV st_101 rfl) (gB rfl (gE (go _ 14 rfl (decide_eq_false (by omega)) (gcf rfl (gXt (gHh (gS (gR (gA rfl (gE (gRt (gr1 results277 rfl ⟨rfl, hm.below⟩)))))))))))))))))

theorem laws_eqIns_ok (w0 : World) (a_ : Ins_) (v1 : Value) (h1 : GT.rep (hp w0) [v1] a_.args) (b_ : Ins_) (v2 : Value) (h2 : GT.rep (hp w0) [v2] b_.args) :
    ConM Tryz.prog 307 [(.agg #[(nV a_.op), (nV a_.to), v1, (nV a_.n_)]), (.agg #[(nV b_.op), (nV b_.to), v2, (nV b_.n_)])] w0 (laws_eqIns a_ b_) fun r v w' => v = (.bool (r)) ∧ Below w0.heap.size w0 w' := by
  unfold laws_eqIns
  refine gcon func307 rfl fun r => ?_
  have hm := Mem.start w0
  refine gS (gR (gBx hm rfl fun b0_1 w hm => gBx hm rfl fun b0_2 w hm => gA rfl (gE (gS (gS (gR (gF fo_106_0 rfl (gL hm 1 isAgg3 rfl (gF fo_106_0 rfl (gL hm 0 isAgg3 rfl (gB rfl (gE (gsd 9 rfl (fun h0_1 => ?_) fun h0_1 => ?_)))))))))))))
  ·
   exact gct rfl (gS (gR (gA rfl (gE (gRt (gr1 results307 rfl ⟨rfl, hm.below⟩))))))
  refine gcf rfl (gSk (gS (gS (gR (gF fo_106_1 rfl (gL hm 1 isAgg3 rfl (gF fo_106_1 rfl (gL hm 0 isAgg3 rfl (gB rfl (gE (gsd 14 rfl (fun h0_2 => ?_) fun h0_2 => ?_)))))))))))
  ·
   exact gct rfl (gS (gR (gA rfl (gE (gRt (gr1 results307 rfl ⟨rfl, hm.below⟩))))))
  refine gcf rfl (gSk (gS (gS (gR (gF fo_106_2 rfl (gL hm 1 isAgg37 rfl (gF fo_106_2 rfl (gL hm 0 isAgg37 rfl (gC hm rfl call26 (laws_eqIntS_ok _ a_.args v1 (hm.now h1) b_.args v2 (hm.now h2)) fun r0_1 hx0_1 w hm => gN rfl (gE (gsn 20 rfl (fun h0_3 => ?_) fun h0_3 => ?_)))))))))))
  ·
   exact gct rfl (gS (gR (gA rfl (gE (gRt (gr1 results307 rfl ⟨rfl, hm.below⟩))))))
  refine gcf rfl (gSk (gS (gS (gR (gF fo_106_3 rfl (gL hm 1 isAgg3 rfl (gF fo_106_3 rfl (gL hm 0 isAgg3 rfl (gB rfl (gE (gsd 25 rfl (fun h0_4 => ?_) fun h0_4 => ?_)))))))))))
  ·
   exact gct rfl (gS (gR (gA rfl (gE (gRt (gr1 results307 rfl ⟨rfl, hm.below⟩))))))
  exact gcf rfl (gSk (gS (gR (gA rfl (gE (gRt (gr1 results307 rfl ⟨rfl, hm.below⟩)))))))

theorem laws_eqInsS_ok (w0 : World) (a_ : List Ins_) (v1 : Value) (h1 : GT.rep (hp w0) [v1] a_) (b_ : List Ins_) (v2 : Value) (h2 : GT.rep (hp w0) [v2] b_) :
    ConM Tryz.prog 278 [v1, v2] w0 (laws_eqInsS a_ b_) fun r v w' => v = (.bool (r)) ∧ Below w0.heap.size w0 w' := by
  unfold laws_eqInsS
  refine gcon func278 rfl fun r => ?_
  have hm := Mem.start w0
  refine gS (gR (gA rfl (gE (gS (gS (gR (gM rfl ?_)))))))
  obtain ⟨p0_1, c0_1, rfl, hl0_1⟩ := ro_slice h1
  refine gY (yV st_102 rfl) (gM rfl ?_)
  obtain ⟨p0_2, c0_2, rfl, hl0_2⟩ := ro_slice h2
  refine gY (yV st_102 rfl) (gB rfl (gE (gsd 10 rfl (fun h0_1 => ?_) fun h0_1 => ?_)))
  ·
   exact gct rfl (gS (gR (gA rfl (gE (gRt (gr1 results278 rfl ⟨rfl, hm.below⟩))))))
  refine gcf rfl (gSk (gS (gS (gR (gA rfl (gE (gBk (gNf hm (fun i1_1 xs1_1 => [(0, (.slice p0_1 a_.length c0_1)), (1, (.slice p0_2 b_.length c0_2)), (5, (nV i1_1))]) (fun i1_1 xs1_1 => []) [] rfl ?_ ?_))))))))
  ·
   repeat clear hm
   intro r0_1 hq0_1 i1_1 xs1_1 w hm hi0_1 hi0_2 q0_1 ho0_1
   refine gS (gS (gR (gM rfl (gM rfl (gY (yV st_102 rfl) (gB rfl (gE (go _ 14 rfl (decide_eq_true (by omega)) (gct rfl (gSk (gS (gBk (gS (gW (.p 0 (.p 1 (.p 2 (.p 4 (.p 5 (.p 6 (.q 3 (.e 7 (.e 8 (.p 9 .fin) .nil) .nil)))))))) [7] [0, 1, 2, 4, 5, 6, 9] hm [] [] rfl mxo (by kernel_rfl) (fun _ _ _ h => h.2) fun w hm hS => tP rfl (fun w => yM rfl) (tP rfl (fun w => yM rfl) (gg fun x1_1 h1_1 hx1_2 => ?_))))))))))))))))
   obtain ⟨b1_1, o1_1, c1_1, he⟩ := idx_form' h1 hx1_2
   simp only [Value.slice.injEq, Option.some.injEq] at he; obtain ⟨rfl, _, rfl⟩ := he
   obtain ⟨v1_1, hc1_1, h1_2⟩ := rk_Ins_ h1 hx1_2
   refine tP rfl (fun w => yI st_102 h1_1 (idx_lt hx1_2) rfl) (tP rfl (fun w => yM rfl) (tP rfl (fun w => yM rfl) (gg fun x1_2 h1_3 hx1_4 => ?_)))
   obtain ⟨b1_2, o1_2, c1_2, he⟩ := idx_form' h2 hx1_4
   simp only [Value.slice.injEq, Option.some.injEq] at he; obtain ⟨rfl, _, rfl⟩ := he
   obtain ⟨v1_2, hc1_2, h1_4⟩ := rk_Ins_ h2 hx1_4
   refine tP rfl (fun w => yI st_102 h1_3 (idx_lt hx1_4) rfl) (tQ rfl hS (fun w hm => yn (hc1_1.mono hm.lez) isAgg106 sizeOf106 rfl) (tO (tY rfl (yn (hc1_2.mono hm.lez) isAgg106 sizeOf106 rfl) (tAs hS (tO (gb fun r1_1 hx1_5 => tf rfl rfl (fun a hf => e_call hf rfl call307 rfl (laws_eqIns_ok _ x1_1 v1_1 (hm.now h1_2) x1_2 v1_2 (hm.now h1_4) _ hx1_5)) ?_))))))
   rintro v1_3 w ⟨rfl, hB⟩
   replace hm := hm.below' hB; clear hB
   refine tAn rfl (tP rfl (fun w => yN rfl) (tE (gsn 26 rfl (fun h1_5 => ?_) fun h1_5 => ?_)))
   ·
    exact gct rfl (gS (gR (gA rfl (gE (gRt (gLr ho0_1 hq0_1 (gr1 results278 rfl ⟨rfl, hm.below⟩)))))))
   exact gcf rfl (gSk (gR (gM rfl (gP (by omega) (by omega) rfl (gA rfl (gE (gze hm [] rfl)))))))
  repeat clear hm
  intro i0_1 xs0_1 w hm hi0_3 hi0_4
  exact gS (gS (gR (gM rfl (gM rfl (gY (yV st_102 rfl) (gB rfl (gE (go _ 14 rfl (decide_eq_false (by omega)) (gcf rfl (gXt (gHh (gS (gR (gA rfl (gE (gRt (gr1 results278 rfl ⟨rfl, hm.below⟩)))))))))))))))))

theorem laws_eqBlock_ok (w0 : World) (a_ : Block_) (v1 : Value) (h1 : GT.rep (hp w0) [v1] a_.phis) (v2 : Value) (h2 : GT.rep (hp w0) [v2] a_.ins) (v3 : Value) (h3 : GT.rep (hp w0) [v3] a_.next_) (b_ : Block_) (v4 : Value) (h4 : GT.rep (hp w0) [v4] b_.phis) (v5 : Value) (h5 : GT.rep (hp w0) [v5] b_.ins) (v6 : Value) (h6 : GT.rep (hp w0) [v6] b_.next_) :
    ConM Tryz.prog 220 [(.agg #[v1, v2, (nV a_.jump), (nV a_.on), v3]), (.agg #[v4, v5, (nV b_.jump), (nV b_.on), v6])] w0 (laws_eqBlock a_ b_) fun r v w' => v = (.bool (r)) ∧ Below w0.heap.size w0 w' := by
  unfold laws_eqBlock
  refine gcon func220 rfl fun r => ?_
  have hm := Mem.start w0
  refine gS (gR (gBx hm rfl fun b0_1 w hm => gBx hm rfl fun b0_2 w hm => gA rfl (gE (gS (gS (gR (gF fo_104_0 rfl (gL hm 1 isAgg101 rfl (gF fo_104_0 rfl (gL hm 0 isAgg101 rfl (gC hm rfl call277 (laws_eqPhiS_ok _ a_.phis v1 (hm.now h1) b_.phis v4 (hm.now h4)) fun r0_1 hx0_1 w hm => gN rfl (gE (gsn 10 rfl (fun h0_1 => ?_) fun h0_1 => ?_)))))))))))))
  ·
   exact gct rfl (gS (gR (gA rfl (gE (gRt (gr1 results220 rfl ⟨rfl, hm.below⟩))))))
  refine gcf rfl (gSk (gS (gS (gR (gF fo_104_1 rfl (gL hm 1 isAgg102 rfl (gF fo_104_1 rfl (gL hm 0 isAgg102 rfl (gC hm rfl call278 (laws_eqInsS_ok _ a_.ins v2 (hm.now h2) b_.ins v5 (hm.now h5)) fun r0_2 hx0_2 w hm => gN rfl (gE (gsn 16 rfl (fun h0_2 => ?_) fun h0_2 => ?_)))))))))))
  ·
   exact gct rfl (gS (gR (gA rfl (gE (gRt (gr1 results220 rfl ⟨rfl, hm.below⟩))))))
  refine gcf rfl (gSk (gS (gS (gR (gF fo_104_2 rfl (gL hm 1 isAgg3 rfl (gF fo_104_2 rfl (gL hm 0 isAgg3 rfl (gB rfl (gE (gsd 21 rfl (fun h0_3 => ?_) fun h0_3 => ?_)))))))))))
  ·
   exact gct rfl (gS (gR (gA rfl (gE (gRt (gr1 results220 rfl ⟨rfl, hm.below⟩))))))
  refine gcf rfl (gSk (gS (gS (gR (gF fo_104_3 rfl (gL hm 1 isAgg3 rfl (gF fo_104_3 rfl (gL hm 0 isAgg3 rfl (gB rfl (gE (gsd 26 rfl (fun h0_4 => ?_) fun h0_4 => ?_)))))))))))
  ·
   exact gct rfl (gS (gR (gA rfl (gE (gRt (gr1 results220 rfl ⟨rfl, hm.below⟩))))))
  refine gcf rfl (gSk (gS (gS (gR (gF fo_104_4 rfl (gL hm 1 isAgg37 rfl (gF fo_104_4 rfl (gL hm 0 isAgg37 rfl (gC hm rfl call26 (laws_eqIntS_ok _ a_.next_ v3 (hm.now h3) b_.next_ v6 (hm.now h6)) fun r0_3 hx0_3 w hm => gN rfl (gE (gsn 32 rfl (fun h0_5 => ?_) fun h0_5 => ?_)))))))))))
  ·
   exact gct rfl (gS (gR (gA rfl (gE (gRt (gr1 results220 rfl ⟨rfl, hm.below⟩))))))
  exact gcf rfl (gSk (gS (gR (gA rfl (gE (gRt (gr1 results220 rfl ⟨rfl, hm.below⟩)))))))

theorem laws_eqBlockS_ok (w0 : World) (a_ : List Block_) (v1 : Value) (h1 : GT.rep (hp w0) [v1] a_) (b_ : List Block_) (v2 : Value) (h2 : GT.rep (hp w0) [v2] b_) :
    ConM Tryz.prog 148 [v1, v2] w0 (laws_eqBlockS a_ b_) fun r v w' => v = (.bool (r)) ∧ Below w0.heap.size w0 w' := by
  unfold laws_eqBlockS
  refine gcon func148 rfl fun r => ?_
  have hm := Mem.start w0
  refine gS (gR (gA rfl (gE (gS (gS (gR (gM rfl ?_)))))))
  obtain ⟨p0_1, c0_1, rfl, hl0_1⟩ := ro_slice h1
  refine gY (yV st_55 rfl) (gM rfl ?_)
  obtain ⟨p0_2, c0_2, rfl, hl0_2⟩ := ro_slice h2
  refine gY (yV st_55 rfl) (gB rfl (gE (gsd 10 rfl (fun h0_1 => ?_) fun h0_1 => ?_)))
  ·
   exact gct rfl (gS (gR (gA rfl (gE (gRt (gr1 results148 rfl ⟨rfl, hm.below⟩))))))
  refine gcf rfl (gSk (gS (gS (gR (gA rfl (gE (gBk (gNf hm (fun i1_1 xs1_1 => [(0, (.slice p0_1 a_.length c0_1)), (1, (.slice p0_2 b_.length c0_2)), (5, (nV i1_1))]) (fun i1_1 xs1_1 => []) [] rfl ?_ ?_))))))))
  ·
   repeat clear hm
   intro r0_1 hq0_1 i1_1 xs1_1 w hm hi0_1 hi0_2 q0_1 ho0_1
   refine gS (gS (gR (gM rfl (gM rfl (gY (yV st_55 rfl) (gB rfl (gE (go _ 14 rfl (decide_eq_true (by omega)) (gct rfl (gSk (gS (gBk (gS (gW (.p 0 (.p 1 (.p 2 (.p 4 (.p 5 (.p 6 (.q 3 (.e 7 (.e 8 (.p 9 .fin) .nil) .nil)))))))) [7] [0, 1, 2, 4, 5, 6, 9] hm [] [] rfl mxo (by kernel_rfl) (fun _ _ _ h => h.2) fun w hm hS => tP rfl (fun w => yM rfl) (tP rfl (fun w => yM rfl) (gg fun x1_1 h1_1 hx1_2 => ?_))))))))))))))))
   obtain ⟨b1_1, o1_1, c1_1, he⟩ := idx_form' h1 hx1_2
   simp only [Value.slice.injEq, Option.some.injEq] at he; obtain ⟨rfl, _, rfl⟩ := he
   obtain ⟨v1_1, v1_2, v1_3, hc1_1, h1_2, h1_3, h1_4⟩ := rk_Block_ h1 hx1_2
   refine tP rfl (fun w => yI st_55 h1_1 (idx_lt hx1_2) rfl) (tP rfl (fun w => yM rfl) (tP rfl (fun w => yM rfl) (gg fun x1_2 h1_5 hx1_4 => ?_)))
   obtain ⟨b1_2, o1_2, c1_2, he⟩ := idx_form' h2 hx1_4
   simp only [Value.slice.injEq, Option.some.injEq] at he; obtain ⟨rfl, _, rfl⟩ := he
   obtain ⟨v1_4, v1_5, v1_6, hc1_2, h1_6, h1_7, h1_8⟩ := rk_Block_ h2 hx1_4
   refine tP rfl (fun w => yI st_55 h1_5 (idx_lt hx1_4) rfl) (tQ rfl hS (fun w hm => yn (hc1_1.mono hm.lez) isAgg104 sizeOf104 rfl) (tO (tY rfl (yn (hc1_2.mono hm.lez) isAgg104 sizeOf104 rfl) (tAs hS (tO (gb fun r1_1 hx1_5 => tf rfl rfl (fun a hf => e_call hf rfl call220 rfl (laws_eqBlock_ok _ x1_1 v1_1 (hm.now h1_2) v1_2 (hm.now h1_3) v1_3 (hm.now h1_4) x1_2 v1_4 (hm.now h1_6) v1_5 (hm.now h1_7) v1_6 (hm.now h1_8) _ hx1_5)) ?_))))))
   rintro v1_7 w ⟨rfl, hB⟩
   replace hm := hm.below' hB; clear hB
   refine tAn rfl (tP rfl (fun w => yN rfl) (tE (gsn 26 rfl (fun h1_9 => ?_) fun h1_9 => ?_)))
   ·
    exact gct rfl (gS (gR (gA rfl (gE (gRt (gLr ho0_1 hq0_1 (gr1 results148 rfl ⟨rfl, hm.below⟩)))))))
   exact gcf rfl (gSk (gR (gM rfl (gP (by omega) (by omega) rfl (gA rfl (gE (gze hm [] rfl)))))))
  repeat clear hm
  intro i0_1 xs0_1 w hm hi0_3 hi0_4
  exact gS (gS (gR (gM rfl (gM rfl (gY (yV st_55 rfl) (gB rfl (gE (go _ 14 rfl (decide_eq_false (by omega)) (gcf rfl (gXt (gHh (gS (gR (gA rfl (gE (gRt (gr1 results148 rfl ⟨rfl, hm.below⟩)))))))))))))))))

theorem laws_eqCode_ok (w0 : World) (a_ : Code_) (v1 : Value) (h1 : GT.rep (hp w0) [v1] a_.blocks) (b_ : Code_) (v2 : Value) (h2 : GT.rep (hp w0) [v2] b_.blocks) :
    ConM Tryz.prog 101 [(.agg #[(nV a_.params), (nV a_.regs), v1]), (.agg #[(nV b_.params), (nV b_.regs), v2])] w0 (laws_eqCode a_ b_) fun r v w' => v = (.bool (r)) ∧ Below w0.heap.size w0 w' := by
  unfold laws_eqCode
  refine gcon func101 rfl fun r => ?_
  have hm := Mem.start w0
  refine gS (gR (gBx hm rfl fun b0_1 w hm => gBx hm rfl fun b0_2 w hm => gA rfl (gE (gS (gS (gR (gF fo_57_0 rfl (gL hm 1 isAgg3 rfl (gF fo_57_0 rfl (gL hm 0 isAgg3 rfl (gB rfl (gE (gsd 9 rfl (fun h0_1 => ?_) fun h0_1 => ?_)))))))))))))
  ·
   exact gct rfl (gS (gR (gA rfl (gE (gRt (gr1 results101 rfl ⟨rfl, hm.below⟩))))))
  refine gcf rfl (gSk (gS (gS (gR (gF fo_57_1 rfl (gL hm 1 isAgg3 rfl (gF fo_57_1 rfl (gL hm 0 isAgg3 rfl (gB rfl (gE (gsd 14 rfl (fun h0_2 => ?_) fun h0_2 => ?_)))))))))))
  ·
   exact gct rfl (gS (gR (gA rfl (gE (gRt (gr1 results101 rfl ⟨rfl, hm.below⟩))))))
  refine gcf rfl (gSk (gS (gS (gR (gF fo_57_2 rfl (gL hm 1 isAgg55 rfl (gF fo_57_2 rfl (gL hm 0 isAgg55 rfl (gC hm rfl call148 (laws_eqBlockS_ok _ a_.blocks v1 (hm.now h1) b_.blocks v2 (hm.now h2)) fun r0_1 hx0_1 w hm => gN rfl (gE (gsn 20 rfl (fun h0_3 => ?_) fun h0_3 => ?_)))))))))))
  ·
   exact gct rfl (gS (gR (gA rfl (gE (gRt (gr1 results101 rfl ⟨rfl, hm.below⟩))))))
  exact gcf rfl (gSk (gS (gR (gA rfl (gE (gRt (gr1 results101 rfl ⟨rfl, hm.below⟩)))))))

theorem laws_eqCodeS_ok (w0 : World) (a_ : List Code_) (v1 : Value) (h1 : GT.rep (hp w0) [v1] a_) (b_ : List Code_) (v2 : Value) (h2 : GT.rep (hp w0) [v2] b_) :
    ConM Tryz.prog 55 [v1, v2] w0 (laws_eqCodeS a_ b_) fun r v w' => v = (.bool (r)) ∧ Below w0.heap.size w0 w' := by
  unfold laws_eqCodeS
  refine gcon func55 rfl fun r => ?_
  have hm := Mem.start w0
  refine gS (gR (gA rfl (gE (gS (gS (gR (gM rfl ?_)))))))
  obtain ⟨p0_1, c0_1, rfl, hl0_1⟩ := ro_slice h1
  refine gY (yV st_28 rfl) (gM rfl ?_)
  obtain ⟨p0_2, c0_2, rfl, hl0_2⟩ := ro_slice h2
  refine gY (yV st_28 rfl) (gB rfl (gE (gsd 10 rfl (fun h0_1 => ?_) fun h0_1 => ?_)))
  ·
   exact gct rfl (gS (gR (gA rfl (gE (gRt (gr1 results55 rfl ⟨rfl, hm.below⟩))))))
  refine gcf rfl (gSk (gS (gS (gR (gA rfl (gE (gBk (gNf hm (fun i1_1 xs1_1 => [(0, (.slice p0_1 a_.length c0_1)), (1, (.slice p0_2 b_.length c0_2)), (5, (nV i1_1))]) (fun i1_1 xs1_1 => []) [] rfl ?_ ?_))))))))
  ·
   repeat clear hm
   intro r0_1 hq0_1 i1_1 xs1_1 w hm hi0_1 hi0_2 q0_1 ho0_1
   refine gS (gS (gR (gM rfl (gM rfl (gY (yV st_28 rfl) (gB rfl (gE (go _ 14 rfl (decide_eq_true (by omega)) (gct rfl (gSk (gS (gBk (gS (gW (.p 0 (.p 1 (.p 2 (.p 4 (.p 5 (.p 6 (.q 3 (.e 7 (.e 8 (.p 9 .fin) .nil) .nil)))))))) [7] [0, 1, 2, 4, 5, 6, 9] hm [] [] rfl mxo (by kernel_rfl) (fun _ _ _ h => h.2) fun w hm hS => tP rfl (fun w => yM rfl) (tP rfl (fun w => yM rfl) (gg fun x1_1 h1_1 hx1_2 => ?_))))))))))))))))
   obtain ⟨b1_1, o1_1, c1_1, he⟩ := idx_form' h1 hx1_2
   simp only [Value.slice.injEq, Option.some.injEq] at he; obtain ⟨rfl, _, rfl⟩ := he
   obtain ⟨v1_1, hc1_1, h1_2⟩ := rk_Code_ h1 hx1_2
   refine tP rfl (fun w => yI st_28 h1_1 (idx_lt hx1_2) rfl) (tP rfl (fun w => yM rfl) (tP rfl (fun w => yM rfl) (gg fun x1_2 h1_3 hx1_4 => ?_)))
   obtain ⟨b1_2, o1_2, c1_2, he⟩ := idx_form' h2 hx1_4
   simp only [Value.slice.injEq, Option.some.injEq] at he; obtain ⟨rfl, _, rfl⟩ := he
   obtain ⟨v1_2, hc1_2, h1_4⟩ := rk_Code_ h2 hx1_4
   refine tP rfl (fun w => yI st_28 h1_3 (idx_lt hx1_4) rfl) (tQ rfl hS (fun w hm => yn (hc1_1.mono hm.lez) isAgg57 sizeOf57 rfl) (tO (tY rfl (yn (hc1_2.mono hm.lez) isAgg57 sizeOf57 rfl) (tAs hS (tO (gb fun r1_1 hx1_5 => tf rfl rfl (fun a hf => e_call hf rfl call101 rfl (laws_eqCode_ok _ x1_1 v1_1 (hm.now h1_2) x1_2 v1_2 (hm.now h1_4) _ hx1_5)) ?_))))))
   rintro v1_3 w ⟨rfl, hB⟩
   replace hm := hm.below' hB; clear hB
   refine tAn rfl (tP rfl (fun w => yN rfl) (tE (gsn 26 rfl (fun h1_5 => ?_) fun h1_5 => ?_)))
   ·
    exact gct rfl (gS (gR (gA rfl (gE (gRt (gLr ho0_1 hq0_1 (gr1 results55 rfl ⟨rfl, hm.below⟩)))))))
   exact gcf rfl (gSk (gR (gM rfl (gP (by omega) (by omega) rfl (gA rfl (gE (gze hm [] rfl)))))))
  repeat clear hm
  intro i0_1 xs0_1 w hm hi0_3 hi0_4
  exact gS (gS (gR (gM rfl (gM rfl (gY (yV st_28 rfl) (gB rfl (gE (go _ 14 rfl (decide_eq_false (by omega)) (gcf rfl (gXt (gHh (gS (gR (gA rfl (gE (gRt (gr1 results55 rfl ⟨rfl, hm.below⟩)))))))))))))))))

theorem laws_eqUnit_ok (w0 : World) (a_ : Unit_) (v1 : Value) (h1 : GT.rep (hp w0) [v1] a_.codes) (b_ : Unit_) (v2 : Value) (h2 : GT.rep (hp w0) [v2] b_.codes) :
    ConM Tryz.prog 19 [(.agg #[v1]), (.agg #[v2])] w0 (laws_eqUnit a_ b_) fun r v w' => v = (.bool (r)) ∧ Below w0.heap.size w0 w' := by
  unfold laws_eqUnit
  refine gcon func19 rfl fun r => ?_
  have hm := Mem.start w0
  refine gS (gR (gBx hm rfl fun b0_1 w hm => gBx hm rfl fun b0_2 w hm => gA rfl (gE (gS (gS (gR (gF fo_30_0 rfl (gL hm 1 isAgg28 rfl (gF fo_30_0 rfl (gL hm 0 isAgg28 rfl (gC hm rfl call55 (laws_eqCodeS_ok _ a_.codes v1 (hm.now h1) b_.codes v2 (hm.now h2)) fun r0_1 hx0_1 w hm => gN rfl (gE (gsn 10 rfl (fun h0_1 => ?_) fun h0_1 => ?_)))))))))))))
  ·
   exact gct rfl (gS (gR (gA rfl (gE (gRt (gr1 results19 rfl ⟨rfl, hm.below⟩))))))
  exact gcf rfl (gSk (gS (gR (gA rfl (gE (gRt (gr1 results19 rfl ⟨rfl, hm.below⟩)))))))

theorem laws_markIntS_ok (w0 : World) (hz : Heap) (a_ : List Int) (v1 : Value) (k_ : Int) (hm0 : Mem w0 hz w0 [ow [v1] a_]) :
    ConM Tryz.prog 29 [v1, (nV k_)] w0 (laws_markIntS a_ k_) fun r v w' => v = (nV r.1) ∧ Mem w0 hz w' [ow [v1] r.2] := by
  unfold laws_markIntS
  refine gcon func29 rfl fun r => ?_
  have hm := hm0
  refine gS (gR (gA rfl (gE (gS (gS (gR (gA rfl (gE ?_))))))))
  obtain ⟨p0_1, c0_1, rfl, hl0_1⟩ := ro_slice (hm.ow_rep 0 rfl)
  refine gBk (gNf hm (fun i1_1 xs1_1 => [(0, (.slice p0_1 a_.length c0_1)), (1, (nV xs1_1.2)), (5, (nV i1_1))]) (fun i1_1 xs1_1 => [ow [(.slice p0_1 a_.length c0_1)] xs1_1.1]) [0] rfl ?_ ?_)
  ·
   repeat clear hm
   intro _ _ i1_1 xs1_1 w hm hi0_1 hi0_2 q0_1 _
   refine gS (gS (gR (gM rfl (gM rfl ?_))))
   have hl1_1 := rep_len (hm.ow_rep 0 rfl)
   refine gY (yV st_37 rfl) (gB rfl (gE (go _ 9 rfl (decide_eq_true (by omega)) (gct rfl (gSk (gS (gBk (gS (gR (gM rfl (gM rfl (gM rfl (gg fun x1_1 h1_1 hx1_2 => ?_)))))))))))))
   obtain ⟨b1_1, o1_1, c1_1, he⟩ := idx_form (hm.ow_rep 0 rfl) hx1_2
   simp only [Value.slice.injEq, Option.some.injEq] at he; obtain ⟨rfl, _, rfl⟩ := he
   have hL1_1 := rep_slice_len (hm.ow_rep 0 rfl)
   refine gI st_37 h1_1 (idx_lt2 hx1_2 hL1_1) rfl (gf0 rfl (fun a hf => e_setElem (x1 := xs1_1.2) (j := 0) (vs := [(nV xs1_1.2)]) 0 hf hm rfl hx1_2 rfl sizeOf3 rfl rfl rfl (one_cons rfl one_nil) rfl rfl) ?_)
   rintro _ w hm
   have hx1_3 := List.getElem?_set_self (a := xs1_1.2) (idx_lt hx1_2)
   exact gE (gR (gM rfl (gB rfl (gA rfl (gE (gR (gM rfl (gP (by omega) (by omega) rfl (gA rfl (gE (gze hm [0] rfl)))))))))))
  repeat clear hm
  intro i0_1 xs0_1 w hm hi0_3 hi0_4
  refine gS (gS (gR (gM rfl (gM rfl ?_))))
  have hl0_2 := rep_len (hm.ow_rep 0 rfl)
  exact gY (yV st_37 rfl) (gB rfl (gE (go _ 9 rfl (decide_eq_false (by omega)) (gcf rfl (gXt (gHh (gS (gR (gM rfl (gA rfl (gE (gRt (gr1 results29 rfl ⟨rfl, hm.pk [0] rfl rfl⟩)))))))))))))

theorem laws_markPhiS_ok (w0 : World) (hz : Heap) (a_ : List Phi_) (v1 : Value) (k_ : Int) (hm0 : Mem w0 hz w0 [ow [v1] a_]) :
    ConM Tryz.prog 149 [v1, (nV k_)] w0 (laws_markPhiS a_ k_) fun r v w' => v = (nV r.1) ∧ Mem w0 hz w' [ow [v1] r.2] := by
  unfold laws_markPhiS
  refine gcon func149 rfl fun r => ?_
  have hm := hm0
  refine gS (gR (gA rfl (gE (gS (gS (gR (gA rfl (gE ?_))))))))
  obtain ⟨p0_1, c0_1, rfl, hl0_1⟩ := ro_slice (hm.ow_rep 0 rfl)
  refine gBk (gNf hm (fun i1_1 xs1_1 => [(0, (.slice p0_1 a_.length c0_1)), (1, (nV xs1_1.2)), (5, (nV i1_1))]) (fun i1_1 xs1_1 => [ow [(.slice p0_1 a_.length c0_1)] xs1_1.1]) [0] rfl ?_ ?_)
  ·
   repeat clear hm
   intro _ _ i1_1 xs1_1 w hm hi0_1 hi0_2 q0_1 _
   refine gS (gS (gR (gM rfl (gM rfl ?_))))
   have hl1_1 := rep_len (hm.ow_rep 0 rfl)
   refine gY (yV st_101 rfl) (gB rfl (gE (go _ 9 rfl (decide_eq_true (by omega)) (gct rfl (gSk (gS (gBk (gS (gR (gM rfl (gM rfl (gM rfl (gg fun x1_1 h1_1 hx1_2 => ?_)))))))))))))
   obtain ⟨b1_1, o1_1, c1_1, he⟩ := idx_form' (hm.ow_rep 0 rfl) hx1_2
   simp only [Value.slice.injEq, Option.some.injEq] at he; obtain ⟨rfl, _, rfl⟩ := he
   obtain ⟨v1_1, hc1_1, h1_2⟩ := rk_Phi_ (hm.ow_rep 0 rfl) hx1_2
   have hL1_1 := rep_slice_len (hm.ow_rep 0 rfl)
   refine gI st_101 h1_1 (idx_lt2 hx1_2 hL1_1) rfl (gF fo_143_0 rfl (gf0 rfl (fun a hf => e_setElemR (x1 := ((⟨xs1_1.2, x1_1.args⟩ : Phi_) : Phi_)) (j := 0) (vs := [(nV xs1_1.2)]) 0 hf hm rfl hx1_2 hc1_1 rfl (fun F h ho => (fun _ => own_fst_map (α := Int) (β := (List Int)) (cs := [(nV x1_1.to)]) (cs' := [(nV xs1_1.2)]) (ds := [v1_1]) rfl (fun _ _ => Flat.own_iff.2 rfl)) F ho) rfl sizeOf3 rfl rfl rfl (one_cons rfl one_nil) rfl) ?_))
   rintro _ w hm
   have hx1_3 := List.getElem?_set_self (a := ((⟨xs1_1.2, x1_1.args⟩ : Phi_) : Phi_)) (idx_lt hx1_2)
   refine gE (gS (gR (gM rfl (gB rfl (gA rfl (gE (gR (gM rfl (gM rfl ?_)))))))))
   obtain ⟨_, _, hc1_2, hr1_1⟩ := ro_get' (hm.ow_rep 0 rfl) hx1_3
   obtain ⟨_, _, rfl, rfl, h1_3⟩ := hr1_1
   obtain ⟨v1_2, rfl, -⟩ := id h1_3
   replace h1_3 : GT.rep (hp _) [v1_2] x1_1.args := h1_3
   replace hc1_2 : CellsAt (hp _) b1_1 (o1_1 + (i1_1).toNat * 2) [(nV xs1_1.2), v1_2] := hc1_2
   have hL1_2 := rep_slice_len (hm.ow_rep 0 rfl)
   refine gI st_101 h1_1 (idx_lt2 hx1_3 hL1_2) rfl (gF fo_143_1 rfl (gY (yl isAgg37 (hc1_2.cell (j := 1) rfl) rfl) (gM rfl ?_)))
   replace hm : Mem w0 hz _ [ow [v1_2] x1_1.args, hole [(sV b1_1 o1_1 a_.length c0_1)] [v1_2] (fun (y : List Int) => ((xs1_1.1.set (i1_1).toNat (⟨xs1_1.2, x1_1.args⟩ : Phi_)) : List Phi_).set (i1_1).toNat (⟨xs1_1.2, y⟩ : Phi_))] := hm.open 0 rfl (foc_elem hx1_3 hc1_2 rfl (show FocH (α := Phi_) _ _ (⟨xs1_1.2, x1_1.args⟩ : Phi_) [v1_2] x1_1.args (fun y => (⟨xs1_1.2, y⟩ : Phi_)) from (foc_snd (α := Int) (β := (List Int)) (cs := [(nV xs1_1.2)]) (ds := [v1_2]) (v := [v1_2]) (inner := x1_1.args) (x := x1_1.args) (z := xs1_1.2) (put := fun (y : List Int) => y) rfl (foc_id [v1_2] x1_1.args))))
   obtain ⟨hz1_1, hle, hm1, hsub, hk1_1⟩ := hm.take2 (L1 := [ow [v1_2] x1_1.args]) (L2 := [hole [(sV b1_1 o1_1 a_.length c0_1)] [v1_2] (fun (y : List Int) => ((xs1_1.1.set (i1_1).toNat (⟨xs1_1.2, x1_1.args⟩ : Phi_)) : List Phi_).set (i1_1).toNat (⟨xs1_1.2, y⟩ : Phi_))]) [0] [1] (by decide) rfl rfl
   refine gCg rfl call29 (laws_markIntS_ok _ hz1_1 x1_1.args v1_2 (w64 (xs1_1.2 + 1)) hm1 ) ?_
   rintro r1_1 hx1_4 v1_3 w ⟨rfl, hB⟩
   replace hm := hk1_1 _ _ hB; clear hB
   replace hm := (hm.shut 1 0 (by decide) rfl rfl).pk (L' := [ow [(sV b1_1 o1_1 a_.length c0_1)] ((xs1_1.1.set (i1_1).toNat (⟨xs1_1.2, x1_1.args⟩ : Phi_)).set (i1_1).toNat (⟨xs1_1.2, r1_1.2⟩ : Phi_))]) [1] rfl rfl
   exact gA rfl (gE (gR (gM rfl (gP (by omega) (by omega) rfl (gA rfl (gE (gze hm [0] rfl)))))))
  repeat clear hm
  intro i0_1 xs0_1 w hm hi0_3 hi0_4
  refine gS (gS (gR (gM rfl (gM rfl ?_))))
  have hl0_2 := rep_len (hm.ow_rep 0 rfl)
  exact gY (yV st_101 rfl) (gB rfl (gE (go _ 9 rfl (decide_eq_false (by omega)) (gcf rfl (gXt (gHh (gS (gR (gM rfl (gA rfl (gE (gRt (gr1 results149 rfl ⟨rfl, hm.pk [0] rfl rfl⟩)))))))))))))

theorem laws_markInsS_ok (w0 : World) (hz : Heap) (a_ : List Ins_) (v1 : Value) (k_ : Int) (hm0 : Mem w0 hz w0 [ow [v1] a_]) :
    ConM Tryz.prog 150 [v1, (nV k_)] w0 (laws_markInsS a_ k_) fun r v w' => v = (nV r.1) ∧ Mem w0 hz w' [ow [v1] r.2] := by
  unfold laws_markInsS
  refine gcon func150 rfl fun r => ?_
  have hm := hm0
  refine gS (gR (gA rfl (gE (gS (gS (gR (gA rfl (gE ?_))))))))
  obtain ⟨p0_1, c0_1, rfl, hl0_1⟩ := ro_slice (hm.ow_rep 0 rfl)
  refine gBk (gNf hm (fun i1_1 xs1_1 => [(0, (.slice p0_1 a_.length c0_1)), (1, (nV xs1_1.2)), (5, (nV i1_1))]) (fun i1_1 xs1_1 => [ow [(.slice p0_1 a_.length c0_1)] xs1_1.1]) [0] rfl ?_ ?_)
  ·
   repeat clear hm
   intro _ _ i1_1 xs1_1 w hm hi0_1 hi0_2 q0_1 _
   refine gS (gS (gR (gM rfl (gM rfl ?_))))
   have hl1_1 := rep_len (hm.ow_rep 0 rfl)
   refine gY (yV st_102 rfl) (gB rfl (gE (go _ 9 rfl (decide_eq_true (by omega)) (gct rfl (gSk (gS (gBk (gS (gR (gM rfl (gM rfl (gM rfl (gg fun x1_1 h1_1 hx1_2 => ?_)))))))))))))
   obtain ⟨b1_1, o1_1, c1_1, he⟩ := idx_form' (hm.ow_rep 0 rfl) hx1_2
   simp only [Value.slice.injEq, Option.some.injEq] at he; obtain ⟨rfl, _, rfl⟩ := he
   obtain ⟨v1_1, hc1_1, h1_2⟩ := rk_Ins_ (hm.ow_rep 0 rfl) hx1_2
   have hL1_1 := rep_slice_len (hm.ow_rep 0 rfl)
   refine gI st_102 h1_1 (idx_lt2 hx1_2 hL1_1) rfl (gF fo_106_0 rfl (gf0 rfl (fun a hf => e_setElemR (x1 := ((⟨xs1_1.2, x1_1.to, x1_1.args, x1_1.n_⟩ : Ins_) : Ins_)) (j := 0) (vs := [(nV xs1_1.2)]) 0 hf hm rfl hx1_2 hc1_1 rfl (fun F h ho => (fun _ => own_fst_map (α := Int) (β := Int × (List Int) × Int) (cs := [(nV x1_1.op)]) (cs' := [(nV xs1_1.2)]) (ds := [(nV x1_1.to), v1_1, (nV x1_1.n_)]) rfl (fun _ _ => Flat.own_iff.2 rfl)) F ho) rfl sizeOf3 rfl rfl rfl (one_cons rfl one_nil) rfl) ?_))
   rintro _ w hm
   have hx1_3 := List.getElem?_set_self (a := ((⟨xs1_1.2, x1_1.to, x1_1.args, x1_1.n_⟩ : Ins_) : Ins_)) (idx_lt hx1_2)
   refine gE (gS (gR (gM rfl (gB rfl (gA rfl (gE (gS (gR (gM rfl (gM rfl (gM rfl ?_)))))))))))
   obtain ⟨_, _, hc1_2, hr1_1⟩ := ro_get' (hm.ow_rep 0 rfl) hx1_3
   obtain ⟨_, _, rfl, rfl, _, _, rfl, rfl, _, _, rfl, h1_3, rfl⟩ := hr1_1
   obtain ⟨v1_2, rfl, -⟩ := id h1_3
   replace h1_3 : GT.rep (hp _) [v1_2] x1_1.args := h1_3
   replace hc1_2 : CellsAt (hp _) b1_1 (o1_1 + (i1_1).toNat * 4) [(nV xs1_1.2), (nV x1_1.to), v1_2, (nV x1_1.n_)] := hc1_2
   have hL1_2 := rep_slice_len (hm.ow_rep 0 rfl)
   refine gI st_102 h1_1 (idx_lt2 hx1_3 hL1_2) rfl (gF fo_106_1 rfl (gf0 rfl (fun a hf => e_setElemR (x1 := ((⟨xs1_1.2, w64 (xs1_1.2 + 1), x1_1.args, x1_1.n_⟩ : Ins_) : Ins_)) (j := 1) (vs := [(nV (w64 (xs1_1.2 + 1)))]) 0 hf hm rfl hx1_3 hc1_2 rfl (fun F h ho => (fun _ => own_snd_map (α := Int) (β := Int × (List Int) × Int) (cs := [(nV xs1_1.2)]) (ds := [(nV x1_1.to), v1_2, (nV x1_1.n_)]) (ds' := [(nV (w64 (xs1_1.2 + 1))), v1_2, (nV x1_1.n_)]) rfl (fun _ => own_fst_map (α := Int) (β := (List Int) × Int) (cs := [(nV x1_1.to)]) (cs' := [(nV (w64 (xs1_1.2 + 1)))]) (ds := [v1_2, (nV x1_1.n_)]) rfl (fun _ _ => Flat.own_iff.2 rfl))) F ho) rfl sizeOf3 rfl rfl rfl (one_cons rfl one_nil) rfl) ?_))
   rintro _ w hm
   have hx1_4 := List.getElem?_set_self (a := ((⟨xs1_1.2, w64 (xs1_1.2 + 1), x1_1.args, x1_1.n_⟩ : Ins_) : Ins_)) (idx_lt hx1_3)
   refine gE (gS (gR (gM rfl (gB rfl (gA rfl (gE (gS (gR (gM rfl (gM rfl ?_))))))))))
   obtain ⟨_, _, hc1_3, hr1_2⟩ := ro_get' (hm.ow_rep 0 rfl) hx1_4
   obtain ⟨_, _, rfl, rfl, _, _, rfl, rfl, _, _, rfl, h1_4, rfl⟩ := hr1_2
   obtain ⟨v1_3, rfl, -⟩ := id h1_4
   replace h1_4 : GT.rep (hp _) [v1_3] x1_1.args := h1_4
   replace hc1_3 : CellsAt (hp _) b1_1 (o1_1 + (i1_1).toNat * 4) [(nV xs1_1.2), (nV (w64 (xs1_1.2 + 1))), v1_3, (nV x1_1.n_)] := hc1_3
   have hL1_3 := rep_slice_len (hm.ow_rep 0 rfl)
   refine gI st_102 h1_1 (idx_lt2 hx1_4 hL1_3) rfl (gF fo_106_2 rfl (gY (yl isAgg37 (hc1_3.cell (j := 2) rfl) rfl) (gM rfl ?_)))
   replace hm : Mem w0 hz _ [ow [v1_3] x1_1.args, hole [(sV b1_1 o1_1 a_.length c0_1)] [v1_3] (fun (y : List Int) => (((xs1_1.1.set (i1_1).toNat (⟨xs1_1.2, x1_1.to, x1_1.args, x1_1.n_⟩ : Ins_)).set (i1_1).toNat (⟨xs1_1.2, w64 (xs1_1.2 + 1), x1_1.args, x1_1.n_⟩ : Ins_)) : List Ins_).set (i1_1).toNat (⟨xs1_1.2, w64 (xs1_1.2 + 1), y, x1_1.n_⟩ : Ins_))] := hm.open 0 rfl (foc_elem hx1_4 hc1_3 rfl (show FocH (α := Ins_) _ _ (⟨xs1_1.2, w64 (xs1_1.2 + 1), x1_1.args, x1_1.n_⟩ : Ins_) [v1_3] x1_1.args (fun y => (⟨xs1_1.2, w64 (xs1_1.2 + 1), y, x1_1.n_⟩ : Ins_)) from (foc_snd (α := Int) (β := Int × (List Int) × Int) (cs := [(nV xs1_1.2)]) (ds := [(nV (w64 (xs1_1.2 + 1))), v1_3, (nV x1_1.n_)]) (v := [v1_3]) (inner := x1_1.args) (x := (w64 (xs1_1.2 + 1), x1_1.args, x1_1.n_)) (z := xs1_1.2) (put := fun (y : List Int) => (w64 (xs1_1.2 + 1), y, x1_1.n_)) rfl (foc_snd (α := Int) (β := (List Int) × Int) (cs := [(nV (w64 (xs1_1.2 + 1)))]) (ds := [v1_3, (nV x1_1.n_)]) (v := [v1_3]) (inner := x1_1.args) (x := (x1_1.args, x1_1.n_)) (z := w64 (xs1_1.2 + 1)) (put := fun (y : List Int) => (y, x1_1.n_)) rfl (foc_fst (α := List Int) (β := Int) (cs := [v1_3]) (ds := [(nV x1_1.n_)]) (v := [v1_3]) (inner := x1_1.args) (x := x1_1.args) (z := x1_1.n_) (put := fun (y : List Int) => y) rfl (foc_id [v1_3] x1_1.args))))))
   obtain ⟨hz1_1, hle, hm1, hsub, hk1_1⟩ := hm.take2 (L1 := [ow [v1_3] x1_1.args]) (L2 := [hole [(sV b1_1 o1_1 a_.length c0_1)] [v1_3] (fun (y : List Int) => (((xs1_1.1.set (i1_1).toNat (⟨xs1_1.2, x1_1.to, x1_1.args, x1_1.n_⟩ : Ins_)).set (i1_1).toNat (⟨xs1_1.2, w64 (xs1_1.2 + 1), x1_1.args, x1_1.n_⟩ : Ins_)) : List Ins_).set (i1_1).toNat (⟨xs1_1.2, w64 (xs1_1.2 + 1), y, x1_1.n_⟩ : Ins_))]) [0] [1] (by decide) rfl rfl
   refine gCg rfl call29 (laws_markIntS_ok _ hz1_1 x1_1.args v1_3 (w64 ((w64 (xs1_1.2 + 1)) + 1)) hm1 ) ?_
   rintro r1_1 hx1_5 v1_4 w ⟨rfl, hB⟩
   replace hm := hk1_1 _ _ hB; clear hB
   replace hm := (hm.shut 1 0 (by decide) rfl rfl).pk (L' := [ow [(sV b1_1 o1_1 a_.length c0_1)] (((xs1_1.1.set (i1_1).toNat (⟨xs1_1.2, x1_1.to, x1_1.args, x1_1.n_⟩ : Ins_)).set (i1_1).toNat (⟨xs1_1.2, w64 (xs1_1.2 + 1), x1_1.args, x1_1.n_⟩ : Ins_)).set (i1_1).toNat (⟨xs1_1.2, w64 (xs1_1.2 + 1), r1_1.2, x1_1.n_⟩ : Ins_))]) [1] rfl rfl
   refine gA rfl (gE (gS (gR (gM rfl (gM rfl (gM rfl (gg fun x1_2 h1_5 hx1_7 => ?_)))))))
   obtain ⟨v1_5, hc1_4, h1_6⟩ := rk_Ins_ (hm.ow_rep 0 rfl) hx1_7
   have hL1_4 := rep_slice_len (hm.ow_rep 0 rfl)
   refine gI st_102 h1_5 (idx_lt2 hx1_7 hL1_4) rfl (gF fo_106_3 rfl (gf0 rfl (fun a hf => e_setElemR (x1 := ((⟨x1_2.op, x1_2.to, x1_2.args, r1_1.1⟩ : Ins_) : Ins_)) (j := 3) (vs := [(nV r1_1.1)]) 0 hf hm rfl hx1_7 hc1_4 rfl (fun F h ho => (fun _ => own_snd_map (α := Int) (β := Int × (List Int) × Int) (cs := [(nV x1_2.op)]) (ds := [(nV x1_2.to), v1_5, (nV x1_2.n_)]) (ds' := [(nV x1_2.to), v1_5, (nV r1_1.1)]) rfl (fun _ => own_snd_map (α := Int) (β := (List Int) × Int) (cs := [(nV x1_2.to)]) (ds := [v1_5, (nV x1_2.n_)]) (ds' := [v1_5, (nV r1_1.1)]) rfl (fun _ => own_snd_map (α := List Int) (β := Int) (cs := [v1_5]) (ds := [(nV x1_2.n_)]) (ds' := [(nV r1_1.1)]) rfl (fun _ _ => Flat.own_iff.2 rfl)))) F ho) rfl sizeOf3 rfl rfl rfl (one_cons rfl one_nil) rfl) ?_))
   rintro _ w hm
   have hx1_8 := List.getElem?_set_self (a := ((⟨x1_2.op, x1_2.to, x1_2.args, r1_1.1⟩ : Ins_) : Ins_)) (idx_lt hx1_7)
   exact gE (gR (gM rfl (gB rfl (gA rfl (gE (gR (gM rfl (gP (by omega) (by omega) rfl (gA rfl (gE (gze hm [0] rfl)))))))))))
  repeat clear hm
  intro i0_1 xs0_1 w hm hi0_3 hi0_4
  refine gS (gS (gR (gM rfl (gM rfl ?_))))
  have hl0_2 := rep_len (hm.ow_rep 0 rfl)
  exact gY (yV st_102 rfl) (gB rfl (gE (go _ 9 rfl (decide_eq_false (by omega)) (gcf rfl (gXt (gHh (gS (gR (gM rfl (gA rfl (gE (gRt (gr1 results150 rfl ⟨rfl, hm.pk [0] rfl rfl⟩)))))))))))))

theorem laws_markBlockS_ok (w0 : World) (hz : Heap) (a_ : List Block_) (v1 : Value) (k_ : Int) (hm0 : Mem w0 hz w0 [ow [v1] a_]) :
    ConM Tryz.prog 102 [v1, (nV k_)] w0 (laws_markBlockS a_ k_) fun r v w' => v = (nV r.1) ∧ Mem w0 hz w' [ow [v1] r.2] := by
  unfold laws_markBlockS
  refine gcon func102 rfl fun r => ?_
  have hm := hm0
  refine gS (gR (gA rfl (gE (gS (gS (gR (gA rfl (gE ?_))))))))
  obtain ⟨p0_1, c0_1, rfl, hl0_1⟩ := ro_slice (hm.ow_rep 0 rfl)
  refine gBk (gNf hm (fun i1_1 xs1_1 => [(0, (.slice p0_1 a_.length c0_1)), (1, (nV xs1_1.2)), (5, (nV i1_1))]) (fun i1_1 xs1_1 => [ow [(.slice p0_1 a_.length c0_1)] xs1_1.1]) [0] rfl ?_ ?_)
  ·
   repeat clear hm
   intro _ _ i1_1 xs1_1 w hm hi0_1 hi0_2 q0_1 _
   refine gS (gS (gR (gM rfl (gM rfl ?_))))
   have hl1_1 := rep_len (hm.ow_rep 0 rfl)
   refine gY (yV st_55 rfl) (gB rfl (gE (go _ 9 rfl (decide_eq_true (by omega)) (gct rfl (gSk (gS (gBk (gS (gR (gM rfl (gM rfl (gg fun x1_1 h1_1 hx1_2 => ?_))))))))))))
   obtain ⟨b1_1, o1_1, c1_1, he⟩ := idx_form' (hm.ow_rep 0 rfl) hx1_2
   simp only [Value.slice.injEq, Option.some.injEq] at he; obtain ⟨rfl, _, rfl⟩ := he
   obtain ⟨v1_1, v1_2, v1_3, hc1_1, h1_2, h1_3, h1_4⟩ := rk_Block_ (hm.ow_rep 0 rfl) hx1_2
   have hL1_1 := rep_slice_len (hm.ow_rep 0 rfl)
   refine gI st_55 h1_1 (idx_lt2 hx1_2 hL1_1) rfl (gF fo_104_0 rfl (gY (yl isAgg101 (hc1_1.cell (j := 0) rfl) rfl) (gM rfl ?_)))
   replace hm : Mem w0 hz _ [ow [v1_1] x1_1.phis, hole [(sV b1_1 o1_1 a_.length c0_1)] [v1_1] (fun (y : List Phi_) => (xs1_1.1 : List Block_).set (i1_1).toNat (⟨y, x1_1.ins, x1_1.jump, x1_1.on, x1_1.next_⟩ : Block_))] := hm.open 0 rfl (foc_elem hx1_2 hc1_1 rfl (show FocH (α := Block_) _ _ x1_1 [v1_1] x1_1.phis (fun y => (⟨y, x1_1.ins, x1_1.jump, x1_1.on, x1_1.next_⟩ : Block_)) from (foc_fst (α := List Phi_) (β := (List Ins_) × Int × Int × (List Int)) (cs := [v1_1]) (ds := [v1_2, (nV x1_1.jump), (nV x1_1.on), v1_3]) (v := [v1_1]) (inner := x1_1.phis) (x := x1_1.phis) (z := (x1_1.ins, x1_1.jump, x1_1.on, x1_1.next_)) (put := fun (y : List Phi_) => y) rfl (foc_id [v1_1] x1_1.phis))))
   obtain ⟨hz1_1, hle, hm1, hsub, hk1_1⟩ := hm.take2 (L1 := [ow [v1_1] x1_1.phis]) (L2 := [hole [(sV b1_1 o1_1 a_.length c0_1)] [v1_1] (fun (y : List Phi_) => (xs1_1.1 : List Block_).set (i1_1).toNat (⟨y, x1_1.ins, x1_1.jump, x1_1.on, x1_1.next_⟩ : Block_))]) [0] [1] (by decide) rfl rfl
   refine gCg rfl call149 (laws_markPhiS_ok _ hz1_1 x1_1.phis v1_1 xs1_1.2 hm1 ) ?_
   rintro r1_1 hx1_3 v1_4 w ⟨rfl, hB⟩
   replace hm := hk1_1 _ _ hB; clear hB
   replace hm := (hm.shut 1 0 (by decide) rfl rfl).pk (L' := [ow [(sV b1_1 o1_1 a_.length c0_1)] (xs1_1.1.set (i1_1).toNat (⟨r1_1.2, x1_1.ins, x1_1.jump, x1_1.on, x1_1.next_⟩ : Block_))]) [1] rfl rfl
   refine gA rfl (gE (gS (gR (gM rfl (gM rfl (gg fun x1_2 h1_5 hx1_5 => ?_))))))
   obtain ⟨v1_5, v1_6, v1_7, hc1_2, h1_6, h1_7, h1_8⟩ := rk_Block_ (hm.ow_rep 0 rfl) hx1_5
   have hL1_2 := rep_slice_len (hm.ow_rep 0 rfl)
   refine gI st_55 h1_5 (idx_lt2 hx1_5 hL1_2) rfl (gF fo_104_1 rfl (gY (yl isAgg102 (hc1_2.cell (j := 1) rfl) rfl) (gM rfl ?_)))
   replace hm : Mem w0 hz _ [ow [v1_6] x1_2.ins, hole [(sV b1_1 o1_1 a_.length c0_1)] [v1_6] (fun (y : List Ins_) => ((xs1_1.1.set (i1_1).toNat (⟨r1_1.2, x1_1.ins, x1_1.jump, x1_1.on, x1_1.next_⟩ : Block_)) : List Block_).set (i1_1).toNat (⟨x1_2.phis, y, x1_2.jump, x1_2.on, x1_2.next_⟩ : Block_))] := hm.open 0 rfl (foc_elem hx1_5 hc1_2 rfl (show FocH (α := Block_) _ _ x1_2 [v1_6] x1_2.ins (fun y => (⟨x1_2.phis, y, x1_2.jump, x1_2.on, x1_2.next_⟩ : Block_)) from (foc_snd (α := List Phi_) (β := (List Ins_) × Int × Int × (List Int)) (cs := [v1_5]) (ds := [v1_6, (nV x1_2.jump), (nV x1_2.on), v1_7]) (v := [v1_6]) (inner := x1_2.ins) (x := (x1_2.ins, x1_2.jump, x1_2.on, x1_2.next_)) (z := x1_2.phis) (put := fun (y : List Ins_) => (y, x1_2.jump, x1_2.on, x1_2.next_)) rfl (foc_fst (α := List Ins_) (β := Int × Int × (List Int)) (cs := [v1_6]) (ds := [(nV x1_2.jump), (nV x1_2.on), v1_7]) (v := [v1_6]) (inner := x1_2.ins) (x := x1_2.ins) (z := (x1_2.jump, x1_2.on, x1_2.next_)) (put := fun (y : List Ins_) => y) rfl (foc_id [v1_6] x1_2.ins)))))
   obtain ⟨hz1_3, hle, hm1, hsub, hk1_2⟩ := hm.take2 (L1 := [ow [v1_6] x1_2.ins]) (L2 := [hole [(sV b1_1 o1_1 a_.length c0_1)] [v1_6] (fun (y : List Ins_) => ((xs1_1.1.set (i1_1).toNat (⟨r1_1.2, x1_1.ins, x1_1.jump, x1_1.on, x1_1.next_⟩ : Block_)) : List Block_).set (i1_1).toNat (⟨x1_2.phis, y, x1_2.jump, x1_2.on, x1_2.next_⟩ : Block_))]) [0] [1] (by decide) rfl rfl
   refine gCg rfl call150 (laws_markInsS_ok _ hz1_3 x1_2.ins v1_6 r1_1.1 hm1 ) ?_
   rintro r1_2 hx1_6 v1_8 w ⟨rfl, hB⟩
   replace hm := hk1_2 _ _ hB; clear hB
   replace hm := (hm.shut 1 0 (by decide) rfl rfl).pk (L' := [ow [(sV b1_1 o1_1 a_.length c0_1)] ((xs1_1.1.set (i1_1).toNat (⟨r1_1.2, x1_1.ins, x1_1.jump, x1_1.on, x1_1.next_⟩ : Block_)).set (i1_1).toNat (⟨x1_2.phis, r1_2.2, x1_2.jump, x1_2.on, x1_2.next_⟩ : Block_))]) [1] rfl rfl
   refine gA rfl (gE (gS (gR (gM rfl (gM rfl (gM rfl (gg fun x1_3 h1_9 hx1_8 => ?_)))))))
   obtain ⟨v1_9, v1_10, v1_11, hc1_3, h1_10, h1_11, h1_12⟩ := rk_Block_ (hm.ow_rep 0 rfl) hx1_8
   have hL1_3 := rep_slice_len (hm.ow_rep 0 rfl)
   refine gI st_55 h1_9 (idx_lt2 hx1_8 hL1_3) rfl (gF fo_104_2 rfl (gf0 rfl (fun a hf => e_setElemR (x1 := ((⟨x1_3.phis, x1_3.ins, r1_2.1, x1_3.on, x1_3.next_⟩ : Block_) : Block_)) (j := 2) (vs := [(nV r1_2.1)]) 0 hf hm rfl hx1_8 hc1_3 rfl (fun F h ho => (fun _ => own_snd_map (α := List Phi_) (β := (List Ins_) × Int × Int × (List Int)) (cs := [v1_9]) (ds := [v1_10, (nV x1_3.jump), (nV x1_3.on), v1_11]) (ds' := [v1_10, (nV r1_2.1), (nV x1_3.on), v1_11]) rfl (fun _ => own_snd_map (α := List Ins_) (β := Int × Int × (List Int)) (cs := [v1_10]) (ds := [(nV x1_3.jump), (nV x1_3.on), v1_11]) (ds' := [(nV r1_2.1), (nV x1_3.on), v1_11]) rfl (fun _ => own_fst_map (α := Int) (β := Int × (List Int)) (cs := [(nV x1_3.jump)]) (cs' := [(nV r1_2.1)]) (ds := [(nV x1_3.on), v1_11]) rfl (fun _ _ => Flat.own_iff.2 rfl)))) F ho) rfl sizeOf3 rfl rfl rfl (one_cons rfl one_nil) rfl) ?_))
   rintro _ w hm
   have hx1_9 := List.getElem?_set_self (a := ((⟨x1_3.phis, x1_3.ins, r1_2.1, x1_3.on, x1_3.next_⟩ : Block_) : Block_)) (idx_lt hx1_8)
   refine gE (gS (gR (gM rfl (gB rfl (gA rfl (gE (gS (gR (gM rfl (gM rfl (gM rfl ?_)))))))))))
   obtain ⟨_, _, hc1_4, hr1_1⟩ := ro_get' (hm.ow_rep 0 rfl) hx1_9
   obtain ⟨_, _, rfl, h1_13, _, _, rfl, h1_14, _, _, rfl, rfl, _, _, rfl, rfl, h1_15⟩ := hr1_1
   obtain ⟨v1_12, rfl, -⟩ := id h1_13
   replace h1_13 : GT.rep (hp _) [v1_12] x1_3.phis := h1_13
   obtain ⟨v1_13, rfl, -⟩ := id h1_14
   replace h1_14 : GT.rep (hp _) [v1_13] x1_3.ins := h1_14
   obtain ⟨v1_14, rfl, -⟩ := id h1_15
   replace h1_15 : GT.rep (hp _) [v1_14] x1_3.next_ := h1_15
   replace hc1_4 : CellsAt (hp _) b1_1 (o1_1 + (i1_1).toNat * 5) [v1_12, v1_13, (nV r1_2.1), (nV x1_3.on), v1_14] := hc1_4
   have hL1_4 := rep_slice_len (hm.ow_rep 0 rfl)
   refine gI st_55 h1_9 (idx_lt2 hx1_9 hL1_4) rfl (gF fo_104_3 rfl (gf0 rfl (fun a hf => e_setElemR (x1 := ((⟨x1_3.phis, x1_3.ins, r1_2.1, w64 (r1_2.1 + 1), x1_3.next_⟩ : Block_) : Block_)) (j := 3) (vs := [(nV (w64 (r1_2.1 + 1)))]) 0 hf hm rfl hx1_9 hc1_4 rfl (fun F h ho => (fun _ => own_snd_map (α := List Phi_) (β := (List Ins_) × Int × Int × (List Int)) (cs := [v1_12]) (ds := [v1_13, (nV r1_2.1), (nV x1_3.on), v1_14]) (ds' := [v1_13, (nV r1_2.1), (nV (w64 (r1_2.1 + 1))), v1_14]) rfl (fun _ => own_snd_map (α := List Ins_) (β := Int × Int × (List Int)) (cs := [v1_13]) (ds := [(nV r1_2.1), (nV x1_3.on), v1_14]) (ds' := [(nV r1_2.1), (nV (w64 (r1_2.1 + 1))), v1_14]) rfl (fun _ => own_snd_map (α := Int) (β := Int × (List Int)) (cs := [(nV r1_2.1)]) (ds := [(nV x1_3.on), v1_14]) (ds' := [(nV (w64 (r1_2.1 + 1))), v1_14]) rfl (fun _ => own_fst_map (α := Int) (β := (List Int)) (cs := [(nV x1_3.on)]) (cs' := [(nV (w64 (r1_2.1 + 1)))]) (ds := [v1_14]) rfl (fun _ _ => Flat.own_iff.2 rfl))))) F ho) rfl sizeOf3 rfl rfl rfl (one_cons rfl one_nil) rfl) ?_))
   rintro _ w hm
   have hx1_10 := List.getElem?_set_self (a := ((⟨x1_3.phis, x1_3.ins, r1_2.1, w64 (r1_2.1 + 1), x1_3.next_⟩ : Block_) : Block_)) (idx_lt hx1_9)
   refine gE (gS (gR (gM rfl (gB rfl (gA rfl (gE (gR (gM rfl (gM rfl ?_)))))))))
   obtain ⟨_, _, hc1_5, hr1_2⟩ := ro_get' (hm.ow_rep 0 rfl) hx1_10
   obtain ⟨_, _, rfl, h1_16, _, _, rfl, h1_17, _, _, rfl, rfl, _, _, rfl, rfl, h1_18⟩ := hr1_2
   obtain ⟨v1_15, rfl, -⟩ := id h1_16
   replace h1_16 : GT.rep (hp _) [v1_15] x1_3.phis := h1_16
   obtain ⟨v1_16, rfl, -⟩ := id h1_17
   replace h1_17 : GT.rep (hp _) [v1_16] x1_3.ins := h1_17
   obtain ⟨v1_17, rfl, -⟩ := id h1_18
   replace h1_18 : GT.rep (hp _) [v1_17] x1_3.next_ := h1_18
   replace hc1_5 : CellsAt (hp _) b1_1 (o1_1 + (i1_1).toNat * 5) [v1_15, v1_16, (nV r1_2.1), (nV (w64 (r1_2.1 + 1))), v1_17] := hc1_5
   have hL1_5 := rep_slice_len (hm.ow_rep 0 rfl)
   refine gI st_55 h1_9 (idx_lt2 hx1_10 hL1_5) rfl (gF fo_104_4 rfl (gY (yl isAgg37 (hc1_5.cell (j := 4) rfl) rfl) (gM rfl ?_)))
   replace hm : Mem w0 hz _ [ow [v1_17] x1_3.next_, hole [(sV b1_1 o1_1 a_.length c0_1)] [v1_17] (fun (y : List Int) => (((((xs1_1.1.set (i1_1).toNat (⟨r1_1.2, x1_1.ins, x1_1.jump, x1_1.on, x1_1.next_⟩ : Block_)).set (i1_1).toNat (⟨x1_2.phis, r1_2.2, x1_2.jump, x1_2.on, x1_2.next_⟩ : Block_)).set (i1_1).toNat (⟨x1_3.phis, x1_3.ins, r1_2.1, x1_3.on, x1_3.next_⟩ : Block_)).set (i1_1).toNat (⟨x1_3.phis, x1_3.ins, r1_2.1, w64 (r1_2.1 + 1), x1_3.next_⟩ : Block_)) : List Block_).set (i1_1).toNat (⟨x1_3.phis, x1_3.ins, r1_2.1, w64 (r1_2.1 + 1), y⟩ : Block_))] := hm.open 0 rfl (foc_elem hx1_10 hc1_5 rfl (show FocH (α := Block_) _ _ (⟨x1_3.phis, x1_3.ins, r1_2.1, w64 (r1_2.1 + 1), x1_3.next_⟩ : Block_) [v1_17] x1_3.next_ (fun y => (⟨x1_3.phis, x1_3.ins, r1_2.1, w64 (r1_2.1 + 1), y⟩ : Block_)) from (foc_snd (α := List Phi_) (β := (List Ins_) × Int × Int × (List Int)) (cs := [v1_15]) (ds := [v1_16, (nV r1_2.1), (nV (w64 (r1_2.1 + 1))), v1_17]) (v := [v1_17]) (inner := x1_3.next_) (x := (x1_3.ins, r1_2.1, w64 (r1_2.1 + 1), x1_3.next_)) (z := x1_3.phis) (put := fun (y : List Int) => (x1_3.ins, r1_2.1, w64 (r1_2.1 + 1), y)) rfl (foc_snd (α := List Ins_) (β := Int × Int × (List Int)) (cs := [v1_16]) (ds := [(nV r1_2.1), (nV (w64 (r1_2.1 + 1))), v1_17]) (v := [v1_17]) (inner := x1_3.next_) (x := (r1_2.1, w64 (r1_2.1 + 1), x1_3.next_)) (z := x1_3.ins) (put := fun (y : List Int) => (r1_2.1, w64 (r1_2.1 + 1), y)) rfl (foc_snd (α := Int) (β := Int × (List Int)) (cs := [(nV r1_2.1)]) (ds := [(nV (w64 (r1_2.1 + 1))), v1_17]) (v := [v1_17]) (inner := x1_3.next_) (x := (w64 (r1_2.1 + 1), x1_3.next_)) (z := r1_2.1) (put := fun (y : List Int) => (w64 (r1_2.1 + 1), y)) rfl (foc_snd (α := Int) (β := (List Int)) (cs := [(nV (w64 (r1_2.1 + 1)))]) (ds := [v1_17]) (v := [v1_17]) (inner := x1_3.next_) (x := x1_3.next_) (z := w64 (r1_2.1 + 1)) (put := fun (y : List Int) => y) rfl (foc_id [v1_17] x1_3.next_)))))))
   obtain ⟨hz1_5, hle, hm1, hsub, hk1_3⟩ := hm.take2 (L1 := [ow [v1_17] x1_3.next_]) (L2 := [hole [(sV b1_1 o1_1 a_.length c0_1)] [v1_17] (fun (y : List Int) => (((((xs1_1.1.set (i1_1).toNat (⟨r1_1.2, x1_1.ins, x1_1.jump, x1_1.on, x1_1.next_⟩ : Block_)).set (i1_1).toNat (⟨x1_2.phis, r1_2.2, x1_2.jump, x1_2.on, x1_2.next_⟩ : Block_)).set (i1_1).toNat (⟨x1_3.phis, x1_3.ins, r1_2.1, x1_3.on, x1_3.next_⟩ : Block_)).set (i1_1).toNat (⟨x1_3.phis, x1_3.ins, r1_2.1, w64 (r1_2.1 + 1), x1_3.next_⟩ : Block_)) : List Block_).set (i1_1).toNat (⟨x1_3.phis, x1_3.ins, r1_2.1, w64 (r1_2.1 + 1), y⟩ : Block_))]) [0] [1] (by decide) rfl rfl
   refine gCg rfl call29 (laws_markIntS_ok _ hz1_5 x1_3.next_ v1_17 (w64 ((w64 (r1_2.1 + 1)) + 1)) hm1 ) ?_
   rintro r1_3 hx1_11 v1_18 w ⟨rfl, hB⟩
   replace hm := hk1_3 _ _ hB; clear hB
   replace hm := (hm.shut 1 0 (by decide) rfl rfl).pk (L' := [ow [(sV b1_1 o1_1 a_.length c0_1)] (((((xs1_1.1.set (i1_1).toNat (⟨r1_1.2, x1_1.ins, x1_1.jump, x1_1.on, x1_1.next_⟩ : Block_)).set (i1_1).toNat (⟨x1_2.phis, r1_2.2, x1_2.jump, x1_2.on, x1_2.next_⟩ : Block_)).set (i1_1).toNat (⟨x1_3.phis, x1_3.ins, r1_2.1, x1_3.on, x1_3.next_⟩ : Block_)).set (i1_1).toNat (⟨x1_3.phis, x1_3.ins, r1_2.1, w64 (r1_2.1 + 1), x1_3.next_⟩ : Block_)).set (i1_1).toNat (⟨x1_3.phis, x1_3.ins, r1_2.1, w64 (r1_2.1 + 1), r1_3.2⟩ : Block_))]) [1] rfl rfl
   exact gA rfl (gE (gR (gM rfl (gP (by omega) (by omega) rfl (gA rfl (gE (gze hm [0] rfl)))))))
  repeat clear hm
  intro i0_1 xs0_1 w hm hi0_3 hi0_4
  refine gS (gS (gR (gM rfl (gM rfl ?_))))
  have hl0_2 := rep_len (hm.ow_rep 0 rfl)
  exact gY (yV st_55 rfl) (gB rfl (gE (go _ 9 rfl (decide_eq_false (by omega)) (gcf rfl (gXt (gHh (gS (gR (gM rfl (gA rfl (gE (gRt (gr1 results102 rfl ⟨rfl, hm.pk [0] rfl rfl⟩)))))))))))))

theorem laws_markCodeS_ok (w0 : World) (hz : Heap) (a_ : List Code_) (v1 : Value) (k_ : Int) (hm0 : Mem w0 hz w0 [ow [v1] a_]) :
    ConM Tryz.prog 56 [v1, (nV k_)] w0 (laws_markCodeS a_ k_) fun r v w' => v = (nV r.1) ∧ Mem w0 hz w' [ow [v1] r.2] := by
  unfold laws_markCodeS
  refine gcon func56 rfl fun r => ?_
  have hm := hm0
  refine gS (gR (gA rfl (gE (gS (gS (gR (gA rfl (gE ?_))))))))
  obtain ⟨p0_1, c0_1, rfl, hl0_1⟩ := ro_slice (hm.ow_rep 0 rfl)
  refine gBk (gNf hm (fun i1_1 xs1_1 => [(0, (.slice p0_1 a_.length c0_1)), (1, (nV xs1_1.2)), (5, (nV i1_1))]) (fun i1_1 xs1_1 => [ow [(.slice p0_1 a_.length c0_1)] xs1_1.1]) [0] rfl ?_ ?_)
  ·
   repeat clear hm
   intro _ _ i1_1 xs1_1 w hm hi0_1 hi0_2 q0_1 _
   refine gS (gS (gR (gM rfl (gM rfl ?_))))
   have hl1_1 := rep_len (hm.ow_rep 0 rfl)
   refine gY (yV st_28 rfl) (gB rfl (gE (go _ 9 rfl (decide_eq_true (by omega)) (gct rfl (gSk (gS (gBk (gS (gR (gM rfl (gM rfl (gM rfl (gg fun x1_1 h1_1 hx1_2 => ?_)))))))))))))
   obtain ⟨b1_1, o1_1, c1_1, he⟩ := idx_form' (hm.ow_rep 0 rfl) hx1_2
   simp only [Value.slice.injEq, Option.some.injEq] at he; obtain ⟨rfl, _, rfl⟩ := he
   obtain ⟨v1_1, hc1_1, h1_2⟩ := rk_Code_ (hm.ow_rep 0 rfl) hx1_2
   have hL1_1 := rep_slice_len (hm.ow_rep 0 rfl)
   refine gI st_28 h1_1 (idx_lt2 hx1_2 hL1_1) rfl (gF fo_57_0 rfl (gf0 rfl (fun a hf => e_setElemR (x1 := ((⟨xs1_1.2, x1_1.regs, x1_1.blocks⟩ : Code_) : Code_)) (j := 0) (vs := [(nV xs1_1.2)]) 0 hf hm rfl hx1_2 hc1_1 rfl (fun F h ho => (fun _ => own_fst_map (α := Int) (β := Int × (List Block_)) (cs := [(nV x1_1.params)]) (cs' := [(nV xs1_1.2)]) (ds := [(nV x1_1.regs), v1_1]) rfl (fun _ _ => Flat.own_iff.2 rfl)) F ho) rfl sizeOf3 rfl rfl rfl (one_cons rfl one_nil) rfl) ?_))
   rintro _ w hm
   have hx1_3 := List.getElem?_set_self (a := ((⟨xs1_1.2, x1_1.regs, x1_1.blocks⟩ : Code_) : Code_)) (idx_lt hx1_2)
   refine gE (gS (gR (gM rfl (gB rfl (gA rfl (gE (gS (gR (gM rfl (gM rfl (gM rfl ?_)))))))))))
   obtain ⟨_, _, hc1_2, hr1_1⟩ := ro_get' (hm.ow_rep 0 rfl) hx1_3
   obtain ⟨_, _, rfl, rfl, _, _, rfl, rfl, h1_3⟩ := hr1_1
   obtain ⟨v1_2, rfl, -⟩ := id h1_3
   replace h1_3 : GT.rep (hp _) [v1_2] x1_1.blocks := h1_3
   replace hc1_2 : CellsAt (hp _) b1_1 (o1_1 + (i1_1).toNat * 3) [(nV xs1_1.2), (nV x1_1.regs), v1_2] := hc1_2
   have hL1_2 := rep_slice_len (hm.ow_rep 0 rfl)
   refine gI st_28 h1_1 (idx_lt2 hx1_3 hL1_2) rfl (gF fo_57_1 rfl (gf0 rfl (fun a hf => e_setElemR (x1 := ((⟨xs1_1.2, w64 (xs1_1.2 + 1), x1_1.blocks⟩ : Code_) : Code_)) (j := 1) (vs := [(nV (w64 (xs1_1.2 + 1)))]) 0 hf hm rfl hx1_3 hc1_2 rfl (fun F h ho => (fun _ => own_snd_map (α := Int) (β := Int × (List Block_)) (cs := [(nV xs1_1.2)]) (ds := [(nV x1_1.regs), v1_2]) (ds' := [(nV (w64 (xs1_1.2 + 1))), v1_2]) rfl (fun _ => own_fst_map (α := Int) (β := (List Block_)) (cs := [(nV x1_1.regs)]) (cs' := [(nV (w64 (xs1_1.2 + 1)))]) (ds := [v1_2]) rfl (fun _ _ => Flat.own_iff.2 rfl))) F ho) rfl sizeOf3 rfl rfl rfl (one_cons rfl one_nil) rfl) ?_))
   rintro _ w hm
   have hx1_4 := List.getElem?_set_self (a := ((⟨xs1_1.2, w64 (xs1_1.2 + 1), x1_1.blocks⟩ : Code_) : Code_)) (idx_lt hx1_3)
   refine gE (gS (gR (gM rfl (gB rfl (gA rfl (gE (gR (gM rfl (gM rfl ?_)))))))))
   obtain ⟨_, _, hc1_3, hr1_2⟩ := ro_get' (hm.ow_rep 0 rfl) hx1_4
   obtain ⟨_, _, rfl, rfl, _, _, rfl, rfl, h1_4⟩ := hr1_2
   obtain ⟨v1_3, rfl, -⟩ := id h1_4
   replace h1_4 : GT.rep (hp _) [v1_3] x1_1.blocks := h1_4
   replace hc1_3 : CellsAt (hp _) b1_1 (o1_1 + (i1_1).toNat * 3) [(nV xs1_1.2), (nV (w64 (xs1_1.2 + 1))), v1_3] := hc1_3
   have hL1_3 := rep_slice_len (hm.ow_rep 0 rfl)
   refine gI st_28 h1_1 (idx_lt2 hx1_4 hL1_3) rfl (gF fo_57_2 rfl (gY (yl isAgg55 (hc1_3.cell (j := 2) rfl) rfl) (gM rfl ?_)))
   replace hm : Mem w0 hz _ [ow [v1_3] x1_1.blocks, hole [(sV b1_1 o1_1 a_.length c0_1)] [v1_3] (fun (y : List Block_) => (((xs1_1.1.set (i1_1).toNat (⟨xs1_1.2, x1_1.regs, x1_1.blocks⟩ : Code_)).set (i1_1).toNat (⟨xs1_1.2, w64 (xs1_1.2 + 1), x1_1.blocks⟩ : Code_)) : List Code_).set (i1_1).toNat (⟨xs1_1.2, w64 (xs1_1.2 + 1), y⟩ : Code_))] := hm.open 0 rfl (foc_elem hx1_4 hc1_3 rfl (show FocH (α := Code_) _ _ (⟨xs1_1.2, w64 (xs1_1.2 + 1), x1_1.blocks⟩ : Code_) [v1_3] x1_1.blocks (fun y => (⟨xs1_1.2, w64 (xs1_1.2 + 1), y⟩ : Code_)) from (foc_snd (α := Int) (β := Int × (List Block_)) (cs := [(nV xs1_1.2)]) (ds := [(nV (w64 (xs1_1.2 + 1))), v1_3]) (v := [v1_3]) (inner := x1_1.blocks) (x := (w64 (xs1_1.2 + 1), x1_1.blocks)) (z := xs1_1.2) (put := fun (y : List Block_) => (w64 (xs1_1.2 + 1), y)) rfl (foc_snd (α := Int) (β := (List Block_)) (cs := [(nV (w64 (xs1_1.2 + 1)))]) (ds := [v1_3]) (v := [v1_3]) (inner := x1_1.blocks) (x := x1_1.blocks) (z := w64 (xs1_1.2 + 1)) (put := fun (y : List Block_) => y) rfl (foc_id [v1_3] x1_1.blocks)))))
   obtain ⟨hz1_1, hle, hm1, hsub, hk1_1⟩ := hm.take2 (L1 := [ow [v1_3] x1_1.blocks]) (L2 := [hole [(sV b1_1 o1_1 a_.length c0_1)] [v1_3] (fun (y : List Block_) => (((xs1_1.1.set (i1_1).toNat (⟨xs1_1.2, x1_1.regs, x1_1.blocks⟩ : Code_)).set (i1_1).toNat (⟨xs1_1.2, w64 (xs1_1.2 + 1), x1_1.blocks⟩ : Code_)) : List Code_).set (i1_1).toNat (⟨xs1_1.2, w64 (xs1_1.2 + 1), y⟩ : Code_))]) [0] [1] (by decide) rfl rfl
   refine gCg rfl call102 (laws_markBlockS_ok _ hz1_1 x1_1.blocks v1_3 (w64 ((w64 (xs1_1.2 + 1)) + 1)) hm1 ) ?_
   rintro r1_1 hx1_5 v1_4 w ⟨rfl, hB⟩
   replace hm := hk1_1 _ _ hB; clear hB
   replace hm := (hm.shut 1 0 (by decide) rfl rfl).pk (L' := [ow [(sV b1_1 o1_1 a_.length c0_1)] (((xs1_1.1.set (i1_1).toNat (⟨xs1_1.2, x1_1.regs, x1_1.blocks⟩ : Code_)).set (i1_1).toNat (⟨xs1_1.2, w64 (xs1_1.2 + 1), x1_1.blocks⟩ : Code_)).set (i1_1).toNat (⟨xs1_1.2, w64 (xs1_1.2 + 1), r1_1.2⟩ : Code_))]) [1] rfl rfl
   exact gA rfl (gE (gR (gM rfl (gP (by omega) (by omega) rfl (gA rfl (gE (gze hm [0] rfl)))))))
  repeat clear hm
  intro i0_1 xs0_1 w hm hi0_3 hi0_4
  refine gS (gS (gR (gM rfl (gM rfl ?_))))
  have hl0_2 := rep_len (hm.ow_rep 0 rfl)
  exact gY (yV st_28 rfl) (gB rfl (gE (go _ 9 rfl (decide_eq_false (by omega)) (gcf rfl (gXt (gHh (gS (gR (gM rfl (gA rfl (gE (gRt (gr1 results56 rfl ⟨rfl, hm.pk [0] rfl rfl⟩)))))))))))))

theorem laws_markUnit_ok (w0 : World) (hz : Heap) (a_ : Unit_) (v1 : Value) (k_ : Int) (hm0 : Mem w0 hz w0 [ow [v1] a_.codes]) :
    ConM Tryz.prog 20 [(.agg #[v1]), (nV k_)] w0 (laws_markUnit a_ k_) fun r v w' => v = (nV r.1) ∧ Mem w0 hz w' [ow [v1] r.2] := by
  unfold laws_markUnit
  refine gcon func20 rfl fun r => ?_
  have hm := hm0
  refine gS (gR (gBx hm rfl fun b0_1 w hm => gA rfl (gE (gS (gR (gF fo_30_0 rfl (gL hm 0 isAgg28 rfl (gM rfl ?_))))))))
  obtain ⟨hz0_1, hle, hm1, hsub, hk0_1⟩ := hm.take2 (L1 := [ow [v1] a_.codes]) (L2 := [blk b0_1 [v1] 30]) [1] [0] (by decide) rfl rfl
  refine gCg rfl call56 (laws_markCodeS_ok _ hz0_1 a_.codes v1 k_ hm1 ) ?_
  rintro r0_1 hx0_1 v0_1 w ⟨rfl, hB⟩
  replace hm := hk0_1 _ _ hB; clear hB
  exact gA rfl (gE (gS (gR (gM rfl (gA rfl (gE (gRt (gr1 results20 rfl ⟨rfl, hm.pk [0] rfl rfl⟩))))))))

theorem laws_heldIntS_ok (w0 : World) (a_ : List Int) (v1 : Value) (h1 : GT.rep (hp w0) [v1] a_) (k_ : Int) :
    ConM Tryz.prog 30 [v1, (nV k_)] w0 (laws_heldIntS a_ k_) fun r v w' => v = (nV r) ∧ Below w0.heap.size w0 w' := by
  unfold laws_heldIntS
  refine gcon func30 rfl fun r => ?_
  have hm := Mem.start w0
  refine gS (gR (gA rfl (gE (gS (gS (gR (gA rfl (gE (gBk (gNf hm (fun i1_1 xs1_1 => [(0, v1), (1, (nV xs1_1)), (5, (nV i1_1))]) (fun i1_1 xs1_1 => []) [] rfl ?_ ?_))))))))))
  ·
   repeat clear hm
   intro r0_1 hq0_1 i1_1 xs1_1 w hm hi0_1 hi0_2 q0_1 ho0_1
   refine gS (gS (gR (gM rfl (gM rfl ?_))))
   obtain ⟨p1_1, c1_1, rfl, hl1_1⟩ := ro_slice h1
   refine gY (yV st_37 rfl) (gB rfl (gE (go _ 9 rfl (decide_eq_true (by omega)) (gct rfl (gSk (gS (gBk (gS (gS (gR (gM rfl (gM rfl (gg fun x1_1 h1_1 hx1_2 => ?_)))))))))))))
   obtain ⟨b1_1, o1_1, c1_2, he⟩ := idx_form h1 hx1_2
   simp only [Value.slice.injEq, Option.some.injEq] at he; obtain ⟨rfl, _, rfl⟩ := he
   refine gI st_37 h1_1 (idx_lt hx1_2) rfl (gY (yl isAgg3 ((flat_cells (cs := [(nV x1_1)]) (hm.now h1) hx1_2 rfl).cell (j := 0) rfl) rfl) (gM rfl (gB rfl (gE (gsd 17 rfl (fun h1_2 => ?_) fun h1_2 => ?_)))))
   ·
    exact gct rfl (gS (gR (gA rfl (gE (gRt (gLr ho0_1 hq0_1 (gr1 results30 rfl ⟨rfl, hm.below⟩)))))))
   exact gcf rfl (gSk (gR (gM rfl (gB rfl (gA rfl (gE (gR (gM rfl (gP (by omega) (by omega) rfl (gA rfl (gE (gze hm [] rfl))))))))))))
  repeat clear hm
  intro i0_1 xs0_1 w hm hi0_3 hi0_4
  refine gS (gS (gR (gM rfl (gM rfl ?_))))
  obtain ⟨p0_1, c0_1, rfl, hl0_1⟩ := ro_slice h1
  exact gY (yV st_37 rfl) (gB rfl (gE (go _ 9 rfl (decide_eq_false (by omega)) (gcf rfl (gXt (gHh (gS (gR (gM rfl (gA rfl (gE (gRt (gr1 results30 rfl ⟨rfl, hm.below⟩)))))))))))))

theorem spec_l21Homes_ok (w0 : World) (t : List (List Bool)) (v1 : Value) (h1 : GT.rep (hp w0) [v1] t) (most : Int) :
    ConM Tryz.prog 65 [v1, (nV most)] w0 (spec_l21Homes t most) fun r v w' => ∃ (x1 : Value), v = x1 ∧ Mem w0 (hp w0) w' [ow [x1] r] := by
  unfold spec_l21Homes
  refine gcon func65 rfl fun r => ?_
  have hm := Mem.start w0
  refine gS (gR (gA rfl (gE (gS (gR (gM rfl (gM rfl (gCg rfl call62 (spec_l21Colours_ok _ t v1 (hm.now h1) most) ?_))))))))
  rintro r0_1 hx0_1 v0_1 w ⟨_, rfl, hB⟩
  replace hm := hm.give hB; clear hB
  refine gA rfl (gE (gS (gR (gf rfl (fun a hf => e_build0 (α := Int) et_37 hm rfl) ?_))))
  rintro v0_3 w hm
  refine gM rfl (gb fun ys0_1 hx0_2 => ?_)
  obtain ⟨h0_1, h0_1e⟩ := appM_some.1 hx0_2
  refine gf rfl (fun a hf => e_append 0 et_37 hf hm rfl (hm.ow_rep 1 rfl) rfl rfl rfl h0_1) ?_
  rintro v0_4 w hm
  rw [h0_1e] at hm
  refine gA rfl (gE (gS (gS (gR (gA rfl (gE ?_))))))
  obtain ⟨p0_1, c0_1, rfl, hl0_1⟩ := ro_slice (hm.ow_rep 1 rfl)
  obtain ⟨p0_2, c0_2, rfl, hl0_2⟩ := ro_slice (hm.ow_rep 0 rfl)
  refine gBk (gNf hm (fun i1_1 xs1_1 => [(0, v1), (5, (.slice p0_1 r0_1.length c0_1)), (6, (.slice p0_2 ys0_1.length c0_2)), (7, (nV i1_1))]) (fun i1_1 xs1_1 => [ow [(.slice p0_1 r0_1.length c0_1)] r0_1, ow [(.slice p0_2 ys0_1.length c0_2)] xs1_1]) [1, 0] rfl ?_ ?_)
  ·
   repeat clear hm
   intro _ _ i1_1 xs1_1 w hm hi0_1 hi0_2 q0_1 _
   refine gS (gS (gR (gM rfl (gM rfl ?_))))
   have hl1_1 := rep_len (hm.ow_rep 1 rfl)
   refine gY (yV st_37 rfl) (gB rfl (gE (go _ 20 rfl (decide_eq_true (by omega)) (gct rfl (gSk (gS (gJ hm (fun s1_1 => [(0, v1), (5, (.slice p0_1 r0_1.length c0_1)), (6, (.slice p0_2 ys0_1.length c0_2)), (7, (nV i1_1))]) (fun s1_1 => [ow [(.slice p0_1 r0_1.length c0_1)] r0_1, ow [(.slice p0_2 ys0_1.length c0_2)] s1_1]) (fun s1_1 => ?_) ?_)))))))
   ·
    refine gBk (gS (gS (gR (gM rfl (gM rfl (gg fun x2_1 h2_1 hx2_2 => ?_))))))
    obtain ⟨b2_1, o2_1, c2_1, he⟩ := idx_form (hm.ow_rep 0 rfl) hx2_2
    simp only [Value.slice.injEq, Option.some.injEq] at he; obtain ⟨rfl, _, rfl⟩ := he
    refine gI st_37 h2_1 (idx_lt hx2_2) rfl (gY (yl isAgg3 ((flat_cells (cs := [(nV x2_1)]) (hm.ow_rep 0 rfl) hx2_2 rfl).cell (j := 0) rfl) rfl) (gB rfl (gE (gsd 27 rfl (fun h2_2 => ?_) fun h2_2 => ?_))))
    ·
     exact gct rfl (gXt (gHh (gz hm [0, 1] rfl)))
    refine gcf rfl (gSk (gS (gR (gA rfl (gE (gS (gS (gR (gA rfl (gE (gJ hm (fun s2_1 => [(0, v1), (5, (sV b2_1 o2_1 r0_1.length c0_1)), (6, (.slice p0_2 ys0_1.length c0_2)), (7, (nV i1_1)), (8, (nV s2_1))]) (fun s2_1 => [ow [(sV b2_1 o2_1 r0_1.length c0_1)] r0_1, ow [(.slice p0_2 ys0_1.length c0_2)] xs1_1]) (fun s2_1 => ?_) ?_)))))))))))
    ·
     refine gBk (gMf hm (fun xs4_1 => [(0, v1), (5, (sV b2_1 o2_1 r0_1.length c0_1)), (6, (.slice p0_2 ys0_1.length c0_2)), (7, (nV i1_1)), (8, (nV xs4_1.1)), (9, (.bool (xs4_1.2)))]) (fun xs4_1 => [ow [(sV b2_1 o2_1 r0_1.length c0_1)] r0_1, ow [(.slice p0_2 ys0_1.length c0_2)] xs1_1]) [0, 1] rfl ?_)
     repeat clear hm
     intro r3_1 hq3_1 xs4_1 w hm q3_1 ho3_1
     refine gS (gS (gR (gM rfl (gE (gs 28 rfl (fun h4_1 => ?_) fun h4_1 => ?_)))))
     ·
      refine gct rfl (gSk (gBk (gS (gR (gA rfl (gE (gS (gR (gA rfl (gE (gBk (gNf hm (fun i5_1 xs5_1 => [(0, v1), (5, (sV b2_1 o2_1 r0_1.length c0_1)), (6, (.slice p0_2 ys0_1.length c0_2)), (7, (nV i1_1)), (8, (nV xs5_1.1)), (9, (.bool (xs5_1.2))), (10, (nV i5_1))]) (fun i5_1 xs5_1 => [ow [(sV b2_1 o2_1 r0_1.length c0_1)] r0_1, ow [(.slice p0_2 ys0_1.length c0_2)] xs1_1]) [0, 1] rfl ?_ ?_))))))))))))
      ·
       repeat clear hm
       intro _ _ i5_1 xs5_1 w hm hi4_1 hi4_2 q4_1 _
       refine gS (gS (gR (gM rfl (gM rfl (gB rfl (gE (go _ 31 rfl (decide_eq_true (by omega)) (gct rfl (gSk (gS (gJ hm (fun s5_1 => [(0, v1), (5, (sV b2_1 o2_1 r0_1.length c0_1)), (6, (.slice p0_2 ys0_1.length c0_2)), (7, (nV i1_1)), (8, (nV s5_1.1)), (9, (.bool (s5_1.2))), (10, (nV i5_1))]) (fun s5_1 => [ow [(sV b2_1 o2_1 r0_1.length c0_1)] r0_1, ow [(.slice p0_2 ys0_1.length c0_2)] xs1_1]) (fun s5_1 => ?_) ?_)))))))))))
       ·
        refine gBk (gS (gJ hm (fun s6_1 => [(0, v1), (5, (sV b2_1 o2_1 r0_1.length c0_1)), (6, (.slice p0_2 ys0_1.length c0_2)), (7, (nV i1_1)), (8, (nV xs5_1.1)), (9, (.bool (xs5_1.2))), (10, (nV i5_1)), (48, (.bool (s6_1)))]) (fun s6_1 => [ow [(sV b2_1 o2_1 r0_1.length c0_1)] r0_1, ow [(.slice p0_2 ys0_1.length c0_2)] xs1_1]) (fun s6_1 => ?_) ?_))
        ·
         refine gR (gM rfl (gM rfl (gg fun x7_1 h7_1 hx7_2 => ?_)))
         obtain ⟨b7_1, o7_1, c7_1, he⟩ := idx_form' h1 hx7_2
         subst he
         obtain ⟨_, _, hc7_1, hr7_1⟩ := ro_get' h1 hx7_2
         have h7_2 := hr7_1
         obtain ⟨v7_1, rfl, -⟩ := id h7_2
         replace h7_2 : GT.rep (hp w0) [v7_1] x7_1 := h7_2
         replace hc7_1 : CellsAt (hp w0) b7_1 (o7_1 + (i1_1).toNat * 1) [v7_1] := hc7_1
         refine gI st_53 h7_1 (idx_lt hx7_2) rfl (gY (yl isAgg58 ((hc7_1.mono hm.lez).cell (j := 0) rfl) rfl) (gM rfl (gg fun x7_2 h7_3 hx7_4 => ?_)))
         obtain ⟨b7_2, o7_2, c7_2, he⟩ := idx_form h7_2 hx7_4
         subst he
         refine gI st_58 h7_3 (idx_lt hx7_4) rfl (gY (yl isAgg4 ((flat_cells (cs := [(.bool (x7_2))]) (hm.now h7_2) hx7_4 rfl).cell (j := 0) rfl) rfl) (gM rfl (gs 41 rfl (fun h7_4 => ?_) fun h7_4 => ?_)))
         ·
          refine gM rfl (gM rfl (gg fun x7_3 h7_5 hx7_6 => ?_))
          obtain ⟨b7_3, o7_3, c7_3, he⟩ := idx_form (hm.ow_rep 1 rfl) hx7_6
          simp only [Value.slice.injEq, Option.some.injEq] at he; obtain ⟨rfl, _, rfl⟩ := he
          have hL7_1 := rep_slice_len (hm.ow_rep 1 rfl)
          exact gI st_37 h7_5 (idx_lt2 hx7_6 hL7_1) rfl (gY (yl isAgg3 ((flat_cells (cs := [(nV x7_3)]) (hm.ow_rep 1 rfl) hx7_6 rfl).cell (j := 0) rfl) rfl) (gM rfl (gB rfl (gKt rfl (gE (gz hm [0, 1] rfl))))))
         exact gO rfl (gO rfl (gO rfl (gO rfl (gO rfl (gO rfl (gKf rfl (gE (gz hm [0, 1] rfl))))))))
        repeat clear hm
        intro s6_1 w hm
        refine gJ hm (fun s6_2 => [(0, v1), (5, (sV b2_1 o2_1 r0_1.length c0_1)), (6, (.slice p0_2 ys0_1.length c0_2)), (7, (nV i1_1)), (8, (nV s6_2.1)), (9, (.bool (s6_2.2))), (10, (nV i5_1))]) (fun s6_2 => [ow [(sV b2_1 o2_1 r0_1.length c0_1)] r0_1, ow [(.slice p0_2 ys0_1.length c0_2)] xs1_1]) (fun s6_2 => ?_) ?_
        ·
         refine gs 48 rfl (fun h7_6 => ?_) fun h7_6 => ?_
         ·
          exact gct rfl (gS (gR (gM rfl (gB rfl (gA rfl (gE (gR (gA rfl (gE (gz hm [0, 1] rfl))))))))))
         exact gcf rfl (gSk (gz hm [0, 1] rfl))
        repeat clear hm
        intro s6_2 w hm
        exact gz hm [0, 1] rfl
       repeat clear hm
       intro s5_1 w hm
       exact gR (gM rfl (gP (by omega) (by omega) rfl (gA rfl (gE (gze hm [0, 1] rfl)))))
      repeat clear hm
      intro i4_2 xs4_2 w hm hi4_3 hi4_4
      exact gS (gS (gR (gM rfl (gM rfl (gB rfl (gE (go _ 31 rfl (decide_eq_false (by omega)) (gcf rfl (gXt (gHh (gze hm [0, 1] rfl)))))))))))
     exact gcf rfl (gXt (gHh (gLp ho3_1 hq3_1 (gz hm [0, 1] rfl))))
    repeat clear hm
    intro s2_1 w hm
    refine gR (gM rfl (gM rfl (gM rfl (gg fun x2_2 h2_3 hx2_4 => ?_))))
    obtain ⟨b2_2, o2_2, c2_2, he⟩ := idx_form (hm.ow_rep 1 rfl) hx2_4
    simp only [Value.slice.injEq, Option.some.injEq] at he; obtain ⟨rfl, _, rfl⟩ := he
    have hL2_1 := rep_slice_len (hm.ow_rep 1 rfl)
    refine gI st_37 h2_3 (idx_lt2 hx2_4 hL2_1) rfl (gf0 rfl (fun a hf => e_setElem (x1 := s2_1) (j := 0) (vs := [(nV s2_1)]) 1 hf hm rfl hx2_4 rfl sizeOf3 rfl rfl rfl (one_cons rfl one_nil) rfl rfl) ?_)
    rintro _ w hm
    have hx2_5 := List.getElem?_set_self (a := s2_1) (idx_lt hx2_4)
    exact gE (gz hm [0, 1] rfl)
   repeat clear hm
   intro s1_1 w hm
   exact gR (gM rfl (gP (by omega) (by omega) rfl (gA rfl (gE (gze hm [0, 1] rfl)))))
  repeat clear hm
  intro i0_1 xs0_1 w hm hi0_3 hi0_4
  refine gS (gS (gR (gM rfl (gM rfl ?_))))
  have hl0_3 := rep_len (hm.ow_rep 1 rfl)
  exact gY (yV st_37 rfl) (gB rfl (gE (go _ 20 rfl (decide_eq_false (by omega)) (gcf rfl (gXt (gHh (gS (gR (gM rfl (gA rfl (gE (gRt (gr1 results65 rfl ⟨(.slice p0_2 ys0_1.length c0_2), rfl, hm.pk [1] rfl rfl⟩)))))))))))))

theorem spec_HomesOf_ok (w0 : World) (u : Unit_) (v1 : Value) (h1 : GT.rep (hp w0) [v1] u.codes) (k_ : Int) (most : Int) :
    ConM Tryz.prog 31 [(.agg #[v1]), (nV k_), (nV most)] w0 (spec_HomesOf u k_ most) fun r v w' => ∃ (x1 : Value), v = x1 ∧ Mem w0 (hp w0) w' [ow [x1] r] := by
  unfold spec_HomesOf
  refine gcon func31 rfl fun r => ?_
  have hm := Mem.start w0
  refine gS (gR (gBx hm rfl fun b0_1 w hm => gA rfl (gE (gS (gS (gJ hm (fun s0_1 => [(1, (nV k_)), (2, (nV most)), (3, (pV b0_1)), (15, (.bool (s0_1)))]) (fun s0_1 => [blk b0_1 [v1] 30]) (fun s0_1 => ?_) ?_))))))
  ·
   refine gR (gY (yn (hm.blk_at 0 rfl) isAgg30 sizeOf30 rfl) (gM rfl (gC hm rfl call49 (spec_l21Flat_ok _ u v1 (hm.now h1) k_) fun r1_1 hx1_1 w hm => gN rfl (gM rfl (gsn 11 rfl (fun h1_1 => ?_) fun h1_1 => ?_)))))
   ·
    exact gO rfl (gO rfl (gO rfl (gKt rfl (gE (gz hm [0] rfl)))))
   exact gM rfl (gC hm rfl call61 (spec_l1In_ok _ most 1 16) fun r1_2 hx1_2 w hm => gN rfl (gKf rfl (gE (gz hm [0] rfl))))
  repeat clear hm
  intro s0_1 w hm
  refine gs 15 rfl (fun h0_1 => ?_) fun h0_1 => ?_
  ·
   refine gct rfl (gS (gR (gf rfl (fun a hf => e_build0 (α := Int) et_37 hm rfl) ?_)))
   rintro v0_1 w hm
   exact gA rfl (gE (gRt (gr1 results31 rfl ⟨v0_1, rfl, hm.pk [0] rfl rfl⟩)))
  refine gcf rfl (gSk (gS (gR (gF fo_30_0 rfl (gL hm 0 isAgg28 rfl (gM rfl (gg fun x0_1 h0_2 hx0_2 => ?_)))))))
  obtain ⟨b0_2, o0_1, c0_1, he⟩ := idx_form' h1 hx0_2
  subst he
  obtain ⟨v0_2, hc0_1, h0_3⟩ := rk_Code_ h1 hx0_2
  refine gI st_28 h0_2 (idx_lt hx0_2) rfl (gY (yn (hc0_1.mono hm.lez) isAgg57 sizeOf57 rfl) (gCg rfl call50 (spec_l21Table_ok _ x0_1 v0_2 (hm.now h0_3)) ?_))
  rintro r0_1 hx0_3 v0_3 w ⟨_, rfl, hB⟩
  replace hm := hm.give hB; clear hB
  refine gM rfl (gCg rfl call65 (spec_l21Homes_ok _ r0_1 v0_3 (hm.ow_rep 0 rfl) most) ?_)
  rintro r0_2 hx0_4 v0_5 w ⟨_, rfl, hB⟩
  replace hm := hm.give hB; clear hB
  exact gA rfl (gE (gRt (gr1 results31 rfl ⟨v0_5, rfl, hm.pk [0] rfl rfl⟩)))

theorem impl_homes_ok (w0 : World) (c_ : Code_) (v1 : Value) (h1 : GT.rep (hp w0) [v1] c_.blocks) (most : Int) :
    ConM Tryz.prog 66 [(.agg #[(nV c_.params), (nV c_.regs), v1]), (nV most)] w0 (impl_homes c_ most) fun r v w' => ∃ (x1 : Value), v = x1 ∧ Mem w0 (hp w0) w' [ow [x1] r] := by
  unfold impl_homes
  refine gcon func66 rfl fun r => ?_
  have hm := Mem.start w0
  refine gS (gR (gBx hm rfl fun b0_1 w hm => gA rfl (gE (gS (gW (.p 1 (.q 0 (.q 3 (.e 2 (.e 4 (.p 5 (.p 6 .fin)) .nil) .nil)))) [0, 2, 3] [1, 5, 6] hm [0] [blk b0_1 [(nV c_.params), (nV c_.regs), v1] 57] rfl mxo (by kernel_rfl) (fun _ _ _ h => h.2) fun w hm hS => tP rfl (fun w => yM rfl) (tQ rfl hS (fun w hm => yn (hm.blk_at 0 rfl) isAgg57 sizeOf57 rfl) (tQ rfl hS (fun w hm => yn (hm.blk_at 0 rfl) isAgg57 sizeOf57 rfl) (tO (gb fun r0_1 hx0_1 => tf rfl rfl (fun a hf => e_call hf rfl call64 rfl (impl_coloured_ok _ c_ v1 (hm.now h1) most _ hx0_1)) ?_)))))))))
  rintro v0_1 w ⟨_, rfl, hB⟩
  replace hm := hm.give hB; clear hB
  refine tAk hm [1] rfl fun hS => tO (gb fun r0_2 hx0_2 => tf rfl rfl (fun a hf => e_call hf rfl call53 rfl (impl_clashing_ok _ c_ v1 (hm.now h1) _ hx0_2)) ?_)
  rintro v0_3 w ⟨_, rfl, hB⟩
  replace hm := hm.give hB; clear hB
  refine tAn rfl (tP rfl (fun w => yA rfl) (tP rfl (fun w => yA rfl) (tE (gS (gR (gf rfl (fun a hf => e_mkM (β := Bool) hm rfl) ?_))))))
  rintro v0_5 w hm
  refine gA rfl (gE (gS (gS (gR (gM rfl (gCg rfl call107 (slices_Clone_S_int_int_ok _ r0_1 v0_1 (hm.ow_rep 2 rfl)) ?_))))))
  rintro r0_3 hx0_3 v0_6 w ⟨_, rfl, hB⟩
  replace hm := hm.give hB; clear hB
  obtain ⟨p0_1, c0_1, rfl, hl0_1⟩ := ro_slice (hm.ow_rep 0 rfl)
  refine gY (yV st_37 rfl) (gM rfl (gE ?_))
  obtain ⟨hz0_4, hle0_4, hz_r0_1, hm⟩ := hm.freeze 2 rfl
  replace hm := hm.pk (L' := [ow [(.slice p0_1 r0_3.length c0_1)] r0_3, owm v0_5 (MapS.mk0 : MapS Bool), ow [v0_1] r0_1, blk b0_1 [(nV c_.params), (nV c_.regs), v1] 57]) [0, 1, 3, 4] rfl rfl
  replace hz_r0_1 : GT.rep hz0_4 [v0_3] r0_2 := fz_ow hz_r0_1
  obtain ⟨p0_2, c0_2, rfl, hl0_2⟩ := ro_slice (hm.ow_rep 2 rfl)
  refine gBk (gNf hm (fun i1_1 xs1_1 => [(5, (.slice p0_2 r0_1.length c0_2)), (6, v0_3), (7, v0_5), (20, (.slice p0_1 r0_3.length c0_1)), (21, (nV ((r0_3.length : Int)))), (22, (nV i1_1))]) (fun i1_1 xs1_1 => [ow [(.slice p0_2 r0_1.length c0_2)] xs1_1.1, owm v0_5 xs1_1.2, ow [(.slice p0_1 r0_3.length c0_1)] r0_3]) [2, 1, 0] rfl ?_ ?_)
  ·
   repeat clear hm
   intro _ _ i1_1 xs1_1 w hm hi0_1 hi0_2 q0_1 _
   refine gS (gR (gB rfl (gE (gS (go _ 23 rfl (decide_eq_true (by omega)) (gct rfl (gSk (gS (gJ hm (fun s1_1 => [(5, (.slice p0_2 r0_1.length c0_2)), (6, v0_3), (7, v0_5), (20, (.slice p0_1 r0_3.length c0_1)), (21, (nV ((r0_3.length : Int)))), (22, (nV i1_1))]) (fun s1_1 => [ow [(.slice p0_2 r0_1.length c0_2)] s1_1.1, owm v0_5 s1_1.2, ow [(.slice p0_1 r0_3.length c0_1)] r0_3]) (fun s1_1 => ?_) ?_)))))))))
   ·
    refine gBk (gS (gR (gM rfl (gg fun x2_1 h2_1 hx2_2 => ?_))))
    obtain ⟨b2_1, o2_1, c2_1, he⟩ := idx_form (hm.ow_rep 2 rfl) hx2_2
    simp only [Value.slice.injEq, Option.some.injEq] at he; obtain ⟨rfl, _, rfl⟩ := he
    refine gI st_37 h2_1 (idx_lt hx2_2) rfl (gY (yl isAgg3 ((flat_cells (cs := [(nV x2_1)]) (hm.ow_rep 2 rfl) hx2_2 rfl).cell (j := 0) rfl) rfl) (gA rfl (gA rfl (gE (gS (gS (gR (gM rfl (gB rfl (gE (gsd 28 rfl (fun h2_2 => ?_) fun h2_2 => ?_)))))))))))
    ·
     exact gct rfl (gXt (gHh (gz hm [0, 1, 2] rfl)))
    refine gcf rfl (gSk (gS (gR (gf rfl (fun a hf => e_mkM (β := Bool) hm rfl) ?_))))
    rintro v2_1 w hm
    refine gA rfl (gE (gS (gS (gR (gM rfl (gM rfl (gg fun x2_2 h2_3 hx2_4 => ?_)))))))
    obtain ⟨b2_2, o2_2, c2_2, he⟩ := idx_form' hz_r0_1 hx2_4
    subst he
    obtain ⟨_, _, hc2_1, hr2_1⟩ := ro_get' hz_r0_1 hx2_4
    have h2_4 := hr2_1
    obtain ⟨v2_2, rfl, -⟩ := id h2_4
    replace h2_4 : GT.rep hz0_4 [v2_2] x2_2 := h2_4
    replace hc2_1 : CellsAt hz0_4 b2_2 (o2_2 + (i1_1).toNat * 1) [v2_2] := hc2_1
    refine gI st_60 h2_3 (idx_lt hx2_4) rfl (gY (yl isAgg63 ((hc2_1.mono hm.lez).cell (j := 0) rfl) rfl) (gf rfl (fun a hf => e_rangeS (m := (x2_2 : MapS Bool)) hf hm underlying63 h2_4 rfl rfl) ?_))
    rintro _ w ⟨b2_3, rfl, hm⟩
    refine gE (gJ hm (fun s2_1 => [(5, (.slice p0_2 r0_1.length c0_2)), (6, (sV b2_2 o2_2 r0_2.length c2_2)), (7, v0_5), (8, (nV i1_1)), (10, v2_1), (20, (sV b2_1 o2_1 r0_3.length c0_1)), (21, (nV ((r0_3.length : Int)))), (22, (nV i1_1))]) (fun s2_1 => [ow [(.slice p0_2 r0_1.length c0_2)] xs1_1.1, owm v0_5 xs1_1.2, owm v2_1 s2_1, ow [(sV b2_1 o2_1 r0_3.length c0_1)] r0_3]) (fun s2_1 => ?_) ?_)
    ·
     refine gBk (gRng (m := (x2_2 : MapS Bool)) (by refine fun p q => (?_ : CommF _ _); (try dsimp only); (repeat' (with_reducible first | exact cf_some | exact cf_sm | exact cf_ms | refine cf_post ?_ | refine cf_bind fun _ => ?_ | refine cf_ite ?_ ?_)); (all_goals refine cf_symm ?_); (all_goals repeat' (with_reducible first | exact cf_some | exact cf_sm | exact cf_ms | refine cf_post ?_ | refine cf_bind fun _ => ?_ | refine cf_ite ?_ ?_)); (all_goals (first | exact cf_add | exact cf_ins))) h2_4 (fun sn4_1 xs4_1 a w => St 60 [(5, (.slice p0_2 r0_1.length c0_2)), (6, (sV b2_2 o2_2 r0_2.length c2_2)), (7, v0_5), (8, (nV i1_1)), (10, v2_1), (20, (sV b2_1 o2_1 r0_3.length c0_1)), (21, (nV ((r0_3.length : Int)))), (22, (nV i1_1)), (34, (pV b2_3))] w0 hz0_4 [ow [(.slice p0_2 r0_1.length c0_2)] xs1_1.1, owm v0_5 xs1_1.2, owm v2_1 xs4_1, ow [(sV b2_1 o2_1 r0_3.length c0_1)] r0_3, itc hz0_4 v2_2 b2_3 sn4_1] a w) (fun a hf => ⟨hf.sb rfl, hm.pk [2, 3, 1, 4, 0] rfl rfl⟩) ?_ ?_)
     ·
      repeat clear hm
      rintro sn4_1 xs4_1 a w ⟨hf, hm⟩ hmo
      refine gv (m := some ()) (r := ()) hf ?_ rfl
      refine gS (gR (gf rfl (fun a hf => e_nextS 4 hf hm rfl hmo rfl rfl) ?_))
      rintro _ w ⟨bn4_1, p4_1, s4_1, rfl, hb4_1, hg4_1, hm⟩
      refine gSw hb4_1 (gX rfl (gE (gS (gct rfl (gSk (gJ hm (fun s4_2 => [(5, (.slice p0_2 r0_1.length c0_2)), (6, (sV b2_2 o2_2 r0_2.length c2_2)), (7, v0_5), (8, (nV i1_1)), (10, v2_1), (20, (sV b2_1 o2_1 r0_3.length c0_1)), (21, (nV ((r0_3.length : Int)))), (22, (nV i1_1)), (34, (pV b2_3))]) (fun s4_2 => [ow [(.slice p0_2 r0_1.length c0_2)] xs1_1.1, owm v0_5 xs1_1.2, owm v2_1 s4_2, ow [(sV b2_1 o2_1 r0_3.length c0_1)] r0_3, itc hz0_4 v2_2 b2_3 (Array.push sn4_1 bn4_1)]) (fun s4_2 => ?_) ?_))))))
      ·
       refine gBk (gS (gR (gY (yG rfl (y_entryS 4 hm rfl hg4_1 rfl rfl)) (gX rfl (gA rfl (gE (gS (gR (gM rfl (gM rfl (gY (yG rfl (y_lookB (key := p4_1.1) (m := (xs1_1.2 : MapS Bool)) underlying3 underlying62 zeroValue4 (hm.owm_rep 1 rfl) rfl rfl rfl)) (gE (gJ hm (fun s5_1 => [(5, (.slice p0_2 r0_1.length c0_2)), (6, (sV b2_2 o2_2 r0_2.length c2_2)), (7, v0_5), (8, (nV i1_1)), (10, v2_1), (20, (sV b2_1 o2_1 r0_3.length c0_1)), (21, (nV ((r0_3.length : Int)))), (22, (nV i1_1)), (34, (pV b2_3))]) (fun s5_1 => [ow [(.slice p0_2 r0_1.length c0_2)] xs1_1.1, owm v0_5 xs1_1.2, owm v2_1 s5_1, ow [(sV b2_1 o2_1 r0_3.length c0_1)] r0_3, itc hz0_4 v2_2 b2_3 (Array.push sn4_1 bn4_1)]) (fun s5_1 => ?_) ?_)))))))))))))
       ·
        refine gs 41 rfl (fun h6_1 => ?_) fun h6_1 => ?_
        ·
         refine gct rfl (gR (gM rfl (gM rfl (gM rfl (gg fun x6_1 h6_2 hx6_2 => ?_)))))
         obtain ⟨b6_1, o6_1, c6_1, he⟩ := idx_form (hm.ow_rep 0 rfl) hx6_2
         simp only [Value.slice.injEq, Option.some.injEq] at he; obtain ⟨rfl, _, rfl⟩ := he
         have hL6_1 := rep_slice_len (hm.ow_rep 0 rfl)
         refine gI st_37 h6_2 (idx_lt2 hx6_2 hL6_1) rfl (gY (yl isAgg3 ((flat_cells (cs := [(nV x6_1)]) (hm.ow_rep 0 rfl) hx6_2 rfl).cell (j := 0) rfl) rfl) (gf0 rfl (fun a hf => e_insM (β := Bool) (key := x6_1) (u := true) (b := false) 2 underlying3 underlying62 hf hm rfl rfl rfl rfl rfl) ?_))
         rintro _ w hm
         exact gE (gz hm [0, 1, 2, 3, 4] rfl)
        exact gcf rfl (gSk (gz hm [0, 1, 2, 3, 4] rfl))
       repeat clear hm
       intro s5_1 w hm
       exact gz hm [0, 1, 2, 3, 4] rfl
      repeat clear hm
      intro s4_2 w hm
      exact gZr hg4_1 hb4_1 fun a hf => ⟨hf.sb rfl, hm.pk [0, 1, 2, 3, 4] rfl rfl⟩
     repeat clear hm
     rintro sn3_1 xs3_1 a w ⟨hf, hm⟩ hno hk
     refine gv hf ?_ hk
     exact gS (gR (gY (yG rfl (y_nextE 4 hm rfl hno rfl rfl)) (gX rfl (gE (gS (gcf rfl (gXt (gHh (gz hm [0, 1, 2, 3] rfl)))))))))
    repeat clear hm
    intro s2_1 w hm
    refine gS (gR (gA rfl (gE (gS (gJ hm (fun s2_2 => [(5, (.slice p0_2 r0_1.length c0_2)), (6, (sV b2_2 o2_2 r0_2.length c2_2)), (7, v0_5), (8, (nV i1_1)), (12, (nV s2_2)), (20, (sV b2_1 o2_1 r0_3.length c0_1)), (21, (nV ((r0_3.length : Int)))), (22, (nV i1_1))]) (fun s2_2 => [ow [(.slice p0_2 r0_1.length c0_2)] xs1_1.1, owm v0_5 xs1_1.2, ow [(sV b2_1 o2_1 r0_3.length c0_1)] r0_3]) (fun s2_2 => ?_) ?_)))))
    ·
     refine gBk (gMf hm (fun xs4_2 => [(5, (.slice p0_2 r0_1.length c0_2)), (6, (sV b2_2 o2_2 r0_2.length c2_2)), (7, v0_5), (8, (nV i1_1)), (10, v2_1), (12, (nV xs4_2)), (20, (sV b2_1 o2_1 r0_3.length c0_1)), (21, (nV ((r0_3.length : Int)))), (22, (nV i1_1))]) (fun xs4_2 => [ow [(.slice p0_2 r0_1.length c0_2)] xs1_1.1, owm v0_5 xs1_1.2, owm v2_1 s2_1, ow [(sV b2_1 o2_1 r0_3.length c0_1)] r0_3]) [0, 1, 2, 3] rfl ?_)
     repeat clear hm
     intro r3_1 hq3_1 xs4_2 w hm q3_1 ho3_1
     refine gS (gS (gR (gM rfl (gM rfl (gY (yG rfl (y_lookB (key := xs4_2) (m := (s2_1 : MapS Bool)) underlying3 underlying62 zeroValue4 (hm.owm_rep 2 rfl) rfl rfl rfl)) (gE (gs 49 rfl (fun h4_1 => ?_) fun h4_1 => ?_)))))))
     ·
      exact gct rfl (gSk (gBk (gR (gM rfl (gB rfl (gA rfl (gE (gze hm [0, 1, 2, 3] rfl))))))))
     exact gcf rfl (gXt (gHh (gLp ho3_1 hq3_1 (gz hm [0, 1, 3] rfl))))
    repeat clear hm
    intro s2_2 w hm
    refine gR (gM rfl (gM rfl (gM rfl (gM rfl (gM rfl (gg fun x2_3 h2_5 hx2_6 => ?_))))))
    obtain ⟨b2_4, o2_3, c2_3, he⟩ := idx_form (hm.ow_rep 0 rfl) hx2_6
    simp only [Value.slice.injEq, Option.some.injEq] at he; obtain ⟨rfl, _, rfl⟩ := he
    have hL2_1 := rep_slice_len (hm.ow_rep 0 rfl)
    refine gI st_37 h2_5 (idx_lt2 hx2_6 hL2_1) rfl (gf0 rfl (fun a hf => e_setElem (x1 := s2_2) (j := 0) (vs := [(nV s2_2)]) 0 hf hm rfl hx2_6 rfl sizeOf3 rfl rfl rfl (one_cons rfl one_nil) rfl rfl) ?_)
    rintro _ w hm
    have hx2_7 := List.getElem?_set_self (a := s2_2) (idx_lt hx2_6)
    refine gf0 rfl (fun a hf => e_insM (β := Bool) (key := i1_1) (u := true) (b := false) 1 underlying3 underlying62 hf hm rfl rfl rfl rfl rfl) ?_
    rintro _ w hm
    exact gE (gz hm [0, 1, 2] rfl)
   repeat clear hm
   intro s1_1 w hm
   exact gR (gP (by omega) (by omega) rfl (gM rfl (gE (gze hm [0, 1, 2] rfl))))
  repeat clear hm
  intro i0_1 xs0_1 w hm hi0_3 hi0_4
  refine gS (gR (gB rfl (gE (gS (go _ 23 rfl (decide_eq_false (by omega)) (gcf rfl (gXt (gHh (gS (gR (gM rfl (gA rfl (gE (gRt ?_))))))))))))))
  replace hm := hm.thaw hle0_4
  exact gr1 results66 rfl ⟨(.slice p0_2 r0_1.length c0_2), rfl, hm.pk [0] rfl rfl⟩

theorem impl_HomesOf_ok (w0 : World) (u : Unit_) (v1 : Value) (h1 : GT.rep (hp w0) [v1] u.codes) (k_ : Int) (most : Int) :
    ConM Tryz.prog 32 [(.agg #[v1]), (nV k_), (nV most)] w0 (impl_HomesOf u k_ most) fun r v w' => ∃ (x1 : Value), v = x1 ∧ Mem w0 (hp w0) w' [ow [x1] r] := by
  unfold impl_HomesOf
  refine gcon func32 rfl fun r => ?_
  have hm := Mem.start w0
  refine gS (gR (gBx hm rfl fun b0_1 w hm => gA rfl (gE (gS (gS (gJ hm (fun s0_1 => [(1, (nV k_)), (2, (nV most)), (3, (pV b0_1)), (15, (.bool (s0_1)))]) (fun s0_1 => [blk b0_1 [v1] 30]) (fun s0_1 => ?_) ?_))))))
  ·
   refine gR (gY (yn (hm.blk_at 0 rfl) isAgg30 sizeOf30 rfl) (gM rfl (gC hm rfl call52 (impl_plainAt_ok _ u v1 (hm.now h1) k_) fun r1_1 hx1_1 w hm => gN rfl (gM rfl (gsn 11 rfl (fun h1_1 => ?_) fun h1_1 => ?_)))))
   ·
    exact gO rfl (gO rfl (gO rfl (gKt rfl (gE (gz hm [0] rfl)))))
   exact gM rfl (gC hm rfl call63 (impl_within_ok _ most 1 16) fun r1_2 hx1_2 w hm => gN rfl (gKf rfl (gE (gz hm [0] rfl))))
  repeat clear hm
  intro s0_1 w hm
  refine gs 15 rfl (fun h0_1 => ?_) fun h0_1 => ?_
  ·
   refine gct rfl (gS (gR (gA rfl (gE (gRt ?_)))))
   replace hm := hm.nilow (α := Int)
   exact gr1 results32 rfl ⟨(.slice none 0 0), rfl, hm.pk [0] rfl rfl⟩
  refine gcf rfl (gSk (gS (gR (gF fo_30_0 rfl (gL hm 0 isAgg28 rfl (gM rfl (gg fun x0_1 h0_2 hx0_2 => ?_)))))))
  obtain ⟨b0_2, o0_1, c0_1, he⟩ := idx_form' h1 hx0_2
  subst he
  obtain ⟨v0_1, hc0_1, h0_3⟩ := rk_Code_ h1 hx0_2
  refine gI st_28 h0_2 (idx_lt hx0_2) rfl (gY (yn (hc0_1.mono hm.lez) isAgg57 sizeOf57 rfl) (gM rfl (gCg rfl call66 (impl_homes_ok _ x0_1 v0_1 (hm.now h0_3) most) ?_)))
  rintro r0_1 hx0_3 v0_2 w ⟨_, rfl, hB⟩
  replace hm := hm.give hB; clear hB
  exact gA rfl (gE (gRt (gr1 results32 rfl ⟨v0_2, rfl, hm.pk [0] rfl rfl⟩)))

theorem laws_FnExactHomesOf_ok (w0 : World) (aU : Unit_) (v1 : Value) (h1 : GT.rep (hp w0) [v1] aU.codes) (aK : Int) (aMost : Int) :
    ConM Tryz.prog 6 [(.agg #[v1]), (nV aK), (nV aMost)] w0 (laws_FnExactHomesOf aU aK aMost) fun r v w' => v = (.bool (r)) ∧ Below w0.heap.size w0 w' := by
  unfold laws_FnExactHomesOf
  refine gcon func6 rfl fun r => ?_
  have hm := Mem.start w0
  refine gS (gR (gBx hm rfl fun b0_1 w hm => gA rfl (gE (gS (gR (gA rfl (gE (gS (gR (gY (yn (hm.blk_at 0 rfl) isAgg24 sizeOf24 rfl) (gM rfl (gC hm rfl call14 (laws_szUnit_ok _ aU v1 (hm.now h1) 1048576) fun r0_1 hx0_1 w hm => gA rfl (gE (gS (gS (gR (gM rfl (gB rfl (gE (gsd 19 rfl (fun h0_1 => ?_) fun h0_1 => ?_))))))))))))))))))))
  ·
   exact gct rfl (gS (gR (gA rfl (gE (gRt (gr1 results6 rfl ⟨rfl, hm.below⟩))))))
  refine gcf rfl (gSk (gS (gR (gY (yn (hm.blk_at 0 rfl) isAgg24 sizeOf24 rfl) (gCg rfl call16 (laws_toUnit_ok _ aU v1 (hm.now h1)) ?_)))))
  rintro r0_2 hx0_2 v0_2 w ⟨v0_3, rfl, hB⟩
  replace hm := hm.give hB; clear hB
  refine gM rfl (gM rfl (gCg rfl call31 (spec_HomesOf_ok _ r0_2 v0_3 (hm.ow_rep 0 rfl) aK aMost) ?_))
  rintro r0_3 hx0_3 v0_4 w ⟨_, rfl, hB⟩
  replace hm := hm.give hB; clear hB
  refine gA rfl (gE (gS (gR (gY (yn (hm.blk_at 2 rfl) isAgg24 sizeOf24 rfl) (gCg rfl call16 (laws_toUnit_ok _ aU v1 (hm.now h1)) ?_)))))
  rintro r0_4 hx0_4 v0_6 w ⟨v0_7, rfl, hB⟩
  replace hm := hm.give hB; clear hB
  refine gAl hm zeroValue30 rfl fun b0_2 w hm => gSN hm 0 sizeOf30 (one_cons (rep_one (hm.ow_rep 1 rfl)) one_nil) rfl fun w hm => gE (gS (gR (gY (yn (hm.blk_at 0 rfl) isAgg30 sizeOf30 rfl) (gM rfl (gM rfl (gCg rfl call32 (impl_HomesOf_ok _ r0_4 v0_7 (hm.ow_rep 1 rfl) aK aMost) ?_))))))
  rintro r0_5 hx0_5 v0_8 w ⟨_, rfl, hB⟩
  replace hm := hm.give hB; clear hB
  refine gA rfl (gE (gS (gS (gR (gM rfl (gM rfl (gC hm rfl call26 (laws_eqIntS_ok _ r0_5 v0_8 (hm.ow_rep 0 rfl) r0_3 v0_4 (hm.ow_rep 3 rfl)) fun r0_6 hx0_6 w hm => gN rfl (gE (gsn 34 rfl (fun h0_2 => ?_) fun h0_2 => ?_)))))))))
  ·
   exact gct rfl (gS (gR (gA rfl (gE (gRt (gr1 results6 rfl ⟨rfl, hm.below⟩))))))
  refine gcf rfl (gSk (gS (gS (gW (.q 0 (.e 1 (.e 2 (.e 3 (.p 4 .fin) .nil) .nil) .nil)) [1, 2] [4] hm [0, 1, 2, 3, 4, 5] [ow [v0_8] r0_5, blk b0_2 [v0_7] 30, ow [v0_7] r0_4.codes, ow [v0_4] r0_3, ow [v0_3] r0_2.codes, blk b0_1 [v1] 24] rfl mxo (by kernel_rfl) (fun _ _ _ h => h.2) fun w hm hS => tQ rfl hS (fun w hm => yn (hm.blk_at 1 rfl) isAgg30 sizeOf30 rfl) (tO (tY rfl (yn (hm.blk_at 5 rfl) isAgg24 sizeOf24 rfl) (tAs hS (tO (gb fun r0_7 hx0_7 => tf rfl rfl (fun a hf => e_call hf rfl call16 rfl (laws_toUnit_ok _ aU v1 (hm.now h1) _ hx0_7)) ?_)))))))))
  rintro v0_11 w ⟨v0_12, rfl, hB⟩
  replace hm := hm.give hB; clear hB
  refine tAk hm [1, 2, 3, 4, 5, 6] rfl fun hS => tO (gb fun r0_8 hx0_8 => tf rfl rfl (fun a hf => e_call hf rfl call19 rfl (laws_eqUnit_ok _ r0_4 v0_7 (hm.ow_rep 3 rfl) r0_7 v0_12 (hm.ow_rep 0 rfl) _ hx0_8)) ?_)
  rintro v0_13 w ⟨rfl, hB⟩
  replace hm := hm.below' hB; clear hB
  refine tAn rfl (tP rfl (fun w => yN rfl) (tE (gsn 39 rfl (fun h0_3 => ?_) fun h0_3 => ?_)))
  ·
   exact gct rfl (gS (gR (gA rfl (gE (gRt (gr1 results6 rfl ⟨rfl, hm.below⟩))))))
  refine gcf rfl (gSk (gS (gR (gA rfl (gE (gS (gR (gY (yn (hm.blk_at 2 rfl) isAgg30 sizeOf30 rfl) (gM rfl ?_)))))))))
  obtain ⟨hz0_6, hle, hm1, hsub, hk0_1⟩ := hm.take2 (L1 := [ow [v0_7] r0_4.codes]) (L2 := [ow [v0_12] r0_7.codes, ow [v0_8] r0_5, blk b0_2 [v0_7] 30, ow [v0_4] r0_3, ow [v0_3] r0_2.codes, blk b0_1 [v1] 24]) [3] [0, 1, 2, 4, 5, 6] (by decide) rfl rfl
  refine gCg rfl call20 (laws_markUnit_ok _ hz0_6 r0_4 v0_7 1 hm1 ) ?_
  rintro r0_9 hx0_9 v0_14 w ⟨rfl, hB⟩
  replace hm := hk0_1 _ _ hB; clear hB
  refine gA rfl (gE (gS (gS (gJ hm (fun s0_1 => [(1, (nV aK)), (2, (nV aMost)), (3, (pV b0_1)), (8, v0_4), (10, v0_8), (50, (.bool (s0_1)))]) (fun s0_1 => [blk b0_1 [v1] 24, ow [v0_4] r0_3, ow [v0_8] r0_5]) (fun s0_1 => ?_) ?_))))
  ·
   refine gR (gM rfl (gB rfl (gM rfl (gsd 45 rfl (fun h1_1 => ?_) fun h1_1 => ?_))))
   ·
    exact gO rfl (gO rfl (gO rfl (gO rfl (gKt rfl (gE (gz hm [6, 4, 2] rfl))))))
   exact gM rfl (gM rfl (gC hm rfl call26 (laws_eqIntS_ok _ r0_5 v0_8 (hm.ow_rep 2 rfl) r0_3 v0_4 (hm.ow_rep 4 rfl)) fun r1_1 hx1_1 w hm => gN rfl (gKf rfl (gE (gz hm [6, 4, 2] rfl)))))
  repeat clear hm
  intro s0_1 w hm
  refine gs 50 rfl (fun h0_4 => ?_) fun h0_4 => ?_
  ·
   exact gct rfl (gS (gR (gA rfl (gE (gRt (gr1 results6 rfl ⟨rfl, hm.below⟩))))))
  refine gcf rfl (gSk (gS (gR (gA rfl (gE (gS (gR (gM rfl (gM rfl ?_)))))))))
  obtain ⟨hz0_8, hle, hm1, hsub, hk0_2⟩ := hm.take2 (L1 := [ow [v0_8] r0_5]) (L2 := [blk b0_1 [v1] 24, ow [v0_4] r0_3]) [2] [0, 1] (by decide) rfl rfl
  refine gCg rfl call29 (laws_markIntS_ok _ hz0_8 r0_5 v0_8 1 hm1 ) ?_
  rintro r0_10 hx0_10 v0_15 w ⟨rfl, hB⟩
  replace hm := hk0_2 _ _ hB; clear hB
  refine gA rfl (gE (gS (gR (gA rfl (gE (gS (gR (gM rfl (gM rfl (gC hm rfl call30 (laws_heldIntS_ok _ r0_10.2 v0_8 (hm.ow_rep 0 rfl) 1) fun r0_11 hx0_11 w hm => gA rfl (gE (gS (gS (gR (gM rfl (gB rfl (gE (gsd 58 rfl (fun h0_5 => ?_) fun h0_5 => ?_))))))))))))))))))
  ·
   exact gct rfl (gS (gR (gA rfl (gE (gRt (gr1 results6 rfl ⟨rfl, hm.below⟩))))))
  refine gcf rfl (gSk (gS (gS (gR (gM rfl (gM rfl (gB rfl (gE (gsd 61 rfl (fun h0_6 => ?_) fun h0_6 => ?_)))))))))
  ·
   exact gct rfl (gS (gR (gA rfl (gE (gRt (gr1 results6 rfl ⟨rfl, hm.below⟩))))))
  refine gcf rfl (gSk (gS (gR (gY (yn (hm.blk_at 1 rfl) isAgg24 sizeOf24 rfl) (gCg rfl call16 (laws_toUnit_ok _ aU v1 (hm.now h1)) ?_)))))
  rintro r0_12 hx0_12 v0_17 w ⟨v0_18, rfl, hB⟩
  replace hm := hm.give hB; clear hB
  refine gM rfl (gM rfl (gCg rfl call32 (impl_HomesOf_ok _ r0_12 v0_18 (hm.ow_rep 0 rfl) aK aMost) ?_))
  rintro r0_13 hx0_13 v0_19 w ⟨_, rfl, hB⟩
  replace hm := hm.give hB; clear hB
  refine gA rfl (gE (gS (gS (gR (gM rfl (gM rfl (gC hm rfl call26 (laws_eqIntS_ok _ r0_13 v0_19 (hm.ow_rep 0 rfl) r0_3 v0_4 (hm.ow_rep 4 rfl)) fun r0_14 hx0_14 w hm => gN rfl (gE (gsn 70 rfl (fun h0_7 => ?_) fun h0_7 => ?_)))))))))
  ·
   exact gct rfl (gS (gR (gA rfl (gE (gRt (gr1 results6 rfl ⟨rfl, hm.below⟩))))))
  refine gcf rfl (gSk (gS (gR (gA rfl (gE (gS (gR (gM rfl (gM rfl (gC hm rfl call30 (laws_heldIntS_ok _ r0_10.2 v0_8 (hm.ow_rep 2 rfl) 1) fun r0_15 hx0_15 w hm => gA rfl (gE (gS (gS (gR (gM rfl (gB rfl (gE (gsd 75 rfl (fun h0_8 => ?_) fun h0_8 => ?_))))))))))))))))))
  ·
   exact gct rfl (gS (gR (gA rfl (gE (gRt (gr1 results6 rfl ⟨rfl, hm.below⟩))))))
  refine gcf rfl (gSk (gS (gS (gR (gM rfl (gM rfl (gB rfl (gE (gsd 78 rfl (fun h0_9 => ?_) fun h0_9 => ?_)))))))))
  ·
   exact gct rfl (gS (gR (gA rfl (gE (gRt (gr1 results6 rfl ⟨rfl, hm.below⟩))))))
  exact gcf rfl (gSk (gS (gR (gA rfl (gE (gRt (gr1 results6 rfl ⟨rfl, hm.below⟩)))))))

end Go.Proofs.YtpllkdbmgcmklaaGreat
