/- A part of the proof of FnExactKnownWaysSaid. -/
import Derived.Test.YtpllkdbmgcmklaaGreatKwWalksA
namespace Go.Proofs.YtpllkdbmgcmklaaGreat
open Go Go.Wk Go.RowKit
set_option maxRecDepth 4000
set_option maxHeartbeats 4000000

open Tryz
theorem slices_IndexFunc_S_impl_Ins_impl_Ins_ok (w0 : World) (s_ : List Ins_) (v1 : Value) (h1 : GT.rep (hp w0) [v1] s_) (f : Ins_ → Option Bool) (fv1 : Value) (hfn1 : ∀ (w : World) (y0 : Ins_) (z1 : Value) (_ : GT.rep (hp w) [z1] y0.args) (r : Bool), Below w0.heap.size w0 w → f y0 = some r → FnOk Tryz.prog fv1 [(.agg #[(nV y0.op), (nV y0.to), z1, (nV y0.n_)])] w (fun v w' => v = (.bool (r)) ∧ Below w.heap.size w w')) :
    ConM Tryz.prog 279 [v1, fv1] w0 (slices_IndexFunc_S_impl_Ins_impl_Ins s_ f) fun r v w' => v = (nV r) ∧ Below w0.heap.size w0 w' := by
  unfold slices_IndexFunc_S_impl_Ins_impl_Ins
  refine gcon func279 rfl fun r => ?_
  have hm := Mem.start w0
  refine gS (gR (gA rfl (gE (gS (gS (gR (gM rfl ?_)))))))
  obtain ⟨p0_1, c0_1, rfl, hl0_1⟩ := ro_slice h1
  refine gY (yV st_102 rfl) (gM rfl (gE (gBk (gNf hm (fun i1_1 xs1_1 => [(0, (.slice p0_1 s_.length c0_1)), (1, fv1), (7, (nV ((s_.length : Int)))), (8, (nV i1_1))]) (fun i1_1 xs1_1 => []) [] rfl ?_ ?_))))
  ·
   repeat clear hm
   intro r0_1 hq0_1 i1_1 xs1_1 w hm hi0_1 hi0_2 q0_1 ho0_1
   refine gS (gR (gB rfl (gE (gS (go _ 9 rfl (decide_eq_true (by omega)) (gct rfl (gSk (gS (gBk (gS (gR (gM rfl (gA rfl (gE (gS (gR (gM rfl (gM rfl (gM rfl (gg fun x1_1 h1_1 hx1_2 => ?_))))))))))))))))))))
   obtain ⟨b1_1, o1_1, c1_1, he⟩ := idx_form' h1 hx1_2
   simp only [Value.slice.injEq, Option.some.injEq] at he; obtain ⟨rfl, _, rfl⟩ := he
   obtain ⟨v1_1, hc1_1, h1_2⟩ := rk_Ins_ h1 hx1_2
   refine gI st_102 h1_1 (idx_lt hx1_2) rfl (gY (yn (hc1_1.mono hm.lez) isAgg106 sizeOf106 rfl) (gb fun r1_1 hx1_3 => gf rfl (fun a hf => e_callv hf rfl rfl rfl (hfn1 _ x1_1 v1_1 (hm.now h1_2) _ hm.below hx1_3)) ?_))
   rintro v1_2 w ⟨rfl, hB⟩
   replace hm := hm.below' hB; clear hB
   refine gE (gs 16 rfl (fun h1_3 => ?_) fun h1_3 => ?_)
   ·
    exact gct rfl (gS (gR (gM rfl (gA rfl (gE (gRt (gLr ho0_1 hq0_1 (gr1 results279 rfl ⟨rfl, hm.below⟩))))))))
   exact gcf rfl (gSk (gR (gP (by omega) (by omega) rfl (gM rfl (gE (gze hm [] rfl))))))
  repeat clear hm
  intro i0_1 xs0_1 w hm hi0_3 hi0_4
  exact gS (gR (gB rfl (gE (gS (go _ 9 rfl (decide_eq_false (by omega)) (gcf rfl (gXt (gHh (gS (gR (gA rfl (gE (gRt (gr1 results279 rfl ⟨rfl, hm.below⟩))))))))))))))

theorem slices_ContainsFunc_S_impl_Ins_impl_Ins_ok (w0 : World) (s_ : List Ins_) (v1 : Value) (h1 : GT.rep (hp w0) [v1] s_) (f : Ins_ → Option Bool) (fv1 : Value) (hfn1 : ∀ (w : World) (y0 : Ins_) (z1 : Value) (_ : GT.rep (hp w) [z1] y0.args) (r : Bool), Below w0.heap.size w0 w → f y0 = some r → FnOk Tryz.prog fv1 [(.agg #[(nV y0.op), (nV y0.to), z1, (nV y0.n_)])] w (fun v w' => v = (.bool (r)) ∧ Below w.heap.size w w')) :
    ConM Tryz.prog 231 [v1, fv1] w0 (slices_ContainsFunc_S_impl_Ins_impl_Ins s_ f) fun r v w' => v = (.bool (r)) ∧ Below w0.heap.size w0 w' := by
  unfold slices_ContainsFunc_S_impl_Ins_impl_Ins
  refine gcon func231 rfl fun r => ?_
  have hm := Mem.start w0
  exact gS (gR (gA rfl (gE (gS (gR (gM rfl (gM rfl (gC hm rfl call279 (slices_IndexFunc_S_impl_Ins_impl_Ins_ok _ s_ v1 (hm.now h1) f fv1 (fun w y0 z0_0 z0_1 r hB hq => hfn1 w y0 z0_0 z0_1 r (hm.below.trans (hB.mono hm.below.size)) hq)) fun r0_1 hx0_1 w hm => gB rfl (gA rfl (gE (gRt (gr1 results231 rfl ⟨rfl, hm.below⟩))))))))))))

theorem slices_Index_S_int_int_ok (w0 : World) (s_ : List Int) (v1 : Value) (h1 : GT.rep (hp w0) [v1] s_) (v_ : Int) :
    ConM Tryz.prog 157 [v1, (nV v_)] w0 (slices_Index_S_int_int s_ v_) fun r v w' => v = (nV r) ∧ Below w0.heap.size w0 w' := by
  unfold slices_Index_S_int_int
  refine gcon func157 rfl fun r => ?_
  have hm := Mem.start w0
  refine gS (gR (gA rfl (gE (gS (gS (gR (gM rfl ?_)))))))
  obtain ⟨p0_1, c0_1, rfl, hl0_1⟩ := ro_slice h1
  refine gY (yV st_37 rfl) (gM rfl (gE (gBk (gNf hm (fun i1_1 xs1_1 => [(0, (.slice p0_1 s_.length c0_1)), (1, (nV v_)), (7, (nV ((s_.length : Int)))), (8, (nV i1_1))]) (fun i1_1 xs1_1 => []) [] rfl ?_ ?_))))
  ·
   repeat clear hm
   intro r0_1 hq0_1 i1_1 xs1_1 w hm hi0_1 hi0_2 q0_1 ho0_1
   refine gS (gR (gB rfl (gE (gS (go _ 9 rfl (decide_eq_true (by omega)) (gct rfl (gSk (gS (gBk (gS (gR (gM rfl (gA rfl (gE (gS (gR (gM rfl (gM rfl (gM rfl (gg fun x1_1 h1_1 hx1_2 => ?_))))))))))))))))))))
   obtain ⟨b1_1, o1_1, c1_1, he⟩ := idx_form h1 hx1_2
   simp only [Value.slice.injEq, Option.some.injEq] at he; obtain ⟨rfl, _, rfl⟩ := he
   refine gI st_37 h1_1 (idx_lt hx1_2) rfl (gY (yl isAgg3 ((flat_cells (cs := [(nV x1_1)]) (hm.now h1) hx1_2 rfl).cell (j := 0) rfl) rfl) (gB rfl (gE (gsd 16 rfl (fun h1_2 => ?_) fun h1_2 => ?_))))
   ·
    exact gct rfl (gS (gR (gM rfl (gA rfl (gE (gRt (gLr ho0_1 hq0_1 (gr1 results157 rfl ⟨rfl, hm.below⟩))))))))
   exact gcf rfl (gSk (gR (gP (by omega) (by omega) rfl (gM rfl (gE (gze hm [] rfl))))))
  repeat clear hm
  intro i0_1 xs0_1 w hm hi0_3 hi0_4
  exact gS (gR (gB rfl (gE (gS (go _ 9 rfl (decide_eq_false (by omega)) (gcf rfl (gXt (gHh (gS (gR (gA rfl (gE (gRt (gr1 results157 rfl ⟨rfl, hm.below⟩))))))))))))))

theorem slices_Contains_S_int_int_ok (w0 : World) (s_ : List Int) (v1 : Value) (h1 : GT.rep (hp w0) [v1] s_) (v_ : Int) :
    ConM Tryz.prog 111 [v1, (nV v_)] w0 (slices_Contains_S_int_int s_ v_) fun r v w' => v = (.bool (r)) ∧ Below w0.heap.size w0 w' := by
  unfold slices_Contains_S_int_int
  refine gcon func111 rfl fun r => ?_
  have hm := Mem.start w0
  exact gS (gR (gA rfl (gE (gS (gR (gM rfl (gM rfl (gC hm rfl call157 (slices_Index_S_int_int_ok _ s_ v1 (hm.now h1) v_) fun r0_1 hx0_1 w hm => gB rfl (gA rfl (gE (gRt (gr1 results111 rfl ⟨rfl, hm.below⟩))))))))))))

theorem impl_PredsOf_ok (w0 : World) (c_ : Code_) (v1 : Value) (h1 : GT.rep (hp w0) [v1] c_.blocks) (b_ : Int) :
    ConM Tryz.prog 141 [(.agg #[(nV c_.params), (nV c_.regs), v1]), (nV b_)] w0 (impl_PredsOf c_ b_) fun r v w' => ∃ (x1 : Value), v = x1 ∧ Mem w0 (hp w0) w' [ow [x1] r] := by
  unfold impl_PredsOf
  refine gcon func141 rfl fun r => ?_
  have hm := Mem.start w0
  refine gS (gR (gBx hm rfl fun b0_1 w hm => gA rfl (gE (gS (gR (gA rfl (gE (gS (gS (gR (gM rfl (gF fo_57_2 rfl (gL hm 0 isAgg55 rfl ?_)))))))))))))
  obtain ⟨p0_1, c0_1, rfl, hl0_1⟩ := ro_slice h1
  refine gY (yV st_55 rfl) (gY (yS (by omega) (by omega) rfl) (gC hm rfl call63 (impl_within_ok _ b_ 0 (((c_.blocks.length : Int)) - 1)) fun r0_1 hx0_1 w hm => gN rfl (gE (gsn 14 rfl (fun h0_1 => ?_) fun h0_1 => ?_))))
  ·
   refine gct rfl (gS (gR (gA rfl (gE (gRt ?_)))))
   replace hm := hm.nilow (α := Int)
   exact gr1 results141 rfl ⟨(.slice none 0 0), rfl, hm.pk [0] rfl rfl⟩
  refine gcf rfl (gSk (gS (gS (gR (gF fo_57_2 rfl (gL hm 0 isAgg55 rfl (gY (yV st_55 rfl) (gM rfl (gE (gBk ?_))))))))))
  replace hm := hm.nilow (α := Int)
  refine gNg (fun i1_1 xs1_1 a w => ∃ (v1_1 : Value), St 33 [(1, (nV b_)), (5, v1_1), (16, (.slice p0_1 c_.blocks.length c0_1)), (17, (nV ((c_.blocks.length : Int)))), (18, (nV i1_1))] w0 (hp w0) [ow [v1_1] xs1_1] a w) (fun a hf => ⟨(.slice none 0 0), hf.sb rfl, hm.pk [0] rfl rfl⟩) ?_ ?_
  ·
   repeat clear hm
   rintro _ _ i1_1 xs1_1 a w ⟨v1_1, hf, hm⟩ hi0_1 hi0_2 q0_1 _
   refine gv hf (gS (gR (gB rfl (gE (gS (go _ 19 rfl (decide_eq_true (by omega)) (gct rfl (gSk (gS (gJg (fun s1_1 a w => ∃ (v1_2 : Value), St 33 [(1, (nV b_)), (5, v1_2), (16, (.slice p0_1 c_.blocks.length c0_1)), (17, (nV ((c_.blocks.length : Int)))), (18, (nV i1_1))] w0 (hp w0) [ow [v1_2] s1_1] a w) (fun s1_1 => ?_) ?_))))))))))
   ·
    refine gBk (gS (gR (gM rfl (gg fun x2_1 h2_1 hx2_2 => ?_))))
    obtain ⟨b2_1, o2_1, c2_1, he⟩ := idx_form' h1 hx2_2
    simp only [Value.slice.injEq, Option.some.injEq] at he; obtain ⟨rfl, _, rfl⟩ := he
    obtain ⟨v2_1, v2_2, v2_3, hc2_1, h2_2, h2_3, h2_4⟩ := rk_Block_ h1 hx2_2
    refine gI st_55 h2_1 (idx_lt hx2_2) rfl (gY (yn (hc2_1.mono hm.lez) isAgg104 sizeOf104 rfl) (gAl hm zeroValue104 rfl fun b2_2 w hm => gA rfl (gSN hm 0 sizeOf104 (one_cons (rep_one h2_2) (one_cons (rep_one h2_3) (one_cons rfl (one_cons rfl (one_cons (rep_one h2_4) one_nil))))) rfl fun w hm => gE (gS (gR (gF fo_104_4 rfl (gL hm 0 isAgg37 rfl (gM rfl (gC hm rfl call111 (slices_Contains_S_int_int_ok _ x2_1.next_ v2_3 (hm.now h2_4) b_) fun r2_1 hx2_3 w hm => gE (gJg (fun s2_1 a w => ∃ (v2_5 : Value), St 33 [(1, (nV b_)), (5, v2_5), (16, (sV b2_1 o2_1 c_.blocks.length c0_1)), (17, (nV ((c_.blocks.length : Int)))), (18, (nV i1_1))] w0 (hp w0) [ow [v2_5] s2_1] a w) (fun s2_1 => ?_) ?_))))))))))
    ·
     refine gs 26 rfl (fun h3_1 => ?_) fun h3_1 => ?_
     ·
      refine gct rfl (gR (gM rfl (gM rfl (gf rfl (fun a hf => e_build (vs := #[(0, (nV i1_1))]) (cs := [(nV i1_1)]) et_37 hf hm rfl rfl (by kernel_rfl) rfl rfl) ?_))))
      rintro _ w ⟨b3_1, rfl, hm⟩
      replace hm := hm.lit (xs := ([i1_1] : List Int)) 0 rfl rfl rfl rfl
      refine gb fun ys3_1 hx3_1 => ?_
      obtain ⟨h3_2, h3_2e⟩ := appM_some.1 hx3_1
      refine gf rfl (fun a hf => e_append 2 et_37 hf hm rfl (hm.ow_rep 0 rfl) rfl rfl rfl h3_2) ?_
      rintro v3_1 w hm
      rw [h3_2e] at hm
      exact gA rfl (gE (gZ fun a hf => ⟨v3_1, hf.sb rfl, hm.pk [2] rfl rfl⟩))
     exact gcf rfl (gSk (gZ fun a hf => ⟨v1_1, hf.sb rfl, hm.pk [1] rfl rfl⟩))
    repeat clear hm
    rintro s2_1 a w ⟨v2_5, hf, hm⟩
    exact gv hf (gZ fun a hf => ⟨v2_5, hf.sb rfl, hm.pk [0] rfl rfl⟩)
   repeat clear hm
   rintro s1_1 a w ⟨v1_2, hf, hm⟩
   exact gv hf (gR (gP (by omega) (by omega) rfl (gM rfl (gE (gZe fun a hf => ⟨v1_2, hf.sb rfl, hm.pk [0] rfl rfl⟩)))))
  repeat clear hm
  rintro i0_1 xs0_1 a w ⟨v0_2, hf, hm⟩ hi0_3 hi0_4
  exact gv hf (gS (gR (gB rfl (gE (gS (go _ 19 rfl (decide_eq_false (by omega)) (gcf rfl (gXt (gHh (gS (gR (gM rfl (gA rfl (gE (gRt (gr1 results141 rfl ⟨v0_2, rfl, hm.pk [0] rfl rfl⟩))))))))))))))))

theorem impl_codeOk_4_ok (w0 : World) (r_ : Int) (c0_0_ : Code_) (v1 : Value) (h1 : GT.rep (hp w0) [v1] c0_0_.blocks) (bf0_0 : Nat) (hbf0_0 : w0.heap[bf0_0]? = some (.cells ([(nV c0_0_.params), (nV c0_0_.regs), v1] : List Value).toArray 57 (0, 0))) (bf0 : Nat) (hbf0 : w0.heap[bf0]? = some (.cells ([(.func (.func 228) #[] #[(pV bf0_0)])] : List Value).toArray 68 (0, 0))) :
    ConM Tryz.prog 234 [(nV r_), (pV bf0)] w0 (impl_codeOk_4 r_ c0_0_) fun r v w' => v = (.bool (r)) ∧ Below w0.heap.size w0 w' := by
  unfold impl_codeOk_4
  refine gcon func234 rfl fun r => ?_
  have hm := Mem.start w0
  refine gS (gR (gA rfl (gE (gS (gR (gY (yl isAgg68 (hm.old_cell hbf0 rfl) rfl) (gM rfl (gb fun r0_1 hx0_1 => gf rfl (fun a hf => e_callv hf rfl rfl rfl ⟨228, [(pV bf0_0)], rfl, call228, impl_codeOk_1_ok _ r_ c0_0_ v1 (rep_later (hm.now h1) (Below.refl _ _)) bf0_0 (hm.old_later hbf0_0 (Below.refl _ _)) _ hx0_1⟩) ?_))))))))
  rintro v0_1 w ⟨rfl, hB⟩
  replace hm := hm.below' hB; clear hB
  exact gN rfl (gA rfl (gE (gRt (gr1 results234 rfl ⟨rfl, hm.below⟩))))

theorem impl_codeOk_ok (w0 : World) (u : Unit_) (v1 : Value) (h1 : GT.rep (hp w0) [v1] u.codes) (k_ : Int) :
    ConM Tryz.prog 162 [(.agg #[v1]), (nV k_)] w0 (impl_codeOk u k_) fun r v w' => v = (.bool (r)) ∧ Below w0.heap.size w0 w' := by
  unfold impl_codeOk
  refine gcon func162 rfl fun r => ?_
  have hm := Mem.start w0
  refine gS (gR (gBx hm rfl fun b0_1 w hm => gBx hm rfl fun b0_2 w hm => gA rfl (gE (gS (gR (gF fo_30_0 rfl (gL hm 1 isAgg28 rfl (gL hm 0 isAgg3 rfl (gg fun x0_1 h0_1 hx0_2 => ?_)))))))))
  obtain ⟨b0_3, o0_1, c0_1, he⟩ := idx_form' h1 hx0_2
  subst he
  obtain ⟨v0_1, hc0_1, h0_2⟩ := rk_Code_ h1 hx0_2
  refine gI st_28 h0_1 (idx_lt hx0_2) rfl (gY (yn (hc0_1.mono hm.lez) isAgg57 sizeOf57 rfl) (gAl hm zeroValue57 rfl fun b0_4 w hm => gSN hm 0 sizeOf57 (one_cons rfl (one_cons rfl (one_cons (rep_one h0_2) one_nil))) rfl fun w hm => gE (gS (gS (gJ hm (fun s0_1 => [(2, (pV b0_1)), (3, (pV b0_2)), (5, (pV b0_4)), (36, (.bool (s0_1)))]) (fun s0_1 => [blk b0_1 [(sV b0_3 o0_1 u.codes.length c0_1)] 30, blk b0_2 [(nV k_)] 3, blk b0_4 [(nV x0_1.params), (nV x0_1.regs), v0_1] 57]) (fun s0_1 => ?_) ?_)))))
  ·
   refine gR (gF fo_57_1 rfl (gL hm 0 isAgg3 rfl (gC hm rfl call63 (impl_within_ok _ x0_1.regs 0 300) fun r1_1 hx1_1 w hm => gN rfl (gM rfl (gsn 21 rfl (fun h1_1 => ?_) fun h1_1 => ?_)))))
   ·
    exact gO rfl (gO rfl (gO rfl (gO rfl (gO rfl (gO rfl (gO rfl (gKt rfl (gM rfl (gO rfl (gO rfl (gO rfl (gO rfl (gO rfl (gKt rfl (gE (gz hm [2, 1, 0] rfl))))))))))))))))
   refine gF fo_57_0 rfl (gL hm 0 isAgg3 rfl (gF fo_57_1 rfl (gL hm 0 isAgg3 rfl (gY (yG rfl (y_min rfl rfl rfl)) ?_))))
   have h1_2 : minI 3 x0_1.regs = min 3 x0_1.regs := minI_eq _ _
   refine gC hm rfl call63 (impl_within_ok _ x0_1.params 0 (minI 3 x0_1.regs)) fun r1_2 hx1_2 w hm => gN rfl (gKf rfl (gM rfl (gsn 30 rfl (fun h1_3 => ?_) fun h1_3 => ?_)))
   ·
    exact gO rfl (gO rfl (gO rfl (gO rfl (gO rfl (gKt rfl (gE (gz hm [2, 1, 0] rfl)))))))
   refine gF fo_57_2 rfl (gL hm 0 isAgg55 rfl ?_)
   obtain ⟨p1_1, c1_1, rfl, hl1_1⟩ := ro_slice h0_2
   exact gY (yV st_55 rfl) (gC hm rfl call63 (impl_within_ok _ (x0_1.blocks.length : Int) 1 160) fun r1_3 hx1_3 w hm => gN rfl (gKf rfl (gE (gz hm [2, 1, 0] rfl))))
  repeat clear hm
  intro s0_1 w hm
  refine gs 36 rfl (fun h0_3 => ?_) fun h0_3 => ?_
  ·
   exact gct rfl (gS (gR (gA rfl (gE (gRt (gr1 results162 rfl ⟨rfl, hm.below⟩))))))
  refine gcf rfl (gSk (gS (gR (gY (yU rfl) (gAl hm zeroValue68 rfl fun b0_5 w hm => gS1 hm 0 sizeOf68 rfl rfl fun w hm => gE (gS (gS (gR (gF fo_57_2 rfl (gL hm 3 isAgg55 rfl ?_))))))))))
  obtain ⟨p0_1, c0_2, rfl, hl0_1⟩ := ro_slice h0_2
  refine gY (yV st_55 rfl) (gM rfl (gE (gBk (gNf hm (fun i1_1 xs1_1 => [(2, (pV b0_1)), (3, (pV b0_2)), (5, (pV b0_4)), (6, (pV b0_5)), (39, (.slice p0_1 x0_1.blocks.length c0_2)), (40, (nV ((x0_1.blocks.length : Int)))), (41, (nV i1_1))]) (fun i1_1 xs1_1 => [blk b0_1 [(sV b0_3 o0_1 u.codes.length c0_1)] 30, blk b0_2 [(nV k_)] 3, blk b0_4 [(nV x0_1.params), (nV x0_1.regs), (.slice p0_1 x0_1.blocks.length c0_2)] 57, blk b0_5 [(.func (.func 228) #[] #[(pV b0_4)])] 68]) [1, 2, 3, 0] rfl ?_ ?_))))
  ·
   repeat clear hm
   intro r0_1 hq0_2 i1_1 xs1_1 w hm hi0_1 hi0_2 q0_1 ho0_1
   refine gS (gR (gB rfl (gE (gS (go _ 42 rfl (decide_eq_true (by omega)) (gct rfl (gSk (gS (gBk (gS (gR (gM rfl (gg fun x1_1 h1_4 hx1_5 => ?_)))))))))))))
   obtain ⟨b1_1, o1_1, c1_2, he⟩ := idx_form' h0_2 hx1_5
   simp only [Value.slice.injEq, Option.some.injEq] at he; obtain ⟨rfl, _, rfl⟩ := he
   obtain ⟨v1_4, v1_5, v1_6, hc1_1, h1_5, h1_6, h1_7⟩ := rk_Block_ h0_2 hx1_5
   refine gI st_55 h1_4 (idx_lt hx1_5) rfl (gY (yn (hc1_1.mono hm.lez) isAgg104 sizeOf104 rfl) (gAl hm zeroValue104 rfl fun b1_2 w hm => gA rfl (gSN hm 0 sizeOf104 (one_cons (rep_one h1_5) (one_cons (rep_one h1_6) (one_cons rfl (one_cons rfl (one_cons (rep_one h1_7) one_nil))))) rfl fun w hm => gE (gS (gS (gJ hm (fun s1_1 => [(2, (pV b0_1)), (3, (pV b0_2)), (5, (pV b0_4)), (6, (pV b0_5)), (7, (nV i1_1)), (8, (pV b1_2)), (39, (sV b1_1 o1_1 x0_1.blocks.length c0_2)), (40, (nV ((x0_1.blocks.length : Int)))), (41, (nV i1_1)), (75, (.bool (s1_1)))]) (fun s1_1 => [blk b0_1 [(sV b0_3 o0_1 u.codes.length c0_1)] 30, blk b0_2 [(nV k_)] 3, blk b0_4 [(nV x0_1.params), (nV x0_1.regs), (sV b1_1 o1_1 x0_1.blocks.length c0_2)] 57, blk b0_5 [(.func (.func 228) #[] #[(pV b0_4)])] 68, blk b1_2 [v1_4, v1_5, (nV x1_1.jump), (nV x1_1.on), v1_6] 104]) (fun s1_1 => ?_) ?_))))))
   ·
    refine gW (.p 0 (.p 3 (.q 1 (.p 2 (.e 4 (.e 5 (.p 6 (.p 7 (.p 8 (.e 9 (.e 10 (.p 11 (.p 13 (.q 12 (.e 14 (.e 15 (.p 16 (.p 17 (.p 18 (.p 19 (.p 20 (.e 21 (.e 22 (.p 23 (.p 24 (.p 25 (.e 26 (.p 27 (.p 28 (.p 29 .fin))) .nil)))) .nil) .nil)))))) .nil) .nil)))) .nil) .nil)))) .nil) .nil))))) [4, 5, 14] [0, 2, 3, 6, 7, 8, 11, 13, 16, 17, 18, 19, 20, 23, 24, 25, 27, 28, 29] hm [0, 1, 2, 3, 4] [blk b1_2 [v1_4, v1_5, (nV x1_1.jump), (nV x1_1.on), v1_6] 104, blk b0_1 [(sV b0_3 o0_1 u.codes.length c0_1)] 30, blk b0_2 [(nV k_)] 3, blk b0_4 [(nV x0_1.params), (nV x0_1.regs), (sV b1_1 o1_1 x0_1.blocks.length c0_2)] 57, blk b0_5 [(.func (.func 228) #[] #[(pV b0_4)])] 68] rfl mxo (by kernel_rfl) (fun _ _ _ h => h.2) fun w hm hS => tP rfl (fun w => yF fo_104_4 rfl) (tP rfl (fun w => yF fo_104_2 rfl) (tQ rfl hS (fun w hm => yL hm 0 isAgg37 rfl) ?_))
    obtain ⟨p2_1, c2_1, rfl, hl2_1⟩ := ro_slice h1_7
    refine tP rfl (fun w => yV st_37 rfl) (tO (tY rfl (yL hm 0 isAgg3 rfl) (tAs hS (tO (gb fun r2_1 hx2_1 => tf rfl rfl (fun a hf => e_call hf rfl call229 rfl (impl_nextCount_ok _ x1_1.jump _ hx2_1)) ?_)))))
    rintro v2_1 w ⟨rfl, hB⟩
    replace hm := hm.below' hB; clear hB
    refine tAk hm [0, 1, 2, 3, 4] rfl fun hS => tP rfl (fun w => yB rfl) (tP rfl (fun w => yM rfl) (gsd 53 rfl (fun h2_1 => ?_) fun h2_1 => ?_))
    ·
     refine tPo rfl rfl (tO (tEo rfl rfl (tAn rfl (tO (tEo rfl rfl (tAn rfl (tPo rfl rfl (tPo rfl rfl (tQo rfl hS rfl (tO (tEo rfl rfl (tAs hS (tO (tEo rfl rfl (tAn rfl (tPo rfl rfl (tPo rfl rfl (tP rfl (fun w => yKt rfl) (tP rfl (fun w => yM rfl) (tPo rfl rfl (tO (tEo rfl rfl (tAn rfl (tO (tEo rfl rfl (tAn rfl (tPo rfl rfl (tPo rfl rfl (tPo rfl rfl (tO ?_))))))))))))))))))))))))))))))
     exact tEo rfl rfl (tAn rfl (tPo rfl rfl (tPo rfl rfl (tP rfl (fun w => yKt rfl) (tE (gz hm [1, 2, 3, 4, 0] rfl))))))
    refine tP rfl (fun w => yF fo_104_2 rfl) (tO (tY rfl (yL hm 0 isAgg3 rfl) (tAn rfl (tO (gb fun r2_2 hx2_2 => tf rfl rfl (fun a hf => e_call hf rfl call144 rfl (impl_usesOn_ok _ x1_1.jump _ hx2_2)) ?_)))))
    rintro v2_2 w ⟨rfl, hB⟩
    replace hm := hm.below' hB; clear hB
    refine tAk hm [0, 1, 2, 3, 4] rfl fun hS => tP rfl (fun w => yM rfl) (gs 57 rfl (fun h2_2 => ?_) fun h2_2 => ?_)
    ·
     refine tP rfl (fun w => yF fo_104_3 rfl) (tQ rfl hS (fun w hm => yL hm 4 isAgg68 rfl) (tO (tY rfl (yL hm 0 isAgg3 rfl) (tAs hS (tO (gb fun r2_3 hx2_3 => tf rfl rfl (fun a hf => e_callv hf rfl rfl rfl ⟨228, [(pV b0_4)], rfl, call228, impl_codeOk_1_ok _ x1_1.on x0_1 (sV b1_1 o1_1 x0_1.blocks.length c0_2) (rep_later (hm.now h0_2) (Below.refl _ _)) b0_4 (hm.blk_later 3 rfl (Below.refl _ _)) _ hx2_3⟩) ?_))))))
     rintro v2_3 w ⟨rfl, hB⟩
     replace hm := hm.below' hB; clear hB
     refine tAn rfl (tP rfl (fun w => yN rfl) (tP rfl (fun w => yKt rfl) (tP rfl (fun w => yKf rfl) (tP rfl (fun w => yM rfl) (gsn 65 rfl (fun h2_3 => ?_) fun h2_3 => ?_)))))
     ·
      exact tPo rfl rfl (tO (tEo rfl rfl (tAn rfl (tO (tEo rfl rfl (tAn rfl (tPo rfl rfl (tPo rfl rfl (tPo rfl rfl (tO (tEo rfl rfl (tAn rfl (tPo rfl rfl (tPo rfl rfl (tP rfl (fun w => yKt rfl) (tE (gz hm [1, 2, 3, 4, 0] rfl)))))))))))))))))
     refine tP rfl (fun w => yF fo_104_2 rfl) (tO (tY rfl (yL hm 0 isAgg3 rfl) (tAn rfl (tO (gb fun r2_4 hx2_4 => tf rfl rfl (fun a hf => e_call hf rfl call144 rfl (impl_usesOn_ok _ x1_1.jump _ hx2_4)) ?_)))))
     rintro v2_4 w ⟨rfl, hB⟩
     replace hm := hm.below' hB; clear hB
     refine tAn rfl (tP rfl (fun w => yN rfl) (tP rfl (fun w => yM rfl) (gsn 70 rfl (fun h2_4 => ?_) fun h2_4 => ?_)))
     ·
      exact tP rfl (fun w => yF fo_104_3 rfl) (tO (tY rfl (yL hm 0 isAgg3 rfl) (tAn rfl (tP rfl (fun w => yB rfl) (tP rfl (fun w => yKt rfl) (tP rfl (fun w => yKf rfl) (tE (gz hm [1, 2, 3, 4, 0] rfl))))))))
     exact tPo rfl rfl (tO (tEo rfl rfl (tAn rfl (tPo rfl rfl (tP rfl (fun w => yKf rfl) (tP rfl (fun w => yKf rfl) (tE (gz hm [1, 2, 3, 4, 0] rfl))))))))
    refine tPo rfl rfl (tQo rfl hS rfl (tO (tEo rfl rfl (tAs hS (tO (tEo rfl rfl (tAn rfl (tPo rfl rfl (tP rfl (fun w => yKf rfl) (tP rfl (fun w => yKf rfl) (tP rfl (fun w => yM rfl) (tP rfl (fun w => yF fo_104_2 rfl) (tO (tY rfl (yL hm 0 isAgg3 rfl) (tAn rfl (tO (gb fun r2_5 hx2_5 => tf rfl rfl (fun a hf => e_call hf rfl call144 rfl (impl_usesOn_ok _ x1_1.jump _ hx2_5)) ?_)))))))))))))))))
    rintro v2_5 w ⟨rfl, hB⟩
    replace hm := hm.below' hB; clear hB
    refine tAn rfl (tP rfl (fun w => yN rfl) (tP rfl (fun w => yM rfl) (gsn 70 rfl (fun h2_5 => ?_) fun h2_5 => ?_)))
    ·
     exact tP rfl (fun w => yF fo_104_3 rfl) (tO (tY rfl (yL hm 0 isAgg3 rfl) (tAn rfl (tP rfl (fun w => yB rfl) (tP rfl (fun w => yKt rfl) (tP rfl (fun w => yKf rfl) (tE (gz hm [1, 2, 3, 4, 0] rfl))))))))
    exact tPo rfl rfl (tO (tEo rfl rfl (tAn rfl (tPo rfl rfl (tP rfl (fun w => yKf rfl) (tP rfl (fun w => yKf rfl) (tE (gz hm [1, 2, 3, 4, 0] rfl))))))))
   repeat clear hm
   intro s1_1 w hm
   refine gs 75 rfl (fun h1_8 => ?_) fun h1_8 => ?_
   ·
    exact gct rfl (gS (gR (gA rfl (gE (gRt (gLr ho0_1 hq0_2 (gr1 results162 rfl ⟨rfl, hm.below⟩)))))))
   refine gcf rfl (gSk (gS (gS (gJ hm (fun s1_2 => [(2, (pV b0_1)), (3, (pV b0_2)), (5, (pV b0_4)), (6, (pV b0_5)), (7, (nV i1_1)), (8, (pV b1_2)), (39, (sV b1_1 o1_1 x0_1.blocks.length c0_2)), (40, (nV ((x0_1.blocks.length : Int)))), (41, (nV i1_1)), (85, (.bool (s1_2)))]) (fun s1_2 => [blk b0_1 [(sV b0_3 o0_1 u.codes.length c0_1)] 30, blk b0_2 [(nV k_)] 3, blk b0_4 [(nV x0_1.params), (nV x0_1.regs), (sV b1_1 o1_1 x0_1.blocks.length c0_2)] 57, blk b0_5 [(.func (.func 228) #[] #[(pV b0_4)])] 68, blk b1_2 [v1_4, v1_5, (nV x1_1.jump), (nV x1_1.on), v1_6] 104]) (fun s1_2 => ?_) ?_))))
   ·
    refine gR (gF fo_104_4 rfl (gL hm 4 isAgg37 rfl (gY (yU rfl) (gC hm rfl call57 (slices_ContainsFunc_S_int_int_ok _ x1_1.next_ v1_6 (hm.now h1_7) (fun y0 => impl_codeOk_2 y0 x0_1) (.func (.func 230) #[] #[(pV b0_4)]) (fun w y0 r hB hq => ⟨230, [(pV b0_4)], rfl, call230, impl_codeOk_2_ok w y0 x0_1 (sV b1_1 o1_1 x0_1.blocks.length c0_2) (rep_later (hm.now h0_2) hB) b0_4 (hm.blk_later 2 rfl hB) r hq⟩)) fun r2_6 hx2_6 w hm => gM rfl (gs 80 rfl (fun h2_6 => ?_) fun h2_6 => ?_)))))
    ·
     exact gO rfl (gO rfl (gO rfl (gO rfl (gKt rfl (gE (gz hm [0, 1, 2, 3, 4] rfl))))))
    exact gF fo_104_1 rfl (gL hm 4 isAgg102 rfl (gY (yU rfl) (gC hm rfl call231 (slices_ContainsFunc_S_impl_Ins_impl_Ins_ok _ x1_1.ins v1_5 (hm.now h1_6) (fun y0 => impl_codeOk_3 y0 u k_) (.func (.func 232) #[] #[(pV b0_1), (pV b0_2)]) (fun w y0 z0_0 z0_1 r hB hq => ⟨232, [(pV b0_1), (pV b0_2)], rfl, call232, impl_codeOk_3_ok w y0 z0_0 z0_1 u (sV b0_3 o0_1 u.codes.length c0_1) (rep_later (hm.now h1) hB) b0_1 (hm.blk_later 0 rfl hB) k_ b0_2 (hm.blk_later 1 rfl hB) r hq⟩)) fun r2_7 hx2_7 w hm => gKf rfl (gE (gz hm [0, 1, 2, 3, 4] rfl)))))
   repeat clear hm
   intro s1_2 w hm
   refine gs 85 rfl (fun h1_9 => ?_) fun h1_9 => ?_
   ·
    exact gct rfl (gS (gR (gA rfl (gE (gRt (gLr ho0_1 hq0_2 (gr1 results162 rfl ⟨rfl, hm.below⟩)))))))
   refine gcf rfl (gSk (gS (gR (gY (yn (hm.blk_at 2 rfl) isAgg57 sizeOf57 rfl) (gM rfl (gCg rfl call141 (impl_PredsOf_ok _ x0_1 (sV b1_1 o1_1 x0_1.blocks.length c0_2) (hm.now h0_2) i1_1) ?_))))))
   rintro r1_4 hx1_6 v1_7 w ⟨_, rfl, hB⟩
   replace hm := hm.give hB; clear hB
   obtain ⟨p1_2, c1_3, rfl, hl1_2⟩ := ro_slice (hm.ow_rep 0 rfl)
   refine gY (yV st_37 rfl) (gA rfl (gE (gS (gR (gF fo_104_0 rfl (gL hm 5 isAgg101 rfl ?_))))))
   obtain ⟨p1_3, c1_4, rfl, hl1_3⟩ := ro_slice h1_5
   refine gY (yV st_101 rfl) (gM rfl (gE (gBk (gNf hm (fun i2_1 xs2_1 => [(2, (pV b0_1)), (3, (pV b0_2)), (5, (pV b0_4)), (6, (pV b0_5)), (7, (nV i1_1)), (9, (nV ((r1_4.length : Int)))), (39, (sV b1_1 o1_1 x0_1.blocks.length c0_2)), (40, (nV ((x0_1.blocks.length : Int)))), (41, (nV i1_1)), (91, (.slice p1_3 x1_1.phis.length c1_4)), (92, (nV ((x1_1.phis.length : Int)))), (93, (nV i2_1))]) (fun i2_1 xs2_1 => [blk b0_1 [(sV b0_3 o0_1 u.codes.length c0_1)] 30, blk b0_2 [(nV k_)] 3, blk b0_4 [(nV x0_1.params), (nV x0_1.regs), (sV b1_1 o1_1 x0_1.blocks.length c0_2)] 57, blk b0_5 [(.func (.func 228) #[] #[(pV b0_4)])] 68]) [1, 2, 3, 4] rfl ?_ ?_))))
   ·
    repeat clear hm
    intro r1_5 hq1_3 i2_1 xs2_1 w hm hi1_1 hi1_2 q1_1 ho1_5
    refine gS (gR (gB rfl (gE (gS (go _ 94 rfl (decide_eq_true (by omega)) (gct rfl (gSk (gS (gBk (gS (gR (gg fun x2_1 h2_7 hx2_9 => ?_))))))))))))
    obtain ⟨b2_1, o2_1, c2_2, he⟩ := idx_form' h1_5 hx2_9
    simp only [Value.slice.injEq, Option.some.injEq] at he; obtain ⟨rfl, _, rfl⟩ := he
    obtain ⟨v2_8, hc2_1, h2_8⟩ := rk_Phi_ h1_5 hx2_9
    refine gI st_101 h2_7 (idx_lt hx2_9) rfl (gY (yn (hc2_1.mono hm.lez) isAgg143 sizeOf143 rfl) (gAl hm zeroValue143 rfl fun b2_2 w hm => gSN hm 0 sizeOf143 (one_cons rfl (one_cons (rep_one h2_8) one_nil)) rfl fun w hm => gE (gS (gJ hm (fun s2_1 => [(2, (pV b0_1)), (3, (pV b0_2)), (5, (pV b0_4)), (6, (pV b0_5)), (7, (nV i1_1)), (9, (nV ((r1_4.length : Int)))), (39, (sV b1_1 o1_1 x0_1.blocks.length c0_2)), (40, (nV ((x0_1.blocks.length : Int)))), (41, (nV i1_1)), (91, (sV b2_1 o2_1 x1_1.phis.length c1_4)), (92, (nV ((x1_1.phis.length : Int)))), (93, (nV i2_1)), (118, (.bool (s2_1)))]) (fun s2_1 => [blk b0_1 [(sV b0_3 o0_1 u.codes.length c0_1)] 30, blk b0_2 [(nV k_)] 3, blk b0_4 [(nV x0_1.params), (nV x0_1.regs), (sV b1_1 o1_1 x0_1.blocks.length c0_2)] 57, blk b0_5 [(.func (.func 228) #[] #[(pV b0_4)])] 68]) (fun s2_1 => ?_) ?_))))
    ·
     refine gR (gM rfl (gB rfl (gM rfl (gsd 99 rfl (fun h3_1 => ?_) fun h3_1 => ?_))))
     ·
      exact gO rfl (gO rfl (gO rfl (gO rfl (gO rfl (gKt rfl (gM rfl (gO rfl (gO rfl (gO rfl (gO rfl (gO rfl (gKt rfl (gM rfl (gO rfl (gO rfl (gO rfl (gO rfl (gKt rfl (gE (gz hm [1, 2, 3, 4] rfl))))))))))))))))))))
     refine gL hm 4 isAgg68 rfl (gF fo_143_0 rfl (gL hm 0 isAgg3 rfl (gb fun r3_1 hx3_1 => gf rfl (fun a hf => e_callv hf rfl rfl rfl ⟨228, [(pV b0_4)], rfl, call228, impl_codeOk_1_ok _ x2_1.to x0_1 (sV b1_1 o1_1 x0_1.blocks.length c0_2) (rep_later (hm.now h0_2) (Below.refl _ _)) b0_4 (hm.blk_later 3 rfl (Below.refl _ _)) _ hx3_1⟩) ?_)))
     rintro v3_1 w ⟨rfl, hB⟩
     replace hm := hm.below' hB; clear hB
     refine gN rfl (gKf rfl (gM rfl (gsn 106 rfl (fun h3_2 => ?_) fun h3_2 => ?_)))
     ·
      exact gO rfl (gO rfl (gO rfl (gO rfl (gO rfl (gKt rfl (gM rfl (gO rfl (gO rfl (gO rfl (gO rfl (gKt rfl (gE (gz hm [1, 2, 3, 4] rfl)))))))))))))
     refine gF fo_143_1 rfl (gL hm 0 isAgg37 rfl ?_)
     obtain ⟨p3_1, c3_1, rfl, hl3_1⟩ := ro_slice h2_8
     refine gY (yV st_37 rfl) (gM rfl (gB rfl (gKf rfl (gM rfl (gsd 113 rfl (fun h3_3 => ?_) fun h3_3 => ?_)))))
     ·
      exact gO rfl (gO rfl (gO rfl (gO rfl (gKt rfl (gE (gz hm [1, 2, 3, 4] rfl))))))
     exact gF fo_143_1 rfl (gL hm 0 isAgg37 rfl (gY (yU rfl) (gC hm rfl call57 (slices_ContainsFunc_S_int_int_ok _ x2_1.args (.slice p3_1 x2_1.args.length c3_1) (hm.now h2_8) (fun y0 => impl_codeOk_4 y0 x0_1) (.func (.func 234) #[] #[(pV b0_5)]) (fun w y0 r hB hq => ⟨234, [(pV b0_5)], rfl, call234, impl_codeOk_4_ok w y0 x0_1 (sV b1_1 o1_1 x0_1.blocks.length c0_2) (rep_later (hm.now h0_2) hB) b0_4 (hm.blk_later 3 rfl hB) b0_5 (hm.blk_later 4 rfl hB) r hq⟩)) fun r3_2 hx3_2 w hm => gKf rfl (gE (gz hm [1, 2, 3, 4] rfl)))))
    repeat clear hm
    intro s2_1 w hm
    refine gs 118 rfl (fun h2_9 => ?_) fun h2_9 => ?_
    ·
     exact gct rfl (gS (gR (gA rfl (gE (gRt (gLr ho1_5 hq1_3 (gLr ho0_1 hq0_2 (gr1 results162 rfl ⟨rfl, hm.below⟩))))))))
    exact gcf rfl (gSk (gR (gP (by omega) (by omega) rfl (gM rfl (gE (gze hm [0, 1, 2, 3] rfl))))))
   repeat clear hm
   intro i1_2 xs1_2 w hm hi1_3 hi1_4
   exact gS (gR (gB rfl (gE (gS (go _ 94 rfl (decide_eq_false (by omega)) (gcf rfl (gXt (gHh (gR (gP (by omega) (by omega) rfl (gM rfl (gE (gze hm [0, 1, 2, 3] rfl)))))))))))))
  repeat clear hm
  intro i0_1 xs0_1 w hm hi0_3 hi0_4
  exact gS (gR (gB rfl (gE (gS (go _ 42 rfl (decide_eq_false (by omega)) (gcf rfl (gXt (gHh (gS (gR (gA rfl (gE (gRt (gr1 results162 rfl ⟨rfl, hm.below⟩))))))))))))))

theorem impl_codeCount_ok (w0 : World) (c_ : Code_) (v1 : Value) (h1 : GT.rep (hp w0) [v1] c_.blocks) :
    ConM Tryz.prog 128 [(.agg #[(nV c_.params), (nV c_.regs), v1])] w0 (impl_codeCount c_) fun r v w' => v = (nV r) ∧ Below w0.heap.size w0 w' := by
  unfold impl_codeCount
  refine gcon func128 rfl fun r => ?_
  have hm := Mem.start w0
  refine gS (gR (gBx hm rfl fun b0_1 w hm => gA rfl (gE (gS (gR (gA rfl (gE (gS (gS (gR (gF fo_57_2 rfl (gL hm 0 isAgg55 rfl ?_))))))))))))
  obtain ⟨p0_1, c0_1, rfl, hl0_1⟩ := ro_slice h1
  refine gY (yV st_55 rfl) (gM rfl (gE (gBk (gNf hm (fun i1_1 xs1_1 => [(3, (nV xs1_1)), (7, (.slice p0_1 c_.blocks.length c0_1)), (8, (nV ((c_.blocks.length : Int)))), (9, (nV i1_1))]) (fun i1_1 xs1_1 => []) [] rfl ?_ ?_))))
  ·
   repeat clear hm
   intro _ _ i1_1 xs1_1 w hm hi0_1 hi0_2 q0_1 _
   refine gS (gR (gB rfl (gE (gS (go _ 10 rfl (decide_eq_true (by omega)) (gct rfl (gSk (gS (gBk (gS (gR (gg fun x1_1 h1_1 hx1_2 => ?_))))))))))))
   obtain ⟨b1_1, o1_1, c1_1, he⟩ := idx_form' h1 hx1_2
   simp only [Value.slice.injEq, Option.some.injEq] at he; obtain ⟨rfl, _, rfl⟩ := he
   obtain ⟨v1_1, v1_2, v1_3, hc1_1, h1_2, h1_3, h1_4⟩ := rk_Block_ h1 hx1_2
   refine gI st_55 h1_1 (idx_lt hx1_2) rfl (gY (yn (hc1_1.mono hm.lez) isAgg104 sizeOf104 rfl) (gAl hm zeroValue104 rfl fun b1_2 w hm => gSN hm 0 sizeOf104 (one_cons (rep_one h1_2) (one_cons (rep_one h1_3) (one_cons rfl (one_cons rfl (one_cons (rep_one h1_4) one_nil))))) rfl fun w hm => gE (gR (gM rfl (gF fo_104_0 rfl (gL hm 0 isAgg101 rfl ?_))))))
   obtain ⟨p1_1, c1_2, rfl, hl1_1⟩ := ro_slice h1_2
   refine gY (yV st_101 rfl) (gF fo_104_1 rfl (gL hm 0 isAgg102 rfl ?_))
   obtain ⟨p1_2, c1_3, rfl, hl1_2⟩ := ro_slice h1_3
   exact gY (yV st_102 rfl) (gP (by omega) (by omega) rfl (gB rfl (gA rfl (gE (gR (gP (by omega) (by omega) rfl (gM rfl (gE (gze hm [] rfl)))))))))
  repeat clear hm
  intro i0_1 xs0_1 w hm hi0_3 hi0_4
  exact gS (gR (gB rfl (gE (gS (go _ 10 rfl (decide_eq_false (by omega)) (gcf rfl (gXt (gHh (gS (gR (gM rfl (gA rfl (gE (gRt (gr1 results128 rfl ⟨rfl, hm.below⟩)))))))))))))))

theorem impl_UnitValid_ok (w0 : World) (u : Unit_) (v1 : Value) (h1 : GT.rep (hp w0) [v1] u.codes) :
    ConM Tryz.prog 116 [(.agg #[v1])] w0 (impl_UnitValid u) fun r v w' => v = (.bool (r)) ∧ Below w0.heap.size w0 w' := by
  unfold impl_UnitValid
  refine gcon func116 rfl fun r => ?_
  have hm := Mem.start w0
  refine gS (gR (gBx hm rfl fun b0_1 w hm => gA rfl (gE (gS (gS (gR (gF fo_30_0 rfl (gL hm 0 isAgg28 rfl ?_))))))))
  obtain ⟨p0_1, c0_1, rfl, hl0_1⟩ := ro_slice h1
  refine gY (yV st_28 rfl) (gC hm rfl call63 (impl_within_ok _ (u.codes.length : Int) 1 4) fun r0_1 hx0_1 w hm => gN rfl (gE (gsn 10 rfl (fun h0_1 => ?_) fun h0_1 => ?_)))
  ·
   exact gct rfl (gS (gR (gA rfl (gE (gRt (gr1 results116 rfl ⟨rfl, hm.below⟩))))))
  refine gcf rfl (gSk (gS (gR (gA rfl (gE (gS (gS (gR (gF fo_30_0 rfl (gL hm 0 isAgg28 rfl (gY (yV st_28 rfl) (gM rfl (gE (gBk (gNf hm (fun i1_1 xs1_1 => [(1, (pV b0_1)), (3, (nV xs1_1)), (12, (.slice p0_1 u.codes.length c0_1)), (13, (nV ((u.codes.length : Int)))), (14, (nV i1_1))]) (fun i1_1 xs1_1 => [blk b0_1 [(.slice p0_1 u.codes.length c0_1)] 30]) [0] rfl ?_ ?_)))))))))))))))
  ·
   repeat clear hm
   intro r0_2 hq0_1 i1_1 xs1_1 w hm hi0_1 hi0_2 q0_1 ho0_2
   refine gS (gR (gB rfl (gE (gS (go _ 15 rfl (decide_eq_true (by omega)) (gct rfl (gSk (gS (gBk (gS (gR (gM rfl (gg fun x1_1 h1_1 hx1_2 => ?_)))))))))))))
   obtain ⟨b1_1, o1_1, c1_1, he⟩ := idx_form' h1 hx1_2
   simp only [Value.slice.injEq, Option.some.injEq] at he; obtain ⟨rfl, _, rfl⟩ := he
   obtain ⟨v1_1, hc1_1, h1_2⟩ := rk_Code_ h1 hx1_2
   refine gI st_28 h1_1 (idx_lt hx1_2) rfl (gY (yn (hc1_1.mono hm.lez) isAgg57 sizeOf57 rfl) (gAl hm zeroValue57 rfl fun b1_2 w hm => gA rfl (gSN hm 0 sizeOf57 (one_cons rfl (one_cons rfl (one_cons (rep_one h1_2) one_nil))) rfl fun w hm => gE (gS (gS (gR (gY (yn (hm.blk_at 1 rfl) isAgg30 sizeOf30 rfl) (gM rfl (gC hm rfl call162 (impl_codeOk_ok _ u (sV b1_1 o1_1 u.codes.length c0_1) (hm.now h1) i1_1) fun r1_1 hx1_3 w hm => gN rfl (gE (gsn 22 rfl (fun h1_3 => ?_) fun h1_3 => ?_)))))))))))
   ·
    exact gct rfl (gS (gR (gA rfl (gE (gRt (gLr ho0_2 hq0_1 (gr1 results116 rfl ⟨rfl, hm.below⟩)))))))
   exact gcf rfl (gSk (gR (gM rfl (gY (yn (hm.blk_at 0 rfl) isAgg57 sizeOf57 rfl) (gC hm rfl call128 (impl_codeCount_ok _ x1_1 v1_1 (hm.now h1_2)) fun r1_2 hx1_4 w hm => gB rfl (gA rfl (gE (gR (gP (by omega) (by omega) rfl (gM rfl (gE (gze hm [1] rfl))))))))))))
  repeat clear hm
  intro i0_1 xs0_1 w hm hi0_3 hi0_4
  exact gS (gR (gB rfl (gE (gS (go _ 15 rfl (decide_eq_false (by omega)) (gcf rfl (gXt (gHh (gS (gR (gM rfl (gB rfl (gA rfl (gE (gRt (gr1 results116 rfl ⟨rfl, hm.below⟩))))))))))))))))

theorem slices_IndexFunc_S_impl_Code_impl_Code_ok (w0 : World) (s_ : List Code_) (v1 : Value) (h1 : GT.rep (hp w0) [v1] s_) (f : Code_ → Option Bool) (fv1 : Value) (hfn1 : ∀ (w : World) (y0 : Code_) (z1 : Value) (_ : GT.rep (hp w) [z1] y0.blocks) (r : Bool), Below w0.heap.size w0 w → f y0 = some r → FnOk Tryz.prog fv1 [(.agg #[(nV y0.params), (nV y0.regs), z1])] w (fun v w' => v = (.bool (r)) ∧ Below w.heap.size w w')) :
    ConM Tryz.prog 193 [v1, fv1] w0 (slices_IndexFunc_S_impl_Code_impl_Code s_ f) fun r v w' => v = (nV r) ∧ Below w0.heap.size w0 w' := by
  unfold slices_IndexFunc_S_impl_Code_impl_Code
  refine gcon func193 rfl fun r => ?_
  have hm := Mem.start w0
  refine gS (gR (gA rfl (gE (gS (gS (gR (gM rfl ?_)))))))
  obtain ⟨p0_1, c0_1, rfl, hl0_1⟩ := ro_slice h1
  refine gY (yV st_28 rfl) (gM rfl (gE (gBk (gNf hm (fun i1_1 xs1_1 => [(0, (.slice p0_1 s_.length c0_1)), (1, fv1), (7, (nV ((s_.length : Int)))), (8, (nV i1_1))]) (fun i1_1 xs1_1 => []) [] rfl ?_ ?_))))
  ·
   repeat clear hm
   intro r0_1 hq0_1 i1_1 xs1_1 w hm hi0_1 hi0_2 q0_1 ho0_1
   refine gS (gR (gB rfl (gE (gS (go _ 9 rfl (decide_eq_true (by omega)) (gct rfl (gSk (gS (gBk (gS (gR (gM rfl (gA rfl (gE (gS (gR (gM rfl (gM rfl (gM rfl (gg fun x1_1 h1_1 hx1_2 => ?_))))))))))))))))))))
   obtain ⟨b1_1, o1_1, c1_1, he⟩ := idx_form' h1 hx1_2
   simp only [Value.slice.injEq, Option.some.injEq] at he; obtain ⟨rfl, _, rfl⟩ := he
   obtain ⟨v1_1, hc1_1, h1_2⟩ := rk_Code_ h1 hx1_2
   refine gI st_28 h1_1 (idx_lt hx1_2) rfl (gY (yn (hc1_1.mono hm.lez) isAgg57 sizeOf57 rfl) (gb fun r1_1 hx1_3 => gf rfl (fun a hf => e_callv hf rfl rfl rfl (hfn1 _ x1_1 v1_1 (hm.now h1_2) _ hm.below hx1_3)) ?_))
   rintro v1_2 w ⟨rfl, hB⟩
   replace hm := hm.below' hB; clear hB
   refine gE (gs 16 rfl (fun h1_3 => ?_) fun h1_3 => ?_)
   ·
    exact gct rfl (gS (gR (gM rfl (gA rfl (gE (gRt (gLr ho0_1 hq0_1 (gr1 results193 rfl ⟨rfl, hm.below⟩))))))))
   exact gcf rfl (gSk (gR (gP (by omega) (by omega) rfl (gM rfl (gE (gze hm [] rfl))))))
  repeat clear hm
  intro i0_1 xs0_1 w hm hi0_3 hi0_4
  exact gS (gR (gB rfl (gE (gS (go _ 9 rfl (decide_eq_false (by omega)) (gcf rfl (gXt (gHh (gS (gR (gA rfl (gE (gRt (gr1 results193 rfl ⟨rfl, hm.below⟩))))))))))))))

theorem slices_ContainsFunc_S_impl_Code_impl_Code_ok (w0 : World) (s_ : List Code_) (v1 : Value) (h1 : GT.rep (hp w0) [v1] s_) (f : Code_ → Option Bool) (fv1 : Value) (hfn1 : ∀ (w : World) (y0 : Code_) (z1 : Value) (_ : GT.rep (hp w) [z1] y0.blocks) (r : Bool), Below w0.heap.size w0 w → f y0 = some r → FnOk Tryz.prog fv1 [(.agg #[(nV y0.params), (nV y0.regs), z1])] w (fun v w' => v = (.bool (r)) ∧ Below w.heap.size w w')) :
    ConM Tryz.prog 131 [v1, fv1] w0 (slices_ContainsFunc_S_impl_Code_impl_Code s_ f) fun r v w' => v = (.bool (r)) ∧ Below w0.heap.size w0 w' := by
  unfold slices_ContainsFunc_S_impl_Code_impl_Code
  refine gcon func131 rfl fun r => ?_
  have hm := Mem.start w0
  exact gS (gR (gA rfl (gE (gS (gR (gM rfl (gM rfl (gC hm rfl call193 (slices_IndexFunc_S_impl_Code_impl_Code_ok _ s_ v1 (hm.now h1) f fv1 (fun w y0 z0_0 z0_1 r hB hq => hfn1 w y0 z0_0 z0_1 r (hm.below.trans (hB.mono hm.below.size)) hq)) fun r0_1 hx0_1 w hm => gB rfl (gA rfl (gE (gRt (gr1 results131 rfl ⟨rfl, hm.below⟩))))))))))))

theorem impl_graphOk_1_1_ok (w0 : World) (n_ : Int) (c0_ : Code_) (v1 : Value) (h1 : GT.rep (hp w0) [v1] c0_.blocks) (bf0 : Nat) (hbf0 : w0.heap[bf0]? = some (.cells ([(nV c0_.params), (nV c0_.regs), v1] : List Value).toArray 57 (0, 0))) :
    ConM Tryz.prog 297 [(nV n_), (pV bf0)] w0 (impl_graphOk_1_1 n_ c0_) fun r v w' => v = (.bool (r)) ∧ Below w0.heap.size w0 w' := by
  unfold impl_graphOk_1_1
  refine gcon func297 rfl fun r => ?_
  have hm := Mem.start w0
  refine gS (gR (gA rfl (gE (gS (gR (gM rfl (gF fo_57_2 rfl (gY (yl isAgg55 (hm.old_cell hbf0 rfl) rfl) ?_))))))))
  obtain ⟨p0_1, c0_1, rfl, hl0_1⟩ := ro_slice h1
  exact gY (yV st_55 rfl) (gY (yS (by omega) (by omega) rfl) (gC hm rfl call63 (impl_within_ok _ n_ 0 (((c0_.blocks.length : Int)) - 1)) fun r0_1 hx0_1 w hm => gN rfl (gA rfl (gE (gRt (gr1 results297 rfl ⟨rfl, hm.below⟩))))))

theorem impl_graphOk_1_ok (w0 : World) (b_ : Block_) (v1 : Value) (h1 : GT.rep (hp w0) [v1] b_.phis) (v2 : Value) (h2 : GT.rep (hp w0) [v2] b_.ins) (v3 : Value) (h3 : GT.rep (hp w0) [v3] b_.next_) (c0_ : Code_) (v4 : Value) (h4 : GT.rep (hp w0) [v4] c0_.blocks) (bf0 : Nat) (hbf0 : w0.heap[bf0]? = some (.cells ([(nV c0_.params), (nV c0_.regs), v4] : List Value).toArray 57 (0, 0))) :
    ConM Tryz.prog 296 [(.agg #[v1, v2, (nV b_.jump), (nV b_.on), v3]), (pV bf0)] w0 (impl_graphOk_1 b_ c0_) fun r v w' => v = (.bool (r)) ∧ Below w0.heap.size w0 w' := by
  unfold impl_graphOk_1
  refine gcon func296 rfl fun r => ?_
  have hm := Mem.start w0
  exact gS (gR (gBx hm rfl fun b0_1 w hm => gA rfl (gE (gS (gR (gF fo_104_4 rfl (gL hm 0 isAgg37 rfl (gY (yU rfl) (gC hm rfl call57 (slices_ContainsFunc_S_int_int_ok _ b_.next_ v3 (hm.now h3) (fun y0 => impl_graphOk_1_1 y0 c0_) (.func (.func 297) #[] #[(pV bf0)]) (fun w y0 r hB hq => ⟨297, [(pV bf0)], rfl, call297, impl_graphOk_1_1_ok w y0 c0_ v4 (rep_later (hm.now h4) hB) bf0 (hm.old_later hbf0 hB) r hq⟩)) fun r0_1 hx0_1 w hm => gA rfl (gE (gRt (gr1 results296 rfl ⟨rfl, hm.below⟩))))))))))))

theorem slices_IndexFunc_S_impl_Block_impl_Block_ok (w0 : World) (s_ : List Block_) (v1 : Value) (h1 : GT.rep (hp w0) [v1] s_) (f : Block_ → Option Bool) (fv1 : Value) (hfn1 : ∀ (w : World) (y0 : Block_) (z1 : Value) (_ : GT.rep (hp w) [z1] y0.phis) (z2 : Value) (_ : GT.rep (hp w) [z2] y0.ins) (z3 : Value) (_ : GT.rep (hp w) [z3] y0.next_) (r : Bool), Below w0.heap.size w0 w → f y0 = some r → FnOk Tryz.prog fv1 [(.agg #[z1, z2, (nV y0.jump), (nV y0.on), z3])] w (fun v w' => v = (.bool (r)) ∧ Below w.heap.size w w')) :
    ConM Tryz.prog 313 [v1, fv1] w0 (slices_IndexFunc_S_impl_Block_impl_Block s_ f) fun r v w' => v = (nV r) ∧ Below w0.heap.size w0 w' := by
  unfold slices_IndexFunc_S_impl_Block_impl_Block
  refine gcon func313 rfl fun r => ?_
  have hm := Mem.start w0
  refine gS (gR (gA rfl (gE (gS (gS (gR (gM rfl ?_)))))))
  obtain ⟨p0_1, c0_1, rfl, hl0_1⟩ := ro_slice h1
  refine gY (yV st_55 rfl) (gM rfl (gE (gBk (gNf hm (fun i1_1 xs1_1 => [(0, (.slice p0_1 s_.length c0_1)), (1, fv1), (7, (nV ((s_.length : Int)))), (8, (nV i1_1))]) (fun i1_1 xs1_1 => []) [] rfl ?_ ?_))))
  ·
   repeat clear hm
   intro r0_1 hq0_1 i1_1 xs1_1 w hm hi0_1 hi0_2 q0_1 ho0_1
   refine gS (gR (gB rfl (gE (gS (go _ 9 rfl (decide_eq_true (by omega)) (gct rfl (gSk (gS (gBk (gS (gR (gM rfl (gA rfl (gE (gS (gR (gM rfl (gM rfl (gM rfl (gg fun x1_1 h1_1 hx1_2 => ?_))))))))))))))))))))
   obtain ⟨b1_1, o1_1, c1_1, he⟩ := idx_form' h1 hx1_2
   simp only [Value.slice.injEq, Option.some.injEq] at he; obtain ⟨rfl, _, rfl⟩ := he
   obtain ⟨v1_1, v1_2, v1_3, hc1_1, h1_2, h1_3, h1_4⟩ := rk_Block_ h1 hx1_2
   refine gI st_55 h1_1 (idx_lt hx1_2) rfl (gY (yn (hc1_1.mono hm.lez) isAgg104 sizeOf104 rfl) (gb fun r1_1 hx1_3 => gf rfl (fun a hf => e_callv hf rfl rfl rfl (hfn1 _ x1_1 v1_1 (hm.now h1_2) v1_2 (hm.now h1_3) v1_3 (hm.now h1_4) _ hm.below hx1_3)) ?_))
   rintro v1_4 w ⟨rfl, hB⟩
   replace hm := hm.below' hB; clear hB
   refine gE (gs 16 rfl (fun h1_5 => ?_) fun h1_5 => ?_)
   ·
    exact gct rfl (gS (gR (gM rfl (gA rfl (gE (gRt (gLr ho0_1 hq0_1 (gr1 results313 rfl ⟨rfl, hm.below⟩))))))))
   exact gcf rfl (gSk (gR (gP (by omega) (by omega) rfl (gM rfl (gE (gze hm [] rfl))))))
  repeat clear hm
  intro i0_1 xs0_1 w hm hi0_3 hi0_4
  exact gS (gR (gB rfl (gE (gS (go _ 9 rfl (decide_eq_false (by omega)) (gcf rfl (gXt (gHh (gS (gR (gA rfl (gE (gRt (gr1 results313 rfl ⟨rfl, hm.below⟩))))))))))))))

theorem slices_ContainsFunc_S_impl_Block_impl_Block_ok (w0 : World) (s_ : List Block_) (v1 : Value) (h1 : GT.rep (hp w0) [v1] s_) (f : Block_ → Option Bool) (fv1 : Value) (hfn1 : ∀ (w : World) (y0 : Block_) (z1 : Value) (_ : GT.rep (hp w) [z1] y0.phis) (z2 : Value) (_ : GT.rep (hp w) [z2] y0.ins) (z3 : Value) (_ : GT.rep (hp w) [z3] y0.next_) (r : Bool), Below w0.heap.size w0 w → f y0 = some r → FnOk Tryz.prog fv1 [(.agg #[z1, z2, (nV y0.jump), (nV y0.on), z3])] w (fun v w' => v = (.bool (r)) ∧ Below w.heap.size w w')) :
    ConM Tryz.prog 295 [v1, fv1] w0 (slices_ContainsFunc_S_impl_Block_impl_Block s_ f) fun r v w' => v = (.bool (r)) ∧ Below w0.heap.size w0 w' := by
  unfold slices_ContainsFunc_S_impl_Block_impl_Block
  refine gcon func295 rfl fun r => ?_
  have hm := Mem.start w0
  exact gS (gR (gA rfl (gE (gS (gR (gM rfl (gM rfl (gC hm rfl call313 (slices_IndexFunc_S_impl_Block_impl_Block_ok _ s_ v1 (hm.now h1) f fv1 (fun w y0 z0_0 z0_1 z0_2 z0_3 z0_4 z0_5 r hB hq => hfn1 w y0 z0_0 z0_1 z0_2 z0_3 z0_4 z0_5 r (hm.below.trans (hB.mono hm.below.size)) hq)) fun r0_1 hx0_1 w hm => gB rfl (gA rfl (gE (gRt (gr1 results295 rfl ⟨rfl, hm.below⟩))))))))))))

theorem impl_graphOk_ok (w0 : World) (c_ : Code_) (v1 : Value) (h1 : GT.rep (hp w0) [v1] c_.blocks) :
    ConM Tryz.prog 254 [(.agg #[(nV c_.params), (nV c_.regs), v1])] w0 (impl_graphOk c_) fun r v w' => v = (.bool (r)) ∧ Below w0.heap.size w0 w' := by
  unfold impl_graphOk
  refine gcon func254 rfl fun r => ?_
  have hm := Mem.start w0
  refine gS (gR (gBx hm rfl fun b0_1 w hm => gA rfl (gE (gS (gJ hm (fun s0_1 => [(2, (.bool (s0_1)))]) (fun s0_1 => []) (fun s0_1 => ?_) ?_)))))
  ·
   refine gR (gF fo_57_2 rfl (gL hm 0 isAgg55 rfl ?_))
   obtain ⟨p1_1, c1_1, rfl, hl1_1⟩ := ro_slice h1
   refine gY (yV st_55 rfl) (gB rfl (gM rfl (gsd 7 rfl (fun h1_1 => ?_) fun h1_1 => ?_)))
   ·
    exact gF fo_57_2 rfl (gL hm 0 isAgg55 rfl (gY (yU rfl) (gC hm rfl call295 (slices_ContainsFunc_S_impl_Block_impl_Block_ok _ c_.blocks (.slice p1_1 c_.blocks.length c1_1) (hm.now h1) (fun y0 => impl_graphOk_1 y0 c_) (.func (.func 296) #[] #[(pV b0_1)]) (fun w y0 z0_0 z0_1 z0_2 z0_3 z0_4 z0_5 r hB hq => ⟨296, [(pV b0_1)], rfl, call296, impl_graphOk_1_ok w y0 z0_0 z0_1 z0_2 z0_3 z0_4 z0_5 c_ (.slice p1_1 c_.blocks.length c1_1) (rep_later (hm.now h1) hB) b0_1 (hm.blk_later 0 rfl hB) r hq⟩)) fun r1_1 hx1_1 w hm => gN rfl (gKt rfl (gA rfl (gE (gz hm [] rfl)))))))
   exact gO rfl (gO rfl (gO rfl (gO rfl (gO rfl (gKf rfl (gA rfl (gE (gz hm [] rfl))))))))
  repeat clear hm
  intro s0_1 w hm
  exact gRt (gr1 results254 rfl ⟨rfl, hm.below⟩)

theorem impl_reachedWithout_ok (w0 : World) (c_ : Code_) (v1 : Value) (h1 : GT.rep (hp w0) [v1] c_.blocks) (not : Int) :
    ConM Tryz.prog 259 [(.agg #[(nV c_.params), (nV c_.regs), v1]), (nV not)] w0 (impl_reachedWithout c_ not) fun r v w' => ∃ (x1 : Value), v = x1 ∧ Mem w0 (hp w0) w' [ow [x1] r] := by
  unfold impl_reachedWithout
  refine gcon func259 rfl fun r => ?_
  have hm := Mem.start w0
  refine gS (gR (gBx hm rfl fun b0_1 w hm => gA rfl (gE (gS (gR (gF fo_57_2 rfl (gL hm 0 isAgg55 rfl ?_)))))))
  obtain ⟨p0_1, c0_1, rfl, hl0_1⟩ := ro_slice h1
  refine gY (yV st_55 rfl) (gb fun ys0_1 hx0_1 => ?_)
  obtain ⟨⟨h0_11, h0_12⟩, h0_1e⟩ := makeM_some.1 hx0_1
  refine gf rfl (fun a hf => e_make (x0 := (false : Bool)) et_58 (fun _ => (Flat.own_iff.2 rfl)) hf hm rfl rfl rfl h0_11 (Int.le_refl _) h0_12) ?_
  rintro v0_1 w hm
  rw [h0_1e] at hm
  have h0_1l : (ys0_1.length : Int) = (c_.blocks.length : Int) := by rw [← h0_1e]; simp only [List.length_replicate]; omega
  refine gA rfl (gE (gS (gR (gf rfl (fun a hf => e_build (vs := #[(0, (nV 0))]) (cs := [(nV 0)]) et_37 hf hm rfl rfl (by kernel_rfl) rfl rfl) ?_))))
  rintro _ w ⟨b0_2, rfl, hm⟩
  replace hm := hm.lit (xs := ([0] : List Int)) 0 rfl rfl rfl rfl
  refine gA rfl (gE (gS ?_))
  obtain ⟨p0_2, c0_2, rfl, hl0_2⟩ := ro_slice (hm.ow_rep 1 rfl)
  refine gJ hm (fun s0_1 => [(5, (.slice p0_2 ys0_1.length c0_2))]) (fun s0_1 => [ow [(.slice p0_2 ys0_1.length c0_2)] s0_1]) (fun s0_1 => ?_) ?_
  ·
   refine gBk (gMg (fun xs2_1 a w => ∃ (v2_1 : Value), St 48 [(1, (nV not)), (2, (pV b0_1)), (5, (.slice p0_2 ys0_1.length c0_2)), (6, v2_1)] w0 (hp w0) [blk b0_1 [(nV c_.params), (nV c_.regs), (.slice p0_1 c_.blocks.length c0_1)] 57, ow [(.slice p0_2 ys0_1.length c0_2)] xs2_1.1, ow [v2_1] xs2_1.2] a w) (fun a hf => ⟨(sV b0_2 0 1 1), hf.sb rfl, hm.pk [2, 1, 0] rfl rfl⟩) ?_)
   repeat clear hm
   rintro r1_1 hq1_1 xs2_1 a w ⟨v2_1, hf, hm⟩ q1_1 ho1_1
   refine gv hf (gS (gS (gR (gM rfl ?_))))
   obtain ⟨p2_1, c2_1, rfl, hl2_1⟩ := ro_slice (hm.ow_rep 2 rfl)
   refine gY (yV st_37 rfl) (gB rfl (gE (gsd 15 rfl (fun h2_1 => ?_) fun h2_1 => ?_)))
   ·
    refine gct rfl (gSk (gJg (fun s2_1 a w => ∃ (v2_2 : Value), St 48 [(1, (nV not)), (2, (pV b0_1)), (5, (.slice p0_2 ys0_1.length c0_2)), (6, v2_2)] w0 (hp w0) [blk b0_1 [(nV c_.params), (nV c_.regs), (.slice p0_1 c_.blocks.length c0_1)] 57, ow [(.slice p0_2 ys0_1.length c0_2)] s2_1.1, ow [v2_2] s2_1.2] a w) (fun s2_1 => ?_) ?_))
    ·
     refine gBk (gS (gR (gM rfl (gM rfl (gY (yV st_37 rfl) (gY (yS (by omega) (by omega) rfl) (gg fun x3_1 h3_1 hx3_2 => ?_)))))))
     obtain ⟨b3_1, o3_1, c3_1, he⟩ := idx_form (hm.ow_rep 2 rfl) hx3_2
     simp only [Value.slice.injEq, Option.some.injEq] at he; obtain ⟨rfl, _, rfl⟩ := he
     refine gI st_37 h3_1 (idx_lt hx3_2) rfl (gY (yl isAgg3 ((flat_cells (cs := [(nV x3_1)]) (hm.ow_rep 2 rfl) hx3_2 rfl).cell (j := 0) rfl) rfl) (gA rfl (gE (gS (gR (gM rfl (gM rfl (gY (yV st_37 rfl) (gY (yS (by omega) (by omega) rfl) (gb fun x3_2 hx3_3 => ?_))))))))))
     obtain ⟨h3_2, h3_2e⟩ := subM_some.1 hx3_3
     have hr3_1 := (hm.ow_rep 2 rfl)
     obtain ⟨v3_1, hy3_1⟩ : ∃ nv, nv = subV (GT.sz (Int)) (sV b3_1 o3_1 xs2_1.2.length c2_1) (0 : Int).toNat (((xs2_1.2.length : Int)) - 1 : Int).toNat := ⟨_, rfl⟩
     refine gY (yG rfl (yl_eq hy3_1 (y_slcH (α := Int) st_37 hr3_1 rfl rfl rfl h3_2 _))) (gA rfl (gE (gS (gS (gJg (fun s3_1 a w => ∃ (v3_2 : Value), St 48 [(1, (nV not)), (2, (pV b0_1)), (5, (.slice p0_2 ys0_1.length c0_2)), (6, v3_2), (7, (nV x3_1)), (35, (.bool (s3_1)))] w0 (hp w0) [blk b0_1 [(nV c_.params), (nV c_.regs), (.slice p0_1 c_.blocks.length c0_1)] 57, ow [(.slice p0_2 ys0_1.length c0_2)] xs2_1.1, ow [v3_2] x3_2] a w) (fun s3_1 => ?_) ?_)))))
     ·
      refine gR (gM rfl (gM rfl (gB rfl (gM rfl (gsd 30 rfl (fun h4_1 => ?_) fun h4_1 => ?_)))))
      ·
       refine gO rfl (gO rfl (gO rfl (gO rfl (gKt rfl (gE ?_)))))
       replace hm := hm.imp (c' := ow [v3_1] x3_2) 2 rfl (fun F h0 => by rw [hy3_1, ← h3_2e]; exact own_subV h0 (by omega) (by omega))
       exact gZ fun a hf => ⟨v3_1, hf.sb rfl, hm.pk [0, 1, 2] rfl rfl⟩
      refine gM rfl (gM rfl (gg fun x4_1 h4_2 hx4_2 => ?_))
      obtain ⟨b4_1, o4_1, c4_1, he⟩ := idx_form (hm.ow_rep 1 rfl) hx4_2
      simp only [Value.slice.injEq, Option.some.injEq] at he; obtain ⟨rfl, _, rfl⟩ := he
      have hL4_1 := rep_slice_len (hm.ow_rep 1 rfl)
      refine gI st_58 h4_2 (idx_lt2 hx4_2 hL4_1) rfl (gY (yl isAgg4 ((flat_cells (cs := [(.bool (x4_1))]) (hm.ow_rep 1 rfl) hx4_2 rfl).cell (j := 0) rfl) rfl) (gKf rfl (gE ?_)))
      replace hm := hm.imp (c' := ow [v3_1] x3_2) 2 rfl (fun F h0 => by rw [hy3_1, ← h3_2e]; exact own_subV h0 (by omega) (by omega))
      exact gZ fun a hf => ⟨v3_1, hf.sb rfl, hm.pk [0, 1, 2] rfl rfl⟩
     repeat clear hm
     rintro s3_1 a w ⟨v3_2, hf, hm⟩
     refine gv hf (gs 35 rfl (fun h3_4 => ?_) fun h3_4 => ?_)
     ·
      exact gct rfl (gXt (gHh (gZ fun a hf => ⟨v3_2, hf.sb rfl, hm.pk [0, 1, 2] rfl rfl⟩)))
     refine gcf rfl (gSk (gS (gR (gM rfl (gM rfl (gg fun x3_3 h3_5 hx3_5 => ?_))))))
     obtain ⟨b3_2, o3_2, c3_2, he⟩ := idx_form (hm.ow_rep 1 rfl) hx3_5
     simp only [Value.slice.injEq, Option.some.injEq] at he; obtain ⟨rfl, _, rfl⟩ := he
     have hL3_1 := rep_slice_len (hm.ow_rep 1 rfl)
     refine gI st_58 h3_5 (idx_lt2 hx3_5 hL3_1) rfl (gf0 rfl (fun a hf => e_setElem (x1 := true) (j := 0) (vs := [(.bool (true))]) 1 hf hm rfl hx3_5 rfl sizeOf4 rfl rfl rfl (one_cons rfl one_nil) rfl rfl) ?_)
     rintro _ w hm
     have hx3_6 := List.getElem?_set_self (a := true) (idx_lt hx3_5)
     refine gE (gR (gM rfl (gF fo_57_2 rfl (gL hm 0 isAgg55 rfl (gM rfl (gg fun x3_4 h3_6 hx3_8 => ?_))))))
     obtain ⟨b3_3, o3_3, c3_3, he⟩ := idx_form' h1 hx3_8
     simp only [Value.slice.injEq, Option.some.injEq] at he; obtain ⟨rfl, _, rfl⟩ := he
     obtain ⟨v3_3, v3_4, v3_5, hc3_1, h3_7, h3_8, h3_9⟩ := rk_Block_ h1 hx3_8
     refine gI st_55 h3_6 (idx_lt hx3_8) rfl (gF fo_104_4 rfl (gY (yl isAgg37 ((hc3_1.mono hm.lez).cell (j := 4) rfl) rfl) (gb fun ys3_1 hx3_9 => ?_)))
     obtain ⟨h3_10, h3_10e⟩ := appM_some.1 hx3_9
     refine gf rfl (fun a hf => e_append 2 et_37 hf hm rfl (hm.now h3_9) rfl rfl rfl h3_10) ?_
     rintro v3_6 w hm
     rw [h3_10e] at hm
     exact gA rfl (gE (gZ fun a hf => ⟨v3_6, hf.sb rfl, hm.pk [0, 1, 2] rfl rfl⟩))
    repeat clear hm
    rintro s2_1 a w ⟨v2_2, hf, hm⟩
    exact gv hf (gZe fun a hf => ⟨v2_2, hf.sb rfl, hm.pk [0, 1, 2] rfl rfl⟩)
   exact gcf rfl (gXt (gHh (gLp ho1_1 hq1_1 (gz hm [1] rfl))))
  repeat clear hm
  intro s0_1 w hm
  exact gS (gR (gM rfl (gA rfl (gE (gRt (gr1 results259 rfl ⟨(.slice p0_2 ys0_1.length c0_2), rfl, hm.pk [0] rfl rfl⟩))))))

theorem impl_domsOf_ok (w0 : World) (hz : Heap) (hle0 : Heap.le hz (hp w0)) (c_ : Code_) (v1 : Value) (h1 : GT.rep hz [v1] c_.blocks) :
    ConM Tryz.prog 194 [(.agg #[(nV c_.params), (nV c_.regs), v1])] w0 (impl_domsOf c_) fun r v w' => (r = none ∧ v = .pointer none ∧ Below w0.heap.size w0 w') ∨ ∃ q, r = some q ∧ (∃ (b1 : Nat) (x2 : Value) (x3 : Value) (x4 : Value) (hz2 : Heap), v = (pV b1) ∧ Heap.le hz hz2 ∧ GT.rep hz2 [x2] q.c.blocks ∧ Mem w0 hz2 w' [junk w0 hz, blk b1 [(nV q.c.params), (nV q.c.regs), x2, x3, x4] 185, ow [x3] q.over, ow [x4] q.in_]) := by
  unfold impl_domsOf
  refine gcon func194 rfl fun r => ?_
  have hm := Mem.startA hle0
  refine gS (gR (gBx hm rfl fun b0_1 w hm => gA rfl (gE (gS (gS (gR (gY (yn (hm.blk_at 0 rfl) isAgg57 sizeOf57 rfl) (gC hm rfl call254 (impl_graphOk_ok _ c_ v1 (hm.now h1)) fun r0_1 hx0_1 w hm => gN rfl (gE (gsn 10 rfl (fun h0_1 => ?_) fun h0_1 => ?_))))))))))
  ·
   exact gct rfl (gS (gR (gA rfl (gE (gRt (gr1 results194 rfl (.inl ⟨rfl, rfl, Mem.belowA (M := []) hle0 (Heap.le_refl _) (hm.pk [1] rfl rfl)⟩)))))))
  refine gcf rfl (gSk (gS (gW (.q 0 (.e 1 (.e 2 (.p 3 (.e 4 (.p 5 .fin) .nil)) .nil) .nil)) [1, 2] [3, 5] hm [0, 1] [blk b0_1 [(nV c_.params), (nV c_.regs), v1] 57, junk w0 hz] rfl mxo (by kernel_rfl) (fun _ _ _ h => h.2) fun w hm hS => tQ rfl hS (fun w hm => yn (hm.blk_at 0 rfl) isAgg57 sizeOf57 rfl) (tO (tY rfl (yn (hm.blk_at 0 rfl) isAgg57 sizeOf57 rfl) (tAs hS (tO (gb fun r0_2 hx0_2 => tf rfl rfl (fun a hf => e_call hf rfl call259 rfl (impl_reachedWithout_ok _ c_ v1 (hm.now h1) (-1) _ hx0_2)) ?_))))))))
  rintro v0_2 w ⟨_, rfl, hB⟩
  replace hm := hm.give hB; clear hB
  refine tAk hm [1, 2] rfl fun hS => ?_
  obtain ⟨p0_1, c0_1, rfl, hl0_1⟩ := ro_slice h1
  obtain ⟨p0_2, c0_2, rfl, hl0_2⟩ := ro_slice (hm.ow_rep 0 rfl)
  refine tP rfl (fun w => yG rfl (y_build (vs := [(0, (.agg #[(nV c_.params), (nV c_.regs), (.slice p0_1 c_.blocks.length c0_1)])), (2, (.slice p0_2 r0_2.length c0_2))]) (cs := #[(nV c_.params), (nV c_.regs), (.slice p0_1 c_.blocks.length c0_1), (.slice none 0 0), (.slice p0_2 r0_2.length c0_2)]) rfl rfl (by kernel_rfl))) (tO (tf rfl rfl (fun a hf => e_box hf hm rfl rfl rfl) ?_))
  rintro _ w ⟨b0_2, rfl, hm⟩
  refine tAn rfl (tP rfl (fun w => yA rfl) (tE (gS (gS (gR (gF fo_57_2 rfl (gL hm 2 isAgg55 rfl (gY (yV st_55 rfl) (gM rfl (gE (gBk ?_)))))))))))
  replace hm := hm.nilow (α := List Bool)
  refine gNg (fun i1_1 xs1_1 a w => ∃ (v1_1 : Value), St 71 [(1, (pV b0_1)), (3, (pV b0_2)), (18, (nV ((c_.blocks.length : Int)))), (19, (nV i1_1))] w0 hz [blk b0_1 [(nV c_.params), (nV c_.regs), (.slice p0_1 c_.blocks.length c0_1)] 57, blk b0_2 [(nV c_.params), (nV c_.regs), (.slice p0_1 c_.blocks.length c0_1), v1_1, (.slice p0_2 r0_2.length c0_2)] 185, ow [v1_1] xs1_1, ow [(.slice p0_2 r0_2.length c0_2)] r0_2, junk w0 hz] a w) (fun a hf => ⟨(.slice none 0 0), hf.sb rfl, hm.pk [3, 1, 0, 2, 4] rfl rfl⟩) ?_ ?_
  ·
   repeat clear hm
   rintro _ _ i1_1 xs1_1 a w ⟨v1_1, hf, hm⟩ hi0_1 hi0_2 q0_1 _
   refine gv hf (gS (gR (gB rfl (gE (gS (go _ 20 rfl (decide_eq_true (by omega)) (gct rfl (gSk (gS (gBk (gS (gR (gM rfl (gA rfl (gE (gS (gR (gF fo_57_2 rfl (gL hm 0 isAgg55 rfl (gY (yV st_55 rfl) (gb fun ys1_1 hx1_1 => ?_)))))))))))))))))))))
   obtain ⟨⟨h1_11, h1_12⟩, h1_1e⟩ := makeM_some.1 hx1_1
   refine gf rfl (fun a hf => e_make (x0 := (false : Bool)) et_58 (fun _ => (Flat.own_iff.2 rfl)) hf hm rfl rfl rfl h1_11 (Int.le_refl _) h1_12) ?_
   rintro v1_2 w hm
   rw [h1_1e] at hm
   have h1_1l : (ys1_1.length : Int) = (c_.blocks.length : Int) := by rw [← h1_1e]; simp only [List.length_replicate]; omega
   refine gA rfl (gE (gS (gS (gR (gM rfl (gY (yG rfl (y_nilptr rfl rfl)) (gF fo_185_2 rfl (gL hm 2 isAgg58 rfl (gM rfl (gg fun x1_1 h1_2 hx1_3 => ?_))))))))))
   obtain ⟨b1_1, o1_1, c1_1, he⟩ := idx_form (hm.ow_rep 4 rfl) hx1_3
   simp only [Value.slice.injEq, Option.some.injEq] at he; obtain ⟨rfl, _, rfl⟩ := he
   refine gI st_58 h1_2 (idx_lt hx1_3) rfl (gY (yl isAgg4 ((flat_cells (cs := [(.bool (x1_1))]) (hm.ow_rep 4 rfl) hx1_3 rfl).cell (j := 0) rfl) rfl) (gE (gJ hm (fun s1_1 => [(1, (pV b0_1)), (3, (pV b0_2)), (5, v1_2), (18, (nV ((c_.blocks.length : Int)))), (19, (nV i1_1))]) (fun s1_1 => [blk b0_1 [(nV c_.params), (nV c_.regs), (.slice p0_1 c_.blocks.length c0_1)] 57, blk b0_2 [(nV c_.params), (nV c_.regs), (.slice p0_1 c_.blocks.length c0_1), v1_1, (sV b1_1 o1_1 r0_2.length c0_2)] 185, ow [v1_1] xs1_1, ow [(sV b1_1 o1_1 r0_2.length c0_2)] r0_2, ow [v1_2] s1_1, junk w0 hz]) (fun s1_1 => ?_) ?_)))
   ·
    refine gs 32 rfl (fun h2_1 => ?_) fun h2_1 => ?_
    ·
     refine gct rfl (gS (gR (gY (yn (hm.blk_at 1 rfl) isAgg57 sizeOf57 rfl) (gM rfl (gCg rfl call259 (impl_reachedWithout_ok _ c_ (.slice p0_1 c_.blocks.length c0_1) (hm.now h1) i1_1) ?_)))))
     rintro r2_1 hx2_1 v2_1 w ⟨_, rfl, hB⟩
     replace hm := hm.give hB; clear hB
     refine gA rfl (gE (gS (gR (gM rfl ?_))))
     obtain ⟨p2_1, c2_1, rfl, hl2_1⟩ := ro_slice (hm.ow_rep 1 rfl)
     refine gY (yV st_58 rfl) (gM rfl (gE ?_))
     obtain ⟨p2_2, c2_2, rfl, hl2_2⟩ := ro_slice (hm.ow_rep 4 rfl)
     obtain ⟨p2_3, c2_3, rfl, hl2_3⟩ := ro_slice (hm.ow_rep 0 rfl)
     refine gBk (gNf hm (fun i3_1 xs3_1 => [(1, (pV b0_1)), (3, (pV b0_2)), (5, (.slice p2_1 ys1_1.length c2_1)), (6, (.slice p2_3 r2_1.length c2_3)), (18, (nV ((c_.blocks.length : Int)))), (19, (nV i1_1)), (37, (nV ((ys1_1.length : Int)))), (38, (nV i3_1))]) (fun i3_1 xs3_1 => [blk b0_1 [(nV c_.params), (nV c_.regs), (.slice p0_1 c_.blocks.length c0_1)] 57, blk b0_2 [(nV c_.params), (nV c_.regs), (.slice p0_1 c_.blocks.length c0_1), (.slice p2_2 xs1_1.length c2_2), (sV b1_1 o1_1 r0_2.length c0_2)] 185, ow [(.slice p2_2 xs1_1.length c2_2)] xs1_1, ow [(sV b1_1 o1_1 r0_2.length c0_2)] r0_2, ow [(.slice p2_1 ys1_1.length c2_1)] xs3_1, ow [(.slice p2_3 r2_1.length c2_3)] r2_1, junk w0 hz]) [2, 3, 4, 5, 1, 0, 6] rfl ?_ ?_)
     ·
      repeat clear hm
      intro _ _ i3_1 xs3_1 w hm hi2_1 hi2_2 q2_1 _
      refine gS (gR (gB rfl (gE (gS (go _ 39 rfl (decide_eq_true (by omega)) (gct rfl (gSk (gS (gBk (gS (gR (gM rfl (gA rfl (gE (gJ hm (fun s3_1 => [(1, (pV b0_1)), (3, (pV b0_2)), (5, (.slice p2_1 ys1_1.length c2_1)), (6, (.slice p2_3 r2_1.length c2_3)), (18, (nV ((c_.blocks.length : Int)))), (19, (nV i1_1)), (37, (nV ((ys1_1.length : Int)))), (38, (nV i3_1))]) (fun s3_1 => [blk b0_1 [(nV c_.params), (nV c_.regs), (.slice p0_1 c_.blocks.length c0_1)] 57, blk b0_2 [(nV c_.params), (nV c_.regs), (.slice p0_1 c_.blocks.length c0_1), (.slice p2_2 xs1_1.length c2_2), (sV b1_1 o1_1 r0_2.length c0_2)] 185, ow [(.slice p2_2 xs1_1.length c2_2)] xs1_1, ow [(sV b1_1 o1_1 r0_2.length c0_2)] r0_2, ow [(.slice p2_1 ys1_1.length c2_1)] s3_1, ow [(.slice p2_3 r2_1.length c2_3)] r2_1, junk w0 hz]) (fun s3_1 => ?_) ?_)))))))))))))))
      ·
       refine gR (gM rfl (gM rfl (gM rfl (gY (yG rfl (y_nilptr rfl rfl)) (gF fo_185_2 rfl (gL hm 1 isAgg58 rfl (gM rfl (gg fun x4_1 h4_1 hx4_2 => gI st_58 h4_1 (idx_lt hx4_2) rfl (gY (yl isAgg4 ((flat_cells (cs := [(.bool (x4_1))]) (hm.ow_rep 3 rfl) hx4_2 rfl).cell (j := 0) rfl) rfl) (gM rfl (gs 50 rfl (fun h4_2 => ?_) fun h4_2 => ?_)))))))))))
       ·
        refine gM rfl (gM rfl (gg fun x4_2 h4_3 hx4_4 => ?_))
        obtain ⟨b4_1, o4_1, c4_1, he⟩ := idx_form (hm.ow_rep 5 rfl) hx4_4
        simp only [Value.slice.injEq, Option.some.injEq] at he; obtain ⟨rfl, _, rfl⟩ := he
        refine gI st_58 h4_3 (idx_lt hx4_4) rfl (gY (yl isAgg4 ((flat_cells (cs := [(.bool (x4_2))]) (hm.ow_rep 5 rfl) hx4_4 rfl).cell (j := 0) rfl) rfl) (gN rfl (gKt rfl (gg fun x4_3 h4_4 hx4_6 => ?_))))
        obtain ⟨b4_2, o4_2, c4_2, he⟩ := idx_form (hm.ow_rep 4 rfl) hx4_6
        simp only [Value.slice.injEq, Option.some.injEq] at he; obtain ⟨rfl, _, rfl⟩ := he
        have hL4_1 := rep_slice_len (hm.ow_rep 4 rfl)
        refine gI st_58 h4_4 (idx_lt2 hx4_6 hL4_1) rfl (gf0 rfl (fun a hf => e_setElem (x1 := !(x4_2)) (j := 0) (vs := [(.bool (!(x4_2)))]) 4 hf hm rfl hx4_6 rfl sizeOf4 rfl rfl rfl (one_cons rfl one_nil) rfl rfl) ?_)
        rintro _ w hm
        have hx4_7 := List.getElem?_set_self (a := !(x4_2)) (idx_lt hx4_6)
        exact gE (gz hm [0, 1, 2, 3, 4, 5, 6] rfl)
       refine gO rfl (gO rfl (gO rfl (gO rfl (gO rfl (gKf rfl (gg fun x4_4 h4_5 hx4_9 => ?_))))))
       obtain ⟨b4_3, o4_3, c4_3, he⟩ := idx_form (hm.ow_rep 4 rfl) hx4_9
       simp only [Value.slice.injEq, Option.some.injEq] at he; obtain ⟨rfl, _, rfl⟩ := he
       have hL4_2 := rep_slice_len (hm.ow_rep 4 rfl)
       refine gI st_58 h4_5 (idx_lt2 hx4_9 hL4_2) rfl (gf0 rfl (fun a hf => e_setElem (x1 := false) (j := 0) (vs := [(.bool (false))]) 4 hf hm rfl hx4_9 rfl sizeOf4 rfl rfl rfl (one_cons rfl one_nil) rfl rfl) ?_)
       rintro _ w hm
       have hx4_10 := List.getElem?_set_self (a := false) (idx_lt hx4_9)
       exact gE (gz hm [0, 1, 2, 3, 4, 5, 6] rfl)
      repeat clear hm
      intro s3_1 w hm
      exact gR (gP (by omega) (by omega) rfl (gM rfl (gE (gze hm [0, 1, 2, 3, 4, 5, 6] rfl))))
     repeat clear hm
     intro i2_1 xs2_1 w hm hi2_3 hi2_4
     exact gS (gR (gB rfl (gE (gS (go _ 39 rfl (decide_eq_false (by omega)) (gcf rfl (gXt (gHh (gz hm [0, 1, 2, 3, 4, 6] rfl)))))))))
    exact gcf rfl (gSk (gz hm [1, 2, 3, 4, 0, 5] rfl))
   repeat clear hm
   intro s1_1 w hm
   refine gR (gM rfl (gM rfl (gY (yG rfl (y_nilptr rfl rfl)) (gF fo_185_1 rfl (gL hm 1 isAgg53 rfl (gM rfl ?_))))))
   obtain ⟨p1_1, c1_2, rfl, hl1_1⟩ := ro_slice (hm.ow_rep 4 rfl)
   refine gf rfl (fun a hf => e_build (vs := #[(0, (.slice p1_1 s1_1.length c1_2))]) (cs := [(.slice p1_1 s1_1.length c1_2)]) et_53 hf hm rfl rfl (by kernel_rfl) rfl rfl) ?_
   rintro _ w ⟨b1_2, rfl, hm⟩
   replace hm := hm.els_nil (α := List Bool)
   replace hm := hm.imp (c' := ow [(.slice p1_1 s1_1.length c1_2)] (s1_1 : List Bool)) 6 rfl (fun F h0 => h0)
   replace hm := (hm.els_cons 0 6 (by decide) rfl rfl).pk (L' := [els [(.slice p1_1 s1_1.length c1_2)] ([s1_1] : List (List Bool)), blk b1_2 [(.slice p1_1 s1_1.length c1_2)] 58, blk b0_1 [(nV c_.params), (nV c_.regs), (.slice p0_1 c_.blocks.length c0_1)] 57, blk b0_2 [(nV c_.params), (nV c_.regs), (.slice p0_1 c_.blocks.length c0_1), v1_1, (sV b1_1 o1_1 r0_2.length c0_2)] 185, ow [v1_1] xs1_1, ow [(sV b1_1 o1_1 r0_2.length c0_2)] r0_2, junk w0 hz]) [0, 1, 2, 3, 4, 5, 7] rfl rfl
   replace hm := (hm.lit_els 1 0 (by decide) rfl rfl rfl rfl).pk (L' := [ow [(sV b1_2 0 1 1)] ([s1_1] : List (List Bool)), blk b0_1 [(nV c_.params), (nV c_.regs), (.slice p0_1 c_.blocks.length c0_1)] 57, blk b0_2 [(nV c_.params), (nV c_.regs), (.slice p0_1 c_.blocks.length c0_1), v1_1, (sV b1_1 o1_1 r0_2.length c0_2)] 185, ow [v1_1] xs1_1, ow [(sV b1_1 o1_1 r0_2.length c0_2)] r0_2, junk w0 hz]) [1, 2, 3, 4, 5, 6] rfl rfl
   refine gb fun ys1_2 hx1_4 => ?_
   obtain ⟨h1_3, h1_3e⟩ := appM_some.1 hx1_4
   replace hm := (hm.both 3 0 (by decide) rfl rfl).pk (L' := [blk b0_1 [(nV c_.params), (nV c_.regs), (.slice p0_1 c_.blocks.length c0_1)] 57, blk b0_2 [(nV c_.params), (nV c_.regs), (.slice p0_1 c_.blocks.length c0_1), v1_1, (sV b1_1 o1_1 r0_2.length c0_2)] 185, both (ow [v1_1] xs1_1) (ow [(sV b1_2 0 1 1)] ([s1_1] : List (List Bool))), ow [(sV b1_1 o1_1 r0_2.length c0_2)] r0_2, junk w0 hz]) [1, 2, 3, 4, 5] rfl rfl
   refine gf rfl (fun a hf => e_appendD (xs := xs1_1) (ys := ([s1_1] : List (List Bool))) 2 et_53 hf hm rfl rfl rfl rfl h1_3) ?_
   rintro v1_3 w hm
   rw [h1_3e] at hm
   exact gY (yG rfl (y_nilptr rfl rfl)) (gF fo_185_1 rfl (gS1 hm 1 sizeOf53 (rep_one (hm.ow_rep 2 rfl)) rfl fun w hm => gE (gR (gP (by omega) (by omega) rfl (gM rfl (gE (gZe fun a hf => ⟨v1_3, hf.sb rfl, hm.pk [0, 1, 2, 3, 4] rfl rfl⟩)))))))
  repeat clear hm
  rintro i0_1 xs0_1 a w ⟨v0_4, hf, hm⟩ hi0_3 hi0_4
  exact gv hf (gS (gR (gB rfl (gE (gS (go _ 20 rfl (decide_eq_false (by omega)) (gcf rfl (gXt (gHh (gS (gR (gM rfl (gA rfl (gE (gRt (gr1 results194 rfl (.inr ⟨_, rfl, ⟨b0_2, (.slice p0_1 c_.blocks.length c0_1), v0_4, (.slice p0_2 r0_2.length c0_2), hz, rfl, (Heap.le_refl _), h1, hm.pk [4, 1, 2, 3] rfl rfl⟩⟩)))))))))))))))))

theorem impl_MadeBy_ok (w0 : World) (x_ : Ins_) (v1 : Value) (h1 : GT.rep (hp w0) [v1] x_.args) :
    ConM Tryz.prog 98 [(.agg #[(nV x_.op), (nV x_.to), v1, (nV x_.n_)])] w0 (impl_MadeBy x_) fun r v w' => v = (nV r) ∧ Below w0.heap.size w0 w' := by
  unfold impl_MadeBy
  refine gcon func98 rfl fun r => ?_
  have hm := Mem.start w0
  refine gS (gR (gBx hm rfl fun b0_1 w hm => gA rfl (gE (gS (gS (gR (gF fo_106_0 rfl (gL hm 0 isAgg3 rfl (gC hm rfl call142 (impl_sets_ok _ x_.op) fun r0_1 hx0_1 w hm => gN rfl (gE (gsn 6 rfl (fun h0_1 => ?_) fun h0_1 => ?_)))))))))))
  ·
   exact gct rfl (gS (gR (gA rfl (gE (gRt (gr1 results98 rfl ⟨rfl, hm.below⟩))))))
  exact gcf rfl (gSk (gS (gR (gF fo_106_1 rfl (gL hm 0 isAgg3 rfl (gA rfl (gE (gRt (gr1 results98 rfl ⟨rfl, hm.below⟩)))))))))

theorem impl_placesOf_ok (w0 : World) (c_ : Code_) (v1 : Value) (h1 : GT.rep (hp w0) [v1] c_.blocks) :
    ConM Tryz.prog 195 [(.agg #[(nV c_.params), (nV c_.regs), v1])] w0 (impl_placesOf c_) fun r v w' => ∃ (x1 : Value), v = x1 ∧ Mem w0 (hp w0) w' [ow [x1] r] := by
  unfold impl_placesOf
  refine gcon func195 rfl fun r => ?_
  have hm := Mem.start w0
  refine gS (gR (gBx hm rfl fun b0_1 w hm => gA rfl (gE (gS (gR (gF fo_57_1 rfl (gL hm 0 isAgg3 rfl (gb fun ys0_1 hx0_1 => ?_))))))))
  obtain ⟨⟨h0_11, h0_12⟩, h0_1e⟩ := makeM_some.1 hx0_1
  refine gf rfl (fun a hf => e_make (x0 := ([] : List place)) et_181 (fun _ => (own_list.2 (.inl ⟨rfl, rfl⟩))) hf hm rfl rfl rfl h0_11 (Int.le_refl _) h0_12) ?_
  rintro v0_1 w hm
  rw [h0_1e] at hm
  have h0_1l : (ys0_1.length : Int) = c_.regs := by rw [← h0_1e]; simp only [List.length_replicate]; omega
  refine gA rfl (gE (gS (gS (gR (gF fo_57_2 rfl (gL hm 1 isAgg55 rfl ?_))))))
  obtain ⟨p0_1, c0_1, rfl, hl0_1⟩ := ro_slice h1
  refine gY (yV st_55 rfl) (gM rfl (gE ?_))
  obtain ⟨p0_2, c0_2, rfl, hl0_2⟩ := ro_slice (hm.ow_rep 0 rfl)
  refine gBk (gNf hm (fun i1_1 xs1_1 => [(3, (.slice p0_2 ys0_1.length c0_2)), (15, (.slice p0_1 c_.blocks.length c0_1)), (16, (nV ((c_.blocks.length : Int)))), (17, (nV i1_1))]) (fun i1_1 xs1_1 => [ow [(.slice p0_2 ys0_1.length c0_2)] xs1_1]) [0] rfl ?_ ?_)
  ·
   repeat clear hm
   intro _ _ i1_1 xs1_1 w hm hi0_1 hi0_2 q0_1 _
   refine gS (gR (gB rfl (gE (gS (go _ 18 rfl (decide_eq_true (by omega)) (gct rfl (gSk (gS (gBk (gS (gR (gM rfl (gg fun x1_1 h1_1 hx1_2 => ?_)))))))))))))
   obtain ⟨b1_1, o1_1, c1_1, he⟩ := idx_form' h1 hx1_2
   simp only [Value.slice.injEq, Option.some.injEq] at he; obtain ⟨rfl, _, rfl⟩ := he
   obtain ⟨v1_1, v1_2, v1_3, hc1_1, h1_2, h1_3, h1_4⟩ := rk_Block_ h1 hx1_2
   refine gI st_55 h1_1 (idx_lt hx1_2) rfl (gY (yn (hc1_1.mono hm.lez) isAgg104 sizeOf104 rfl) (gAl hm zeroValue104 rfl fun b1_2 w hm => gA rfl (gSN hm 0 sizeOf104 (one_cons (rep_one h1_2) (one_cons (rep_one h1_3) (one_cons rfl (one_cons rfl (one_cons (rep_one h1_4) one_nil))))) rfl fun w hm => gE (gS (gS (gR (gF fo_104_0 rfl (gL hm 0 isAgg101 rfl ?_))))))))
   obtain ⟨p1_1, c1_2, rfl, hl1_1⟩ := ro_slice h1_2
   refine gY (yV st_101 rfl) (gM rfl (gE (gBk (gNf hm (fun i2_1 xs2_1 => [(3, (.slice p0_2 ys0_1.length c0_2)), (4, (nV i1_1)), (5, (pV b1_2)), (15, (sV b1_1 o1_1 c_.blocks.length c0_1)), (16, (nV ((c_.blocks.length : Int)))), (17, (nV i1_1)), (23, (.slice p1_1 x1_1.phis.length c1_2)), (24, (nV ((x1_1.phis.length : Int)))), (25, (nV i2_1))]) (fun i2_1 xs2_1 => [ow [(.slice p0_2 ys0_1.length c0_2)] xs2_1, blk b1_2 [(.slice p1_1 x1_1.phis.length c1_2), v1_2, (nV x1_1.jump), (nV x1_1.on), v1_3] 104]) [1, 0] rfl ?_ ?_))))
   ·
    repeat clear hm
    intro _ _ i2_1 xs2_1 w hm hi1_1 hi1_2 q1_1 _
    refine gS (gR (gB rfl (gE (gS (go _ 26 rfl (decide_eq_true (by omega)) (gct rfl (gSk (gS (gBk (gS (gR (gg fun x2_1 h2_1 hx2_2 => ?_))))))))))))
    obtain ⟨b2_1, o2_1, c2_1, he⟩ := idx_form' h1_2 hx2_2
    simp only [Value.slice.injEq, Option.some.injEq] at he; obtain ⟨rfl, _, rfl⟩ := he
    obtain ⟨v2_1, hc2_1, h2_2⟩ := rk_Phi_ h1_2 hx2_2
    refine gI st_101 h2_1 (idx_lt hx2_2) rfl (gY (yn (hc2_1.mono hm.lez) isAgg143 sizeOf143 rfl) (gAl hm zeroValue143 rfl fun b2_2 w hm => gSN hm 0 sizeOf143 (one_cons rfl (one_cons (rep_one h2_2) one_nil)) rfl fun w hm => gE (gJ hm (fun s2_1 => [(3, (.slice p0_2 ys0_1.length c0_2)), (4, (nV i1_1)), (5, (pV b1_2)), (15, (sV b1_1 o1_1 c_.blocks.length c0_1)), (16, (nV ((c_.blocks.length : Int)))), (17, (nV i1_1)), (23, (sV b2_1 o2_1 x1_1.phis.length c1_2)), (24, (nV ((x1_1.phis.length : Int)))), (25, (nV i2_1))]) (fun s2_1 => [ow [(.slice p0_2 ys0_1.length c0_2)] s2_1, blk b1_2 [(sV b2_1 o2_1 x1_1.phis.length c1_2), v1_2, (nV x1_1.jump), (nV x1_1.on), v1_3] 104]) (fun s2_1 => ?_) ?_)))
    ·
     refine gW (.p 0 (.p 1 (.p 3 (.p 4 (.p 8 (.p 9 (.q 2 (.q 5 (.p 6 (.e 7 (.e 10 (.e 11 (.p 12 (.e 13 .fin .nil)) .nil) .nil) (.e 10 (.e 7 (.e 11 (.p 12 (.e 13 .fin .nil)) .nil) .nil) .nil))))))))))) [2, 5, 7, 10, 11] [0, 1, 3, 4, 6, 8, 9, 12] hm [0, 2] [blk b2_2 [(nV x2_1.to), v2_1] 143, blk b1_2 [(sV b2_1 o2_1 x1_1.phis.length c1_2), v1_2, (nV x1_1.jump), (nV x1_1.on), v1_3] 104] rfl mxo (by kernel_rfl) (fun _ _ _ h => h.2) fun w hm hS => tP rfl (fun w => yM rfl) (tP rfl (fun w => yF fo_143_0 rfl) (tP rfl (fun w => yM rfl) (tP rfl (fun w => yF fo_143_0 rfl) (tP rfl (fun w => yM rfl) (tP rfl (fun w => yG rfl (y_build (vs := [(0, (nV i1_1)), (1, (nV (-1)))]) (cs := #[(nV i1_1), (nV (-1))]) rfl rfl (by kernel_rfl))) (tQ rfl hS (fun w hm => yL hm 0 isAgg3 rfl) (tQ rfl hS (fun w hm => yL hm 0 isAgg3 rfl) (gg fun x3_1 h3_1 hx3_2 => ?_))))))))
     obtain ⟨b3_1, o3_1, c3_1, he⟩ := idx_form' (hm.ow_rep 1 rfl) hx3_2
     simp only [Value.slice.injEq, Option.some.injEq] at he; obtain ⟨rfl, _, rfl⟩ := he
     obtain ⟨_, _, hc3_1, hr3_1⟩ := ro_get' (hm.ow_rep 1 rfl) hx3_2
     have h3_2 := hr3_1
     obtain ⟨v3_1, rfl, -⟩ := id h3_2
     replace h3_2 : GT.rep (hp _) [v3_1] x3_1 := h3_2
     replace hc3_1 : CellsAt (hp _) b3_1 (o3_1 + (x2_1.to).toNat * 1) [v3_1] := hc3_1
     have hL3_1 := rep_slice_len (hm.ow_rep 1 rfl)
     refine tP rfl (fun w => yI st_181 h3_1 (idx_lt2 hx3_2 hL3_1) rfl) (gb fun pb3_1 hpb3_1 => tMo ?_ ?_)
     ·
      obtain ⟨_, hc3_2, hm⟩ := hm.openE 1 rfl hx3_2
      have hr3_2 := hm.ow_rep 0 rfl
      have h3_3 := hr3_2
      obtain ⟨v3_2, rfl, -⟩ := id h3_3
      replace h3_3 : GT.rep (hp _) [v3_2] x3_1 := h3_3
      clear hc3_2 h3_3
      replace hm : Mem w0 (hp w0) _ [ow [v3_2] (x3_1 : List place), blk b2_2 [(nV x2_1.to), v2_1] 143, holeE b3_1 o3_1 ys0_1.length c0_2 (xs2_1 : List (List place)) (x2_1.to).toNat [v3_2], blk b1_2 [(sV b2_1 o2_1 x1_1.phis.length c1_2), v1_2, (nV x1_1.jump), (nV x1_1.on), v1_3] 104] := hm
      replace hm := hm.pk (L' := [ow [v3_2] x3_1, blk b2_2 [(nV x2_1.to), v2_1] 143, holeE b3_1 o3_1 ys0_1.length c0_2 (xs2_1 : List (List place)) (x2_1.to).toNat [v3_2], blk b1_2 [(sV b2_1 o2_1 x1_1.phis.length c1_2), v1_2, (nV x1_1.jump), (nV x1_1.on), v1_3] 104]) [0, 1, 2, 3] rfl rfl
      refine tY rfl (yl isAgg186 ((hm.holeE_at 2 rfl).cell (j := 0) rfl) rfl) (tAk hm [1, 3] rfl fun hS => tO (tf rfl rfl (fun a hf => e_build (vs := #[(0, (.agg #[(nV i1_1), (nV (-1))]))]) (cs := [(nV i1_1), (nV (-1))]) et_186 hf hm rfl rfl (by kernel_rfl) rfl rfl) ?_))
      rintro _ w ⟨b3_2, rfl, hm⟩
      replace hm := hm.lit (xs := ([(⟨i1_1, -1⟩ : place)] : List place)) 0 rfl rfl rfl rfl
      refine tAk hm [2, 4] rfl fun hS => tO ?_
      obtain ⟨h3_4, h3_4e⟩ := appM_some.1 hpb3_1
      refine tf rfl rfl (fun a hf => e_append 1 et_186 hf hm rfl (hm.ow_rep 0 rfl) rfl rfl rfl h3_4) ?_
      rintro v3_3 w hm
      rw [h3_4e] at hm
      refine tAk hm [2, 4] rfl fun hS => ?_
      have hL3_2 := hm.holeE_len 3 rfl
      refine tP rfl (fun w => yI st_181 h3_1 (idx_lt2 hx3_2 hL3_2) rfl) (tO ?_)
      have h13_1 : ∀ u ∈ ([v3_3] : List Value), u.oneCell' = true := (one_cons (rep_one (hm.ow_rep 1 rfl)) one_nil)
      refine tf0 rfl rfl (fun a hf => e_storeH (j := 0) (vs := [v3_3]) 3 hf hm rfl rfl rfl sizeOf186 rfl rfl (cells_one (h13_1 _ (List.mem_singleton.2 rfl))) h13_1 rfl) ?_
      rintro _ w hm
      replace hm : Mem w0 (hp w0) _ [ow [(sV b3_2 0 1 1)] ([(⟨i1_1, -1⟩ : place)] : List place), ow [v3_3] pb3_1, blk b2_2 [(nV x2_1.to), v2_1] 143, holeE b3_1 o3_1 ys0_1.length c0_2 (xs2_1 : List (List place)) (x2_1.to).toNat [v3_3], blk b1_2 [(sV b2_1 o2_1 x1_1.phis.length c1_2), v1_2, (nV x1_1.jump), (nV x1_1.on), v1_3] 104] := hm
      refine tAn rfl (tE ?_)
      replace hm := hm.imp (c' := ow [v3_3] (pb3_1 : List place)) 1 rfl (fun F h0 => h0)
      replace hm := (hm.shutE (y := (pb3_1 : List place)) 3 1 (by decide) rfl rfl).pk (L' := [ow [(sV b3_2 0 1 1)] ([(⟨i1_1, -1⟩ : place)] : List place), blk b2_2 [(nV x2_1.to), v2_1] 143, ow [(sV b3_1 o3_1 ys0_1.length c0_2)] (xs2_1.set (x2_1.to).toNat pb3_1), blk b1_2 [(sV b2_1 o2_1 x1_1.phis.length c1_2), v1_2, (nV x1_1.jump), (nV x1_1.on), v1_3] 104]) [0, 2, 3, 4] rfl rfl
      have hx3_3 := List.getElem?_set_self (a := (pb3_1 : List place)) (idx_lt hx3_2)
      exact gz hm [2, 3] rfl
     refine tO (tf rfl rfl (fun a hf => e_build (vs := #[(0, (.agg #[(nV i1_1), (nV (-1))]))]) (cs := [(nV i1_1), (nV (-1))]) et_186 hf hm rfl rfl (by kernel_rfl) rfl rfl) ?_)
     rintro _ w ⟨b3_3, rfl, hm⟩
     replace hm := hm.lit (xs := ([(⟨i1_1, -1⟩ : place)] : List place)) 0 rfl rfl rfl rfl
     refine tAk hm [1, 3] rfl fun hS => tO ?_
     obtain ⟨_, hc3_3, hm⟩ := hm.openE 2 rfl hx3_2
     have hr3_3 := hm.ow_rep 0 rfl
     have h3_5 := hr3_3
     obtain ⟨v3_4, rfl, -⟩ := id h3_5
     replace h3_5 : GT.rep (hp _) [v3_4] x3_1 := h3_5
     clear hc3_3 h3_5
     replace hm : Mem w0 (hp w0) _ [ow [v3_4] (x3_1 : List place), ow [(sV b3_3 0 1 1)] ([(⟨i1_1, -1⟩ : place)] : List place), blk b2_2 [(nV x2_1.to), v2_1] 143, holeE b3_1 o3_1 ys0_1.length c0_2 (xs2_1 : List (List place)) (x2_1.to).toNat [v3_4], blk b1_2 [(sV b2_1 o2_1 x1_1.phis.length c1_2), v1_2, (nV x1_1.jump), (nV x1_1.on), v1_3] 104] := hm
     replace hm := hm.pk (L' := [ow [v3_4] x3_1, ow [(sV b3_3 0 1 1)] ([(⟨i1_1, -1⟩ : place)] : List place), blk b2_2 [(nV x2_1.to), v2_1] 143, holeE b3_1 o3_1 ys0_1.length c0_2 (xs2_1 : List (List place)) (x2_1.to).toNat [v3_4], blk b1_2 [(sV b2_1 o2_1 x1_1.phis.length c1_2), v1_2, (nV x1_1.jump), (nV x1_1.on), v1_3] 104]) [0, 1, 2, 3, 4] rfl rfl
     refine tY rfl (yl isAgg186 ((hm.holeE_at 3 rfl).cell (j := 0) rfl) rfl) (tAk hm [2, 4] rfl fun hS => tO ?_)
     obtain ⟨h3_6, h3_6e⟩ := appM_some.1 hpb3_1
     refine tf rfl rfl (fun a hf => e_append 0 et_186 hf hm rfl (hm.ow_rep 1 rfl) rfl rfl rfl h3_6) ?_
     rintro v3_5 w hm
     rw [h3_6e] at hm
     refine tAk hm [2, 4] rfl fun hS => ?_
     have hL3_3 := hm.holeE_len 3 rfl
     refine tP rfl (fun w => yI st_181 h3_1 (idx_lt2 hx3_2 hL3_3) rfl) (tO ?_)
     have h13_2 : ∀ u ∈ ([v3_5] : List Value), u.oneCell' = true := (one_cons (rep_one (hm.ow_rep 0 rfl)) one_nil)
     refine tf0 rfl rfl (fun a hf => e_storeH (j := 0) (vs := [v3_5]) 3 hf hm rfl rfl rfl sizeOf186 rfl rfl (cells_one (h13_2 _ (List.mem_singleton.2 rfl))) h13_2 rfl) ?_
     rintro _ w hm
     replace hm : Mem w0 (hp w0) _ [ow [v3_5] pb3_1, ow [(sV b3_3 0 1 1)] ([(⟨i1_1, -1⟩ : place)] : List place), blk b2_2 [(nV x2_1.to), v2_1] 143, holeE b3_1 o3_1 ys0_1.length c0_2 (xs2_1 : List (List place)) (x2_1.to).toNat [v3_5], blk b1_2 [(sV b2_1 o2_1 x1_1.phis.length c1_2), v1_2, (nV x1_1.jump), (nV x1_1.on), v1_3] 104] := hm
     refine tAn rfl (tE ?_)
     replace hm := hm.imp (c' := ow [v3_5] (pb3_1 : List place)) 0 rfl (fun F h0 => h0)
     replace hm := (hm.shutE (y := (pb3_1 : List place)) 3 0 (by decide) rfl rfl).pk (L' := [ow [(sV b3_3 0 1 1)] ([(⟨i1_1, -1⟩ : place)] : List place), blk b2_2 [(nV x2_1.to), v2_1] 143, ow [(sV b3_1 o3_1 ys0_1.length c0_2)] (xs2_1.set (x2_1.to).toNat pb3_1), blk b1_2 [(sV b2_1 o2_1 x1_1.phis.length c1_2), v1_2, (nV x1_1.jump), (nV x1_1.on), v1_3] 104]) [1, 2, 3, 4] rfl rfl
     have hx3_4 := List.getElem?_set_self (a := (pb3_1 : List place)) (idx_lt hx3_2)
     exact gz hm [2, 3] rfl
    repeat clear hm
    intro s2_1 w hm
    exact gR (gP (by omega) (by omega) rfl (gM rfl (gE (gze hm [0, 1] rfl))))
   repeat clear hm
   intro i1_2 xs1_2 w hm hi1_3 hi1_4
   refine gS (gR (gB rfl (gE (gS (go _ 26 rfl (decide_eq_false (by omega)) (gcf rfl (gXt (gHh (gS (gR (gF fo_104_1 rfl (gL hm 1 isAgg102 rfl ?_))))))))))))
   obtain ⟨p1_2, c1_3, rfl, hl1_2⟩ := ro_slice h1_3
   refine gY (yV st_102 rfl) (gM rfl (gE (gBk (gNf hm (fun i2_2 xs2_2 => [(3, (.slice p0_2 ys0_1.length c0_2)), (4, (nV i1_1)), (15, (sV b1_1 o1_1 c_.blocks.length c0_1)), (16, (nV ((c_.blocks.length : Int)))), (17, (nV i1_1)), (44, (.slice p1_2 x1_1.ins.length c1_3)), (45, (nV ((x1_1.ins.length : Int)))), (46, (nV i2_2))]) (fun i2_2 xs2_2 => [ow [(.slice p0_2 ys0_1.length c0_2)] xs2_2]) [0] rfl ?_ ?_))))
   ·
    repeat clear hm
    intro _ _ i2_2 xs2_2 w hm hi1_5 hi1_6 q1_2 _
    refine gS (gR (gB rfl (gE (gS (go _ 47 rfl (decide_eq_true (by omega)) (gct rfl (gSk (gS (gJ hm (fun s2_2 => [(3, (.slice p0_2 ys0_1.length c0_2)), (4, (nV i1_1)), (15, (sV b1_1 o1_1 c_.blocks.length c0_1)), (16, (nV ((c_.blocks.length : Int)))), (17, (nV i1_1)), (44, (.slice p1_2 x1_1.ins.length c1_3)), (45, (nV ((x1_1.ins.length : Int)))), (46, (nV i2_2))]) (fun s2_2 => [ow [(.slice p0_2 ys0_1.length c0_2)] s2_2]) (fun s2_2 => ?_) ?_)))))))))
    ·
     refine gBk (gS (gR (gM rfl (gg fun x3_2 h3_7 hx3_6 => ?_))))
     obtain ⟨b3_4, o3_2, c3_2, he⟩ := idx_form' h1_3 hx3_6
     simp only [Value.slice.injEq, Option.some.injEq] at he; obtain ⟨rfl, _, rfl⟩ := he
     obtain ⟨v3_6, hc3_4, h3_8⟩ := rk_Ins_ h1_3 hx3_6
     refine gI st_102 h3_7 (idx_lt hx3_6) rfl (gY (yn (hc3_4.mono hm.lez) isAgg106 sizeOf106 rfl) (gAl hm zeroValue106 rfl fun b3_5 w hm => gA rfl (gSN hm 0 sizeOf106 (one_cons rfl (one_cons rfl (one_cons (rep_one h3_8) (one_cons rfl one_nil)))) rfl fun w hm => gE (gS (gR (gY (yn (hm.blk_at 0 rfl) isAgg106 sizeOf106 rfl) (gC hm rfl call98 (impl_MadeBy_ok _ x3_2 v3_6 (hm.now h3_8)) fun r3_1 hx3_7 w hm => gA rfl (gE (gS (gR (gM rfl (gB rfl (gE (gJ hm (fun s3_1 => [(3, (.slice p0_2 ys0_1.length c0_2)), (4, (nV i1_1)), (15, (sV b1_1 o1_1 c_.blocks.length c0_1)), (16, (nV ((c_.blocks.length : Int)))), (17, (nV i1_1)), (44, (sV b3_4 o3_2 x1_1.ins.length c1_3)), (45, (nV ((x1_1.ins.length : Int)))), (46, (nV i2_2))]) (fun s3_1 => [ow [(.slice p0_2 ys0_1.length c0_2)] s3_1]) (fun s3_1 => ?_) ?_))))))))))))))
     ·
      refine gsd 54 rfl (fun h4_1 => ?_) fun h4_1 => ?_
      ·
       refine gct rfl (gR (gM rfl (gM rfl (gM rfl (gM rfl (gg fun x4_1 h4_2 hx4_2 => ?_))))))
       obtain ⟨b4_1, o4_1, c4_1, he⟩ := idx_form' (hm.ow_rep 1 rfl) hx4_2
       simp only [Value.slice.injEq, Option.some.injEq] at he; obtain ⟨rfl, _, rfl⟩ := he
       obtain ⟨_, _, hc4_1, hr4_1⟩ := ro_get' (hm.ow_rep 1 rfl) hx4_2
       have h4_3 := hr4_1
       obtain ⟨v4_1, rfl, -⟩ := id h4_3
       replace h4_3 : GT.rep (hp _) [v4_1] x4_1 := h4_3
       replace hc4_1 : CellsAt (hp _) b4_1 (o4_1 + (r3_1).toNat * 1) [v4_1] := hc4_1
       have hL4_1 := rep_slice_len (hm.ow_rep 1 rfl)
       refine gI st_181 h4_2 (idx_lt2 hx4_2 hL4_1) rfl ?_
       obtain ⟨_, hc4_2, hm⟩ := hm.openE 1 rfl hx4_2
       have hr4_2 := hm.ow_rep 0 rfl
       have h4_4 := hr4_2
       obtain ⟨v4_2, rfl, -⟩ := id h4_4
       replace h4_4 : GT.rep (hp _) [v4_2] x4_1 := h4_4
       clear hc4_2 h4_4
       replace hm : Mem w0 (hp w0) _ [ow [v4_2] (x4_1 : List place), blk b3_5 [(nV x3_2.op), (nV x3_2.to), v3_6, (nV x3_2.n_)] 106, holeE b4_1 o4_1 ys0_1.length c0_2 (xs2_2 : List (List place)) (r3_1).toNat [v4_2]] := hm
       replace hm := hm.pk (L' := [ow [v4_2] x4_1, blk b3_5 [(nV x3_2.op), (nV x3_2.to), v3_6, (nV x3_2.n_)] 106, holeE b4_1 o4_1 ys0_1.length c0_2 (xs2_2 : List (List place)) (r3_1).toNat [v4_2]]) [0, 1, 2] rfl rfl
       refine gY (yl isAgg186 ((hm.holeE_at 2 rfl).cell (j := 0) rfl) rfl) (gM rfl (gM rfl (gY (yG rfl (y_build (vs := [(0, (nV i1_1)), (1, (nV i2_2))]) (cs := #[(nV i1_1), (nV i2_2)]) rfl rfl (by kernel_rfl))) (gf rfl (fun a hf => e_build (vs := #[(0, (.agg #[(nV i1_1), (nV i2_2)]))]) (cs := [(nV i1_1), (nV i2_2)]) et_186 hf hm rfl rfl (by kernel_rfl) rfl rfl) ?_))))
       rintro _ w ⟨b4_2, rfl, hm⟩
       replace hm := hm.lit (xs := ([(⟨i1_1, i2_2⟩ : place)] : List place)) 0 rfl rfl rfl rfl
       refine gb fun ys4_1 hx4_3 => ?_
       obtain ⟨h4_5, h4_5e⟩ := appM_some.1 hx4_3
       refine gf rfl (fun a hf => e_append 1 et_186 hf hm rfl (hm.ow_rep 0 rfl) rfl rfl rfl h4_5) ?_
       rintro v4_3 w hm
       rw [h4_5e] at hm
       have hL4_2 := hm.holeE_len 3 rfl
       refine gI st_181 h4_2 (idx_lt2 hx4_2 hL4_2) rfl ?_
       have h14_1 : ∀ u ∈ ([v4_3] : List Value), u.oneCell' = true := (one_cons (rep_one (hm.ow_rep 1 rfl)) one_nil)
       refine gf0 rfl (fun a hf => e_storeH (j := 0) (vs := [v4_3]) 3 hf hm rfl rfl rfl sizeOf186 rfl rfl (cells_one (h14_1 _ (List.mem_singleton.2 rfl))) h14_1 rfl) ?_
       rintro _ w hm
       replace hm : Mem w0 (hp w0) _ [ow [(sV b4_2 0 1 1)] ([(⟨i1_1, i2_2⟩ : place)] : List place), ow [v4_3] ys4_1, blk b3_5 [(nV x3_2.op), (nV x3_2.to), v3_6, (nV x3_2.n_)] 106, holeE b4_1 o4_1 ys0_1.length c0_2 (xs2_2 : List (List place)) (r3_1).toNat [v4_3]] := hm
       refine gE ?_
       replace hm := hm.imp (c' := ow [v4_3] (ys4_1 : List place)) 1 rfl (fun F h0 => h0)
       replace hm := (hm.shutE (y := (ys4_1 : List place)) 3 1 (by decide) rfl rfl).pk (L' := [ow [(sV b4_2 0 1 1)] ([(⟨i1_1, i2_2⟩ : place)] : List place), blk b3_5 [(nV x3_2.op), (nV x3_2.to), v3_6, (nV x3_2.n_)] 106, ow [(sV b4_1 o4_1 ys0_1.length c0_2)] (xs2_2.set (r3_1).toNat ys4_1)]) [0, 2, 3] rfl rfl
       have hx4_4 := List.getElem?_set_self (a := (ys4_1 : List place)) (idx_lt hx4_2)
       exact gz hm [2] rfl
      exact gcf rfl (gSk (gz hm [1] rfl))
     repeat clear hm
     intro s3_1 w hm
     exact gz hm [0] rfl
    repeat clear hm
    intro s2_2 w hm
    exact gR (gP (by omega) (by omega) rfl (gM rfl (gE (gze hm [0] rfl))))
   repeat clear hm
   intro i1_3 xs1_3 w hm hi1_7 hi1_8
   exact gS (gR (gB rfl (gE (gS (go _ 47 rfl (decide_eq_false (by omega)) (gcf rfl (gXt (gHh (gR (gP (by omega) (by omega) rfl (gM rfl (gE (gze hm [0] rfl)))))))))))))
  repeat clear hm
  intro i0_1 xs0_1 w hm hi0_3 hi0_4
  exact gS (gR (gB rfl (gE (gS (go _ 18 rfl (decide_eq_false (by omega)) (gcf rfl (gXt (gHh (gS (gR (gM rfl (gA rfl (gE (gRt (gr1 results195 rfl ⟨(.slice p0_2 ys0_1.length c0_2), rfl, hm.pk [0] rfl rfl⟩)))))))))))))))

theorem slices_Index_S_bool_bool_ok (w0 : World) (s_ : List Bool) (v1 : Value) (h1 : GT.rep (hp w0) [v1] s_) (v_ : Bool) :
    ConM Tryz.prog 260 [v1, (.bool (v_))] w0 (slices_Index_S_bool_bool s_ v_) fun r v w' => v = (nV r) ∧ Below w0.heap.size w0 w' := by
  unfold slices_Index_S_bool_bool
  refine gcon func260 rfl fun r => ?_
  have hm := Mem.start w0
  refine gS (gR (gA rfl (gE (gS (gS (gR (gM rfl ?_)))))))
  obtain ⟨p0_1, c0_1, rfl, hl0_1⟩ := ro_slice h1
  refine gY (yV st_58 rfl) (gM rfl (gE (gBk (gNf hm (fun i1_1 xs1_1 => [(0, (.slice p0_1 s_.length c0_1)), (1, (.bool (v_))), (7, (nV ((s_.length : Int)))), (8, (nV i1_1))]) (fun i1_1 xs1_1 => []) [] rfl ?_ ?_))))
  ·
   repeat clear hm
   intro r0_1 hq0_1 i1_1 xs1_1 w hm hi0_1 hi0_2 q0_1 ho0_1
   refine gS (gR (gB rfl (gE (gS (go _ 9 rfl (decide_eq_true (by omega)) (gct rfl (gSk (gS (gBk (gS (gR (gM rfl (gA rfl (gE (gS (gR (gM rfl (gM rfl (gM rfl (gg fun x1_1 h1_1 hx1_2 => ?_))))))))))))))))))))
   obtain ⟨b1_1, o1_1, c1_1, he⟩ := idx_form h1 hx1_2
   simp only [Value.slice.injEq, Option.some.injEq] at he; obtain ⟨rfl, _, rfl⟩ := he
   refine gI st_58 h1_1 (idx_lt hx1_2) rfl (gY (yl isAgg4 ((flat_cells (cs := [(.bool (x1_1))]) (hm.now h1) hx1_2 rfl).cell (j := 0) rfl) rfl) (gY (yG rfl (y_eqlb underlying4 rfl rfl rfl)) (gE (gsd 16 rfl (fun h1_2 => ?_) fun h1_2 => ?_))))
   ·
    exact gct rfl (gS (gR (gM rfl (gA rfl (gE (gRt (gLr ho0_1 hq0_1 (gr1 results260 rfl ⟨rfl, hm.below⟩))))))))
   exact gcf rfl (gSk (gR (gP (by omega) (by omega) rfl (gM rfl (gE (gze hm [] rfl))))))
  repeat clear hm
  intro i0_1 xs0_1 w hm hi0_3 hi0_4
  exact gS (gR (gB rfl (gE (gS (go _ 9 rfl (decide_eq_false (by omega)) (gcf rfl (gXt (gHh (gS (gR (gA rfl (gE (gRt (gr1 results260 rfl ⟨rfl, hm.below⟩))))))))))))))

theorem slices_Contains_S_bool_bool_ok (w0 : World) (s_ : List Bool) (v1 : Value) (h1 : GT.rep (hp w0) [v1] s_) (v_ : Bool) :
    ConM Tryz.prog 196 [v1, (.bool (v_))] w0 (slices_Contains_S_bool_bool s_ v_) fun r v w' => v = (.bool (r)) ∧ Below w0.heap.size w0 w' := by
  unfold slices_Contains_S_bool_bool
  refine gcon func196 rfl fun r => ?_
  have hm := Mem.start w0
  exact gS (gR (gA rfl (gE (gS (gR (gM rfl (gM rfl (gC hm rfl call260 (slices_Index_S_bool_bool_ok _ s_ v1 (hm.now h1) v_) fun r0_1 hx0_1 w hm => gB rfl (gA rfl (gE (gRt (gr1 results196 rfl ⟨rfl, hm.below⟩))))))))))))

theorem pimpl_doms__has_ok (w0 : World) (d : doms) (bp0 : Nat) (v1p : Value) (h1p : GT.rep (hp w0) [v1p] d.c.blocks) (v2p : Value) (h2p : GT.rep (hp w0) [v2p] d.over) (v3p : Value) (h3p : GT.rep (hp w0) [v3p] d.in_) (hbbp0 : (hp w0) bp0 = some (.cells ([(nV d.c.params), (nV d.c.regs), v1p, v2p, v3p] : List Value).toArray 185 (0, 0))) (b_ : Int) :
    ConM Tryz.prog 261 [(pV bp0), (nV b_)] w0 (pimpl_doms__has d b_) fun r v w' => v = (.bool (r)) ∧ Below w0.heap.size w0 w' := by
  unfold pimpl_doms__has
  refine gcon func261 rfl fun r => ?_
  have hm := Mem.start w0
  refine gS (gR (gA rfl (gE (gS (gJ hm (fun s0_1 => [(4, (.bool (s0_1)))]) (fun s0_1 => []) (fun s0_1 => ?_) ?_)))))
  ·
   refine gR (gM rfl (gY (yG rfl (y_neqp underlying179 rfl rfl rfl)) (gM rfl (gM rfl (gM rfl (gY (yG rfl (y_nilptr rfl rfl)) (gF fo_185_2 rfl (gY (yl isAgg58 (hm.hz_cell hbbp0 rfl) rfl) ?_))))))))
   obtain ⟨p1_1, c1_1, rfl, hl1_1⟩ := ro_slice h3p
   refine gY (yV st_58 rfl) (gY (yS (by omega) (by omega) rfl) (gC hm rfl call63 (impl_within_ok _ b_ 0 (((d.in_.length : Int)) - 1)) fun r1_1 hx1_1 w hm => gKt rfl (gM rfl (gs 17 rfl (fun h1_1 => ?_) fun h1_1 => ?_))))
   ·
    refine gM rfl (gY (yG rfl (y_nilptr rfl rfl)) (gF fo_185_2 rfl (gY (yl isAgg58 (hm.hz_cell hbbp0 rfl) rfl) (gM rfl (gg fun x1_1 h1_2 hx1_3 => ?_)))))
    obtain ⟨b1_1, o1_1, c1_2, he⟩ := idx_form h3p hx1_3
    simp only [Value.slice.injEq, Option.some.injEq] at he; obtain ⟨rfl, _, rfl⟩ := he
    exact gI st_58 h1_2 (idx_lt hx1_3) rfl (gY (yl isAgg4 ((flat_cells (cs := [(.bool (x1_1))]) (hm.now h3p) hx1_3 rfl).cell (j := 0) rfl) rfl) (gKt rfl (gA rfl (gE (gz hm [] rfl)))))
   exact gO rfl (gO rfl (gO rfl (gO rfl (gO rfl (gO rfl (gO rfl (gKf rfl (gA rfl (gE (gz hm [] rfl))))))))))
  repeat clear hm
  intro s0_1 w hm
  exact gRt (gr1 results261 rfl ⟨rfl, hm.below⟩)

theorem pimpl_doms__dominates_ok (w0 : World) (d : doms) (bp0 : Nat) (v1p : Value) (h1p : GT.rep (hp w0) [v1p] d.c.blocks) (v2p : Value) (h2p : GT.rep (hp w0) [v2p] d.over) (v3p : Value) (h3p : GT.rep (hp w0) [v3p] d.in_) (hbbp0 : (hp w0) bp0 = some (.cells ([(nV d.c.params), (nV d.c.regs), v1p, v2p, v3p] : List Value).toArray 185 (0, 0))) (a_ : Int) (b_ : Int) :
    ConM Tryz.prog 198 [(pV bp0), (nV a_), (nV b_)] w0 (pimpl_doms__dominates d a_ b_) fun r v w' => v = (.bool (r)) ∧ Below w0.heap.size w0 w' := by
  unfold pimpl_doms__dominates
  refine gcon func198 rfl fun r => ?_
  have hm := Mem.start w0
  refine gS (gR (gA rfl (gE (gS (gJ hm (fun s0_1 => [(6, (.bool (s0_1)))]) (fun s0_1 => []) (fun s0_1 => ?_) ?_)))))
  ·
   refine gR (gM rfl (gM rfl (gC hm rfl call261 (pimpl_doms__has_ok _ d bp0 v1p (hm.now h1p) v2p (hm.now h2p) v3p (hm.now h3p) (hm.lez _ _ ((Heap.le_refl _) _ _ hbbp0)) a_) fun r1_1 hx1_1 w hm => gM rfl (gs 10 rfl (fun h1_1 => ?_) fun h1_1 => ?_))))
   ·
    refine gM rfl (gM rfl (gC hm rfl call261 (pimpl_doms__has_ok _ d bp0 v1p (hm.now h1p) v2p (hm.now h2p) v3p (hm.now h3p) (hm.lez _ _ ((Heap.le_refl _) _ _ hbbp0)) b_) fun r1_2 hx1_2 w hm => gKt rfl (gM rfl (gs 15 rfl (fun h1_2 => ?_) fun h1_2 => ?_))))
    ·
     refine gM rfl (gY (yG rfl (y_nilptr rfl rfl)) (gF fo_185_1 rfl (gY (yl isAgg53 (hm.hz_cell hbbp0 rfl) rfl) (gM rfl (gg fun x1_1 h1_3 hx1_4 => ?_)))))
     obtain ⟨b1_1, o1_1, c1_1, he⟩ := idx_form' h2p hx1_4
     subst he
     obtain ⟨_, _, hc1_1, hr1_1⟩ := ro_get' h2p hx1_4
     have h1_4 := hr1_1
     obtain ⟨v1_3, rfl, -⟩ := id h1_4
     replace h1_4 : GT.rep (hp w0) [v1_3] x1_1 := h1_4
     replace hc1_1 : CellsAt (hp w0) b1_1 (o1_1 + (a_).toNat * 1) [v1_3] := hc1_1
     refine gI st_53 h1_3 (idx_lt hx1_4) rfl (gY (yl isAgg58 ((hc1_1.mono hm.lez).cell (j := 0) rfl) rfl) (gM rfl (gg fun x1_2 h1_5 hx1_6 => ?_)))
     obtain ⟨b1_2, o1_2, c1_2, he⟩ := idx_form h1_4 hx1_6
     subst he
     exact gI st_58 h1_5 (idx_lt hx1_6) rfl (gY (yl isAgg4 ((flat_cells (cs := [(.bool (x1_2))]) (hm.now h1_4) hx1_6 rfl).cell (j := 0) rfl) rfl) (gKt rfl (gA rfl (gE (gz hm [] rfl)))))
    exact gO rfl (gO rfl (gO rfl (gO rfl (gO rfl (gO rfl (gO rfl (gO rfl (gO rfl (gO rfl (gKf rfl (gA rfl (gE (gz hm [] rfl)))))))))))))
   exact gO rfl (gO rfl (gO rfl (gKf rfl (gM rfl (gO rfl (gO rfl (gO rfl (gO rfl (gO rfl (gO rfl (gO rfl (gO rfl (gO rfl (gO rfl (gKf rfl (gA rfl (gE (gz hm [] rfl))))))))))))))))))
  repeat clear hm
  intro s0_1 w hm
  exact gRt (gr1 results198 rfl ⟨rfl, hm.below⟩)

theorem impl_singleCode_1_ok (w0 : World) (r_ : Int) (b_ : Int) (i_ : Int) (c0_ : Code_) (bpc0 : Nat) (v1p : Value) (h1p : GT.rep (hp w0) [v1p] c0_.blocks) (hbbpc0 : (hp w0) bpc0 = some (.cells ([(nV c0_.params), (nV c0_.regs), v1p] : List Value).toArray 57 (0, 0))) (c1_ : List (List place)) (bpc1 : Nat) (v2p : Value) (h2p : GT.rep (hp w0) [v2p] c1_) (hbbpc1 : (hp w0) bpc1 = some (.cells ([v2p] : List Value).toArray 181 (0, 0))) (c2_ : doms) (bpc2 : Nat) (bpd2 : Nat) (v3p : Value) (h3p : GT.rep (hp w0) [v3p] c2_.c.blocks) (v4p : Value) (h4p : GT.rep (hp w0) [v4p] c2_.over) (v5p : Value) (h5p : GT.rep (hp w0) [v5p] c2_.in_) (hbbpd2 : (hp w0) bpd2 = some (.cells ([(nV c2_.c.params), (nV c2_.c.regs), v3p, v4p, v5p] : List Value).toArray 185 (0, 0))) (hbbpc2 : (hp w0) bpc2 = some (.cells ([(pV bpd2)] : List Value).toArray 179 (0, 0))) :
    ConM Tryz.prog 197 [(nV r_), (nV b_), (nV i_), (pV bpc0), (pV bpc1), (pV bpc2)] w0 (impl_singleCode_1 r_ b_ i_ c0_ c1_ c2_) fun r v w' => v = (.bool (r)) ∧ Below w0.heap.size w0 w' := by
  unfold impl_singleCode_1
  refine gcon func197 rfl fun r => ?_
  have hm := Mem.start w0
  refine gS (gR (gA rfl (gE (gS (gS (gR (gM rfl (gF fo_57_0 rfl (gY (yl isAgg3 (hm.hz_cell hbbpc0 rfl) rfl) (gB rfl (gE (gsd 13 rfl (fun h0_1 => ?_) fun h0_1 => ?_))))))))))))
  ·
   exact gct rfl (gS (gR (gA rfl (gE (gRt (gr1 results197 rfl ⟨rfl, hm.below⟩))))))
  refine gcf rfl (gSk (gS (gJ hm (fun s0_1 => [(9, (.bool (s0_1)))]) (fun s0_1 => []) (fun s0_1 => ?_) ?_)))
  ·
   refine gW (.p 1 (.e 0 (.p 2 (.e 3 (.p 4 (.p 5 (.p 6 (.p 8 (.p 14 (.e 7 (.p 9 (.e 10 (.p 11 (.p 12 (.e 13 (.p 15 (.p 16 (.p 18 (.p 24 (.e 17 (.p 19 (.e 20 (.p 21 (.p 22 (.e 23 (.p 25 (.p 26 (.p 27 (.p 29 (.p 35 (.e 28 (.p 30 (.e 31 (.p 32 (.p 33 (.e 34 (.p 36 (.p 37 (.p 40 (.p 46 (.q 38 (.e 39 (.p 41 (.e 42 (.p 43 (.p 44 (.e 45 (.e 47 (.p 48 (.p 49 (.p 50 (.p 51 .fin)))) .nil) .nil))) .nil)) .nil)))))) .nil))) .nil)) .nil)))))) .nil))) .nil)) .nil))))) .nil))) .nil)) .nil)))))) .nil)) .nil)) [39, 42, 45] [1, 2, 4, 5, 6, 8, 9, 11, 12, 14, 15, 16, 18, 19, 21, 22, 24, 25, 26, 27, 29, 30, 32, 33, 35, 36, 37, 40, 41, 43, 44, 46, 48, 49, 50, 51] hm [] [] rfl mxo (by kernel_rfl) (fun _ _ _ h => h.2) fun w hm hS => tP rfl (fun w => yM rfl) (tO (tY rfl (yl isAgg181 (hm.hz_cell hbbpc1 rfl) rfl) (tAn rfl (gg fun x1_1 h1_1 hx1_2 => ?_))))
   obtain ⟨b1_1, o1_1, c1_1, he⟩ := idx_form' h2p hx1_2
   subst he
   obtain ⟨_, _, hc1_1, hr1_1⟩ := ro_get' h2p hx1_2
   have h1_2 := hr1_1
   obtain ⟨v1_1, rfl, -⟩ := id h1_2
   replace h1_2 : GT.rep (hp w0) [v1_1] x1_1 := h1_2
   replace hc1_1 : CellsAt (hp w0) b1_1 (o1_1 + (r_).toNat * 1) [v1_1] := hc1_1
   refine tP rfl (fun w => yI st_181 h1_1 (idx_lt hx1_2) rfl) (tO (tY rfl (yl isAgg186 ((hc1_1.mono hm.lez).cell (j := 0) rfl) rfl) (tAn rfl ?_)))
   obtain ⟨p1_1, c1_2, rfl, hl1_1⟩ := ro_slice h1_2
   refine tP rfl (fun w => yV st_186 rfl) (tP rfl (fun w => yB rfl) (tP rfl (fun w => yM rfl) (gsd 20 rfl (fun h1_3 => ?_) fun h1_3 => ?_)))
   ·
    refine tP rfl (fun w => yM rfl) (tP rfl (fun w => yM rfl) (tO (tY rfl (yl isAgg181 (hm.hz_cell hbbpc1 rfl) rfl) (tAn rfl (tP rfl (fun w => yI st_181 h1_1 (idx_lt hx1_2) rfl) (tO (tY rfl (yl isAgg186 ((hc1_1.mono hm.lez).cell (j := 0) rfl) rfl) (tAn rfl (gg fun x1_2 h1_4 hx1_4 => ?_)))))))))
    obtain ⟨b1_2, o1_2, c1_3, he⟩ := idx_form h1_2 hx1_4
    simp only [Value.slice.injEq, Option.some.injEq] at he; obtain ⟨rfl, _, rfl⟩ := he
    refine tP rfl (fun w => yI st_186 h1_4 (idx_lt hx1_4) rfl) (tP rfl (fun w => yF fo_188_0 rfl) (tO (tY rfl (yl isAgg3 ((flat_cells (cs := [(nV x1_2.block), (nV x1_2.ins)]) (hm.now h1_2) hx1_4 rfl).cell (j := 0) rfl) rfl) (tAn rfl (tP rfl (fun w => yB rfl) (tP rfl (fun w => yM rfl) (gsd 30 rfl (fun h1_5 => ?_) fun h1_5 => ?_)))))))
    ·
     refine tP rfl (fun w => yM rfl) (tP rfl (fun w => yM rfl) (tO (tY rfl (yl isAgg181 (hm.hz_cell hbbpc1 rfl) rfl) (tAn rfl (tP rfl (fun w => yI st_181 h1_1 (idx_lt hx1_2) rfl) (tO (tY rfl (yl isAgg186 ((hc1_1.mono hm.lez).cell (j := 0) rfl) rfl) (tAn rfl (tP rfl (fun w => yI st_186 h1_4 (idx_lt hx1_4) rfl) (tP rfl (fun w => yF fo_188_1 rfl) (tO (tY rfl (yl isAgg3 ((flat_cells (cs := [(nV x1_2.block), (nV x1_2.ins)]) (hm.now h1_2) hx1_4 rfl).cell (j := 1) rfl) rfl) (tAn rfl (tP rfl (fun w => yB rfl) (tP rfl (fun w => yKt rfl) (tP rfl (fun w => yM rfl) (gsd 41 rfl (fun h1_6 => ?_) fun h1_6 => ?_)))))))))))))))))
     ·
      refine tPo rfl rfl (tPo rfl rfl (tO (tEo rfl rfl (tAn rfl (tPo rfl rfl (tO (tEo rfl rfl (tAn rfl (tPo rfl rfl (tPo rfl rfl (tO (tEo rfl rfl (tAn rfl (tPo rfl rfl (tPo rfl rfl (tPo rfl rfl (tPo rfl rfl (tQo rfl hS rfl (tO (tEo rfl rfl (tAs hS (tPo rfl rfl (tO (tEo rfl rfl (tAs hS (tPo rfl rfl (tPo rfl rfl (tO (tEo rfl rfl (tAs hS ?_))))))))))))))))))))))))))))))
      exact tO (tEo rfl rfl (tAn rfl (tPo rfl rfl (tP rfl (fun w => yKt rfl) (tP rfl (fun w => yKt rfl) (tP rfl (fun w => yA rfl) (tE (gz hm [] rfl))))))))
     refine tP rfl (fun w => yM rfl) (tP rfl (fun w => yM rfl) (tO (tY rfl (yl isAgg181 (hm.hz_cell hbbpc1 rfl) rfl) (tAn rfl (tP rfl (fun w => yI st_181 h1_1 (idx_lt hx1_2) rfl) (tO (tY rfl (yl isAgg186 ((hc1_1.mono hm.lez).cell (j := 0) rfl) rfl) (tAn rfl (tP rfl (fun w => yI st_186 h1_4 (idx_lt hx1_4) rfl) (tP rfl (fun w => yF fo_188_0 rfl) (tO (tY rfl (yl isAgg3 ((flat_cells (cs := [(nV x1_2.block), (nV x1_2.ins)]) (hm.now h1_2) hx1_4 rfl).cell (j := 0) rfl) rfl) (tAn rfl (tP rfl (fun w => yB rfl) (tP rfl (fun w => yM rfl) (gsd 51 rfl (fun h1_7 => ?_) fun h1_7 => ?_))))))))))))))))
     ·
      refine tP rfl (fun w => yM rfl) (tP rfl (fun w => yM rfl) (tQ rfl hS (fun w hm => yl isAgg179 (hm.hz_cell hbbpc2 rfl) rfl) (tO (tY rfl (yl isAgg181 (hm.hz_cell hbbpc1 rfl) rfl) (tAs hS (tP rfl (fun w => yI st_181 h1_1 (idx_lt hx1_2) rfl) (tO (tY rfl (yl isAgg186 ((hc1_1.mono hm.lez).cell (j := 0) rfl) rfl) (tAs hS (tP rfl (fun w => yI st_186 h1_4 (idx_lt hx1_4) rfl) (tP rfl (fun w => yF fo_188_0 rfl) (tO (tY rfl (yl isAgg3 ((flat_cells (cs := [(nV x1_2.block), (nV x1_2.ins)]) (hm.now h1_2) hx1_4 rfl).cell (j := 0) rfl) rfl) (tAs hS (tO (gb fun r1_1 hx1_5 => tf rfl rfl (fun a hf => e_call hf rfl call198 rfl (pimpl_doms__dominates_ok _ c2_ bpd2 v3p (hm.now h3p) v4p (hm.now h4p) v5p (hm.now h5p) (hm.lez _ _ ((Heap.le_refl _) _ _ hbbpd2)) x1_2.block b_ _ hx1_5)) ?_))))))))))))))))
      rintro v1_2 w ⟨rfl, hB⟩
      replace hm := hm.below' hB; clear hB
      exact tAn rfl (tP rfl (fun w => yKt rfl) (tP rfl (fun w => yKf rfl) (tP rfl (fun w => yKt rfl) (tP rfl (fun w => yA rfl) (tE (gz hm [] rfl))))))
     exact tPo rfl rfl (tPo rfl rfl (tQo rfl hS rfl (tO (tEo rfl rfl (tAs hS (tPo rfl rfl (tO (tEo rfl rfl (tAs hS (tPo rfl rfl (tPo rfl rfl (tO (tEo rfl rfl (tAs hS (tO (tEo rfl rfl (tAn rfl (tP rfl (fun w => yKf rfl) (tP rfl (fun w => yKf rfl) (tP rfl (fun w => yKt rfl) (tP rfl (fun w => yA rfl) (tE (gz hm [] rfl)))))))))))))))))))))))
    refine tPo rfl rfl (tPo rfl rfl (tO (tEo rfl rfl (tAn rfl (tPo rfl rfl (tO (tEo rfl rfl (tAn rfl (tPo rfl rfl (tPo rfl rfl (tO (tEo rfl rfl (tAn rfl (tPo rfl rfl (tP rfl (fun w => yKf rfl) (tP rfl (fun w => yM rfl) (tP rfl (fun w => yM rfl) (tP rfl (fun w => yM rfl) (tO (tY rfl (yl isAgg181 (hm.hz_cell hbbpc1 rfl) rfl) (tAn rfl (tP rfl (fun w => yI st_181 h1_1 (idx_lt hx1_2) rfl) (tO (tY rfl (yl isAgg186 ((hc1_1.mono hm.lez).cell (j := 0) rfl) rfl) (tAn rfl (tP rfl (fun w => yI st_186 h1_4 (idx_lt hx1_4) rfl) (tP rfl (fun w => yF fo_188_0 rfl) (tO (tY rfl (yl isAgg3 ((flat_cells (cs := [(nV x1_2.block), (nV x1_2.ins)]) (hm.now h1_2) hx1_4 rfl).cell (j := 0) rfl) rfl) (tAn rfl ?_))))))))))))))))))))))))))))))
    refine tP rfl (fun w => yB rfl) (tP rfl (fun w => yM rfl) (gsd 51 rfl (fun h1_8 => ?_) fun h1_8 => ?_))
    ·
     refine tP rfl (fun w => yM rfl) (tP rfl (fun w => yM rfl) (tQ rfl hS (fun w hm => yl isAgg179 (hm.hz_cell hbbpc2 rfl) rfl) (tO (tY rfl (yl isAgg181 (hm.hz_cell hbbpc1 rfl) rfl) (tAs hS (tP rfl (fun w => yI st_181 h1_1 (idx_lt hx1_2) rfl) (tO (tY rfl (yl isAgg186 ((hc1_1.mono hm.lez).cell (j := 0) rfl) rfl) (tAs hS (tP rfl (fun w => yI st_186 h1_4 (idx_lt hx1_4) rfl) (tP rfl (fun w => yF fo_188_0 rfl) (tO (tY rfl (yl isAgg3 ((flat_cells (cs := [(nV x1_2.block), (nV x1_2.ins)]) (hm.now h1_2) hx1_4 rfl).cell (j := 0) rfl) rfl) (tAs hS (tO (gb fun r1_2 hx1_6 => tf rfl rfl (fun a hf => e_call hf rfl call198 rfl (pimpl_doms__dominates_ok _ c2_ bpd2 v3p (hm.now h3p) v4p (hm.now h4p) v5p (hm.now h5p) (hm.lez _ _ ((Heap.le_refl _) _ _ hbbpd2)) x1_2.block b_ _ hx1_6)) ?_))))))))))))))))
     rintro v1_3 w ⟨rfl, hB⟩
     replace hm := hm.below' hB; clear hB
     exact tAn rfl (tP rfl (fun w => yKt rfl) (tP rfl (fun w => yKf rfl) (tP rfl (fun w => yKt rfl) (tP rfl (fun w => yA rfl) (tE (gz hm [] rfl))))))
    exact tPo rfl rfl (tPo rfl rfl (tQo rfl hS rfl (tO (tEo rfl rfl (tAs hS (tPo rfl rfl (tO (tEo rfl rfl (tAs hS (tPo rfl rfl (tPo rfl rfl (tO (tEo rfl rfl (tAs hS (tO (tEo rfl rfl (tAn rfl (tP rfl (fun w => yKf rfl) (tP rfl (fun w => yKf rfl) (tP rfl (fun w => yKt rfl) (tP rfl (fun w => yA rfl) (tE (gz hm [] rfl)))))))))))))))))))))))
   refine tPo rfl rfl (tPo rfl rfl (tO (tEo rfl rfl (tAn rfl (tPo rfl rfl (tO (tEo rfl rfl (tAn rfl (tPo rfl rfl (tPo rfl rfl (tO (tEo rfl rfl (tAn rfl (tPo rfl rfl (tPo rfl rfl (tPo rfl rfl (tPo rfl rfl (tO (tEo rfl rfl (tAn rfl (tPo rfl rfl (tO (tEo rfl rfl (tAn rfl (tPo rfl rfl (tPo rfl rfl (tO (tEo rfl rfl (tAn rfl (tPo rfl rfl ?_))))))))))))))))))))))))))))))
   refine tPo rfl rfl (tPo rfl rfl (tPo rfl rfl (tPo rfl rfl (tO (tEo rfl rfl (tAn rfl (tPo rfl rfl (tO (tEo rfl rfl (tAn rfl (tPo rfl rfl (tPo rfl rfl (tO (tEo rfl rfl (tAn rfl (tPo rfl rfl (tPo rfl rfl (tPo rfl rfl (tPo rfl rfl (tQo rfl hS rfl (tO (tEo rfl rfl (tAs hS (tPo rfl rfl (tO (tEo rfl rfl (tAs hS (tPo rfl rfl (tPo rfl rfl (tO ?_))))))))))))))))))))))))))))))
   exact tEo rfl rfl (tAs hS (tO (tEo rfl rfl (tAn rfl (tPo rfl rfl (tPo rfl rfl (tP rfl (fun w => yKf rfl) (tP rfl (fun w => yA rfl) (tE (gz hm [] rfl))))))))))
  repeat clear hm
  intro s0_1 w hm
  exact gRt (gr1 results197 rfl ⟨rfl, hm.below⟩)

theorem impl_singleCode_2_ok (w0 : World) (r_ : Int) (c0_0_ : Code_) (bf0_0 : Nat) (v1 : Value) (h1 : GT.rep (hp w0) [v1] c0_0_.blocks) (hbf0_0 : w0.heap[bf0_0]? = some (.cells ([(nV c0_0_.params), (nV c0_0_.regs), v1] : List Value).toArray 57 (0, 0))) (c0_1_ : List (List place)) (bf0_1 : Nat) (v2 : Value) (h2 : GT.rep (hp w0) [v2] c0_1_) (hbf0_1 : w0.heap[bf0_1]? = some (.cells ([v2] : List Value).toArray 181 (0, 0))) (c0_2_ : doms) (bf0_2 : Nat) (bf0_2d : Nat) (v3 : Value) (h3 : GT.rep (hp w0) [v3] c0_2_.c.blocks) (v4 : Value) (h4 : GT.rep (hp w0) [v4] c0_2_.over) (v5 : Value) (h5 : GT.rep (hp w0) [v5] c0_2_.in_) (hbf0_2d : w0.heap[bf0_2d]? = some (.cells ([(nV c0_2_.c.params), (nV c0_2_.c.regs), v3, v4, v5] : List Value).toArray 185 (0, 0))) (hbf0_2 : w0.heap[bf0_2]? = some (.cells ([(pV bf0_2d)] : List Value).toArray 179 (0, 0))) (bf0 : Nat) (hbf0 : w0.heap[bf0]? = some (.cells ([(.func (.func 197) #[] #[(pV bf0_0), (pV bf0_1), (pV bf0_2)])] : List Value).toArray 71 (0, 0))) (c1_ : Int) (bf1 : Nat) (hbf1 : w0.heap[bf1]? = some (.cells ([(nV c1_)] : List Value).toArray 3 (0, 0))) (c2_ : Int) (bf2 : Nat) (hbf2 : w0.heap[bf2]? = some (.cells ([(nV c2_)] : List Value).toArray 3 (0, 0))) :
    ConM Tryz.prog 199 [(nV r_), (pV bf0), (pV bf1), (pV bf2)] w0 (impl_singleCode_2 r_ c0_0_ c0_1_ c0_2_ c1_ c2_) fun r v w' => v = (.bool (r)) ∧ Below w0.heap.size w0 w' := by
  unfold impl_singleCode_2
  refine gcon func199 rfl fun r => ?_
  have hm := Mem.start w0
  refine gS (gR (gA rfl (gE (gS (gR (gY (yl isAgg71 (hm.old_cell hbf0 rfl) rfl) (gM rfl (gY (yl isAgg3 (hm.old_cell hbf1 rfl) rfl) (gY (yl isAgg3 (hm.old_cell hbf2 rfl) rfl) (gb fun r0_1 hx0_1 => gf rfl (fun a hf => e_callv hf rfl rfl rfl ⟨197, [(pV bf0_0), (pV bf0_1), (pV bf0_2)], rfl, call197, impl_singleCode_1_ok _ r_ c1_ c2_ c0_0_ bf0_0 v1 (rep_later (hm.now h1) (Below.refl _ _)) (hm.old_later hbf0_0 (Below.refl _ _)) c0_1_ bf0_1 v2 (rep_later (hm.now h2) (Below.refl _ _)) (hm.old_later hbf0_1 (Below.refl _ _)) c0_2_ bf0_2 bf0_2d v3 (rep_later (hm.now h3) (Below.refl _ _)) v4 (rep_later (hm.now h4) (Below.refl _ _)) v5 (rep_later (hm.now h5) (Below.refl _ _)) (hm.old_later hbf0_2d (Below.refl _ _)) (hm.old_later hbf0_2 (Below.refl _ _)) _ hx0_1⟩) ?_))))))))))
  rintro v0_1 w ⟨rfl, hB⟩
  replace hm := hm.below' hB; clear hB
  exact gN rfl (gA rfl (gE (gRt (gr1 results199 rfl ⟨rfl, hm.below⟩))))

theorem impl_singleCode_ok (w0 : World) (c_ : Code_) (v1 : Value) (h1 : GT.rep (hp w0) [v1] c_.blocks) :
    ConM Tryz.prog 133 [(.agg #[(nV c_.params), (nV c_.regs), v1])] w0 (impl_singleCode c_) fun r v w' => v = (.bool (r)) ∧ Below w0.heap.size w0 w' := by
  unfold impl_singleCode
  refine gcon func133 rfl fun r => ?_
  have hm := Mem.start w0
  refine gS (gR (gBx hm rfl fun b0_1 w hm => gA rfl (gE (gS (gJg (fun s0_1 a w => ∃ (hz0_1 : Heap) (b0_2 : Nat) (b0_3 : Nat) (v0_1 : Value) (v0_2 : Value) (v0_3 : Value) (b0_4 : Nat) (v0_4 : Value), Heap.le (hp w0) hz0_1 ∧ GT.rep hz0_1 [v0_1] (s0_1.2.2.1) ∧ St 123 [(1, (pV b0_1)), (3, (pV b0_2)), (4, (pV b0_4))] w0 hz0_1 [blk b0_1 [(nV c_.params), (nV c_.regs), v1] 57, blk b0_2 [(pV b0_3)] 179, blk b0_3 [(nV s0_1.1), (nV s0_1.2.1), v0_1, v0_2, v0_3] 185, ow [v0_2] s0_1.2.2.2.1, ow [v0_3] s0_1.2.2.2.2.1, blk b0_4 [v0_4] 181, ow [v0_4] s0_1.2.2.2.2.2] a w) (fun s0_1 => ?_) ?_)))))
  ·
   refine gW (.q 0 (.q 2 (.e 1 (.e 3 (.e 4 (.e 5 (.e 6 (.e 7 .fin .nil) .nil) .nil) (.e 5 (.e 4 (.e 6 (.e 7 .fin .nil) .nil) .nil) .nil)) (.e 4 (.e 3 (.e 5 (.e 6 (.e 7 .fin .nil) .nil) .nil) (.e 5 (.e 3 (.e 6 (.e 7 .fin .nil) .nil) .nil) .nil)) (.e 5 (.e 3 (.e 4 (.e 6 (.e 7 .fin .nil) .nil) .nil) (.e 4 (.e 3 (.e 6 (.e 7 .fin .nil) .nil) .nil) .nil)) .nil))) (.e 4 (.e 1 (.e 3 (.e 5 (.e 6 (.e 7 .fin .nil) .nil) .nil) (.e 5 (.e 3 (.e 6 (.e 7 .fin .nil) .nil) .nil) .nil)) (.e 5 (.e 1 (.e 3 (.e 6 (.e 7 .fin .nil) .nil) .nil) .nil) .nil)) (.e 5 (.e 1 (.e 3 (.e 4 (.e 6 (.e 7 .fin .nil) .nil) .nil) (.e 4 (.e 3 (.e 6 (.e 7 .fin .nil) .nil) .nil) .nil)) (.e 4 (.e 1 (.e 3 (.e 6 (.e 7 .fin .nil) .nil) .nil) .nil) .nil)) .nil))))) [0, 1, 2, 4, 5] [] hm [0] [blk b0_1 [(nV c_.params), (nV c_.regs), v1] 57] rfl mxo (by kernel_rfl) (fun _ _ _ h => h.2) fun w hm hS => tQ rfl hS (fun w hm => yn (hm.blk_at 0 rfl) isAgg57 sizeOf57 rfl) (tQ rfl hS (fun w hm => yn (hm.blk_at 0 rfl) isAgg57 sizeOf57 rfl) (gb fun pb1_1 hpb1_1 => gb fun pb1_2 hpb1_2 => gb fun pb1_3 hpb1_3 => tJg (.e 1 (.e 3 (.e 4 (.e 5 .fin .nil) (.e 5 (.e 4 .fin .nil) .nil)) (.e 4 (.e 3 (.e 5 .fin .nil) (.e 5 (.e 3 .fin .nil) .nil)) (.e 5 (.e 3 (.e 4 .fin .nil) (.e 4 (.e 3 .fin .nil) .nil)) .nil))) (.e 4 (.e 1 (.e 3 (.e 5 .fin .nil) (.e 5 (.e 3 .fin .nil) .nil)) (.e 5 (.e 1 (.e 3 .fin .nil) .nil) .nil)) (.e 5 (.e 1 (.e 3 (.e 4 .fin .nil) (.e 4 (.e 3 .fin .nil) .nil)) (.e 4 (.e 1 (.e 3 .fin .nil) .nil) .nil)) .nil))) (.e 6 (.e 7 .fin .nil) .nil) rfl (fun s1_1 a w => ∃ (hz1_1 : Heap) (b1_1 : Nat) (b1_2 : Nat) (b1_3 : Nat) (v1_1 : Value) (v1_2 : Value) (v1_3 : Value) (v1_4 : Value), Heap.le (hp w0) hz1_1 ∧ GT.rep hz1_1 [v1_1] pb1_2.c.blocks ∧ St 123 [(1, (pV b0_1)), (3, (pV b1_1)), (4, (pV b1_2)), (18, (pV b1_3)), (20, v1_4)] w0 hz1_1 [blk b0_1 [(nV c_.params), (nV c_.regs), v1] 57, blk b1_1 [(.pointer none)] 179, blk b1_2 [(.slice none 0 0)] 181, blk b1_3 [(nV pb1_2.c.params), (nV pb1_2.c.regs), v1_1, v1_2, v1_3] 185, ow [v1_2] pb1_2.over, ow [v1_3] pb1_2.in_, ow [v1_4] pb1_3] a w) (fun s1_1 => ?_) ?_))
   ·
    refine tMo ?_ ?_
    ·
     refine tf rfl rfl (fun a hf => e_call hf rfl call194 rfl (impl_domsOf_ok _ _ hm.lez c_ v1 h1  _ hpb1_1)) ?_
     rintro rv2_1 w ho2_1
     rcases ho2_1 with ⟨h2_1, -, -⟩ | ⟨q2_2, h2_1, ho2_1⟩
     ·
      cases h2_1.symm.trans hpb1_2
     obtain rfl := Option.some.inj (hpb1_2.symm.trans h2_1)
     obtain ⟨b2_1, v2_1, v2_2, v2_3, hz2_1, rfl, hle2_1, h2_2, hB⟩ := ho2_1
     replace hm := Mem.giveA hm hle2_1 hB; clear hB
     refine tAk (hm.thaw hle2_1) [3] rfl fun hS => tMo ?_ ?_
     ·
      refine tf rfl rfl (fun a hf => e_call hf rfl call195 rfl (impl_placesOf_ok _ c_ v1 (hm.now (GT.mono hle2_1 h1)) _ hpb1_3)) ?_
      rintro v2_4 w ⟨_, rfl, hB⟩
      replace hm := hm.give hB; clear hB
      refine tAn rfl (tMo ?_ ?_)
      ·
       refine tf rfl rfl (fun a hf => e_alloc hm zeroValue179 rfl rfl) ?_
       rintro _ w ⟨b2_2, rfl, hm⟩
       refine tAk (hm.thaw hle2_1) [5] rfl fun hS => tO (tf rfl rfl (fun a hf => e_alloc hm zeroValue181 rfl rfl) ?_)
       rintro _ w ⟨b2_3, rfl, hm⟩
       exact tAk (hm.thaw hle2_1) [6] rfl fun hS => tE (gZ fun a hf => ⟨hz2_1, b2_2, b2_3, b2_1, v2_1, v2_2, v2_3, v2_4, hle2_1, h2_2, hf.sb rfl, hm.pk [6, 1, 0, 3, 4, 5, 2] rfl rfl⟩)
      refine tO (tf rfl rfl (fun a hf => e_alloc hm zeroValue181 rfl rfl) ?_)
      rintro _ w ⟨b2_4, rfl, hm⟩
      refine tAk (hm.thaw hle2_1) [5] rfl fun hS => tO (tf rfl rfl (fun a hf => e_alloc hm zeroValue179 rfl rfl) ?_)
      rintro _ w ⟨b2_5, rfl, hm⟩
      exact tAk (hm.thaw hle2_1) [6] rfl fun hS => tE (gZ fun a hf => ⟨hz2_1, b2_5, b2_4, b2_1, v2_1, v2_2, v2_3, v2_4, hle2_1, h2_2, hf.sb rfl, hm.pk [6, 0, 1, 3, 4, 5, 2] rfl rfl⟩)
     refine tMo ?_ ?_
     ·
      refine tf rfl rfl (fun a hf => e_alloc hm zeroValue179 rfl rfl) ?_
      rintro _ w ⟨b2_6, rfl, hm⟩
      refine tAk (hm.thaw hle2_1) [4] rfl fun hS => tMo ?_ ?_
      ·
       refine tf rfl rfl (fun a hf => e_call hf rfl call195 rfl (impl_placesOf_ok _ c_ v1 (hm.now (GT.mono hle2_1 h1)) _ hpb1_3)) ?_
       rintro v2_6 w ⟨_, rfl, hB⟩
       replace hm := hm.give hB; clear hB
       refine tAn rfl (tO (tf rfl rfl (fun a hf => e_alloc hm zeroValue181 rfl rfl) ?_))
       rintro _ w ⟨b2_7, rfl, hm⟩
       exact tAk (hm.thaw hle2_1) [6] rfl fun hS => tE (gZ fun a hf => ⟨hz2_1, b2_6, b2_7, b2_1, v2_1, v2_2, v2_3, v2_6, hle2_1, h2_2, hf.sb rfl, hm.pk [6, 2, 0, 3, 4, 5, 1] rfl rfl⟩)
      refine tO (tf rfl rfl (fun a hf => e_alloc hm zeroValue181 rfl rfl) ?_)
      rintro _ w ⟨b2_8, rfl, hm⟩
      refine tAk (hm.thaw hle2_1) [5] rfl fun hS => tO (tf rfl rfl (fun a hf => e_call hf rfl call195 rfl (impl_placesOf_ok _ c_ v1 (hm.now (GT.mono hle2_1 h1)) _ hpb1_3)) ?_)
      rintro v2_8 w ⟨_, rfl, hB⟩
      replace hm := hm.give hB; clear hB
      exact tAn rfl (tE (gZ fun a hf => ⟨hz2_1, b2_6, b2_8, b2_1, v2_1, v2_2, v2_3, v2_8, hle2_1, h2_2, hf.sb rfl, hm.pk [6, 2, 1, 3, 4, 5, 0] rfl rfl⟩))
     refine tO (tf rfl rfl (fun a hf => e_alloc hm zeroValue181 rfl rfl) ?_)
     rintro _ w ⟨b2_9, rfl, hm⟩
     refine tAk (hm.thaw hle2_1) [4] rfl fun hS => tMo ?_ ?_
     ·
      refine tf rfl rfl (fun a hf => e_call hf rfl call195 rfl (impl_placesOf_ok _ c_ v1 (hm.now (GT.mono hle2_1 h1)) _ hpb1_3)) ?_
      rintro v2_10 w ⟨_, rfl, hB⟩
      replace hm := hm.give hB; clear hB
      refine tAn rfl (tO (tf rfl rfl (fun a hf => e_alloc hm zeroValue179 rfl rfl) ?_))
      rintro _ w ⟨b2_10, rfl, hm⟩
      exact tAk (hm.thaw hle2_1) [6] rfl fun hS => tE (gZ fun a hf => ⟨hz2_1, b2_10, b2_9, b2_1, v2_1, v2_2, v2_3, v2_10, hle2_1, h2_2, hf.sb rfl, hm.pk [6, 0, 2, 3, 4, 5, 1] rfl rfl⟩)
     refine tO (tf rfl rfl (fun a hf => e_alloc hm zeroValue179 rfl rfl) ?_)
     rintro _ w ⟨b2_11, rfl, hm⟩
     refine tAk (hm.thaw hle2_1) [5] rfl fun hS => tO (tf rfl rfl (fun a hf => e_call hf rfl call195 rfl (impl_placesOf_ok _ c_ v1 (hm.now (GT.mono hle2_1 h1)) _ hpb1_3)) ?_)
     rintro v2_12 w ⟨_, rfl, hB⟩
     replace hm := hm.give hB; clear hB
     exact tAn rfl (tE (gZ fun a hf => ⟨hz2_1, b2_11, b2_9, b2_1, v2_1, v2_2, v2_3, v2_12, hle2_1, h2_2, hf.sb rfl, hm.pk [6, 1, 2, 3, 4, 5, 0] rfl rfl⟩))
    refine tMo ?_ ?_
    ·
     refine tf rfl rfl (fun a hf => e_alloc hm zeroValue179 rfl rfl) ?_
     rintro _ w ⟨b2_12, rfl, hm⟩
     refine tAk hm [1] rfl fun hS => tMo ?_ ?_
     ·
      refine tf rfl rfl (fun a hf => e_call hf rfl call194 rfl (impl_domsOf_ok _ _ hm.lez c_ v1 h1  _ hpb1_1)) ?_
      rintro rv2_2 w ho2_7
      rcases ho2_7 with ⟨h2_3, -, -⟩ | ⟨q2_4, h2_3, ho2_7⟩
      ·
       cases h2_3.symm.trans hpb1_2
      obtain rfl := Option.some.inj (hpb1_2.symm.trans h2_3)
      obtain ⟨b2_13, v2_14, v2_15, v2_16, hz2_7, rfl, hle2_7, h2_4, hB⟩ := ho2_7
      replace hm := Mem.giveA hm hle2_7 hB; clear hB
      refine tAk (hm.thaw hle2_7) [4] rfl fun hS => tMo ?_ ?_
      ·
       refine tf rfl rfl (fun a hf => e_call hf rfl call195 rfl (impl_placesOf_ok _ c_ v1 (hm.now (GT.mono hle2_7 h1)) _ hpb1_3)) ?_
       rintro v2_17 w ⟨_, rfl, hB⟩
       replace hm := hm.give hB; clear hB
       refine tAn rfl (tO (tf rfl rfl (fun a hf => e_alloc hm zeroValue181 rfl rfl) ?_))
       rintro _ w ⟨b2_14, rfl, hm⟩
       exact tAk (hm.thaw hle2_7) [6] rfl fun hS => tE (gZ fun a hf => ⟨hz2_7, b2_12, b2_14, b2_13, v2_14, v2_15, v2_16, v2_17, hle2_7, h2_4, hf.sb rfl, hm.pk [6, 5, 0, 2, 3, 4, 1] rfl rfl⟩)
      refine tO (tf rfl rfl (fun a hf => e_alloc hm zeroValue181 rfl rfl) ?_)
      rintro _ w ⟨b2_15, rfl, hm⟩
      refine tAk (hm.thaw hle2_7) [5] rfl fun hS => tO (tf rfl rfl (fun a hf => e_call hf rfl call195 rfl (impl_placesOf_ok _ c_ v1 (hm.now (GT.mono hle2_7 h1)) _ hpb1_3)) ?_)
      rintro v2_19 w ⟨_, rfl, hB⟩
      replace hm := hm.give hB; clear hB
      exact tAn rfl (tE (gZ fun a hf => ⟨hz2_7, b2_12, b2_15, b2_13, v2_14, v2_15, v2_16, v2_19, hle2_7, h2_4, hf.sb rfl, hm.pk [6, 5, 1, 2, 3, 4, 0] rfl rfl⟩))
     refine tO (tf rfl rfl (fun a hf => e_alloc hm zeroValue181 rfl rfl) ?_)
     rintro _ w ⟨b2_16, rfl, hm⟩
     refine tAk hm [2] rfl fun hS => tO (tf rfl rfl (fun a hf => e_call hf rfl call194 rfl (impl_domsOf_ok _ _ hm.lez c_ v1 h1  _ hpb1_1)) ?_)
     rintro rv2_3 w ho2_10
     rcases ho2_10 with ⟨h2_5, -, -⟩ | ⟨q2_6, h2_5, ho2_10⟩
     ·
      cases h2_5.symm.trans hpb1_2
     obtain rfl := Option.some.inj (hpb1_2.symm.trans h2_5)
     obtain ⟨b2_17, v2_21, v2_22, v2_23, hz2_10, rfl, hle2_10, h2_6, hB⟩ := ho2_10
     replace hm := Mem.giveA hm hle2_10 hB; clear hB
     refine tAk (hm.thaw hle2_10) [5] rfl fun hS => tO (tf rfl rfl (fun a hf => e_call hf rfl call195 rfl (impl_placesOf_ok _ c_ v1 (hm.now (GT.mono hle2_10 h1)) _ hpb1_3)) ?_)
     rintro v2_24 w ⟨_, rfl, hB⟩
     replace hm := hm.give hB; clear hB
     exact tAn rfl (tE (gZ fun a hf => ⟨hz2_10, b2_12, b2_16, b2_17, v2_21, v2_22, v2_23, v2_24, hle2_10, h2_6, hf.sb rfl, hm.pk [6, 5, 4, 1, 2, 3, 0] rfl rfl⟩))
    refine tO (tf rfl rfl (fun a hf => e_alloc hm zeroValue181 rfl rfl) ?_)
    rintro _ w ⟨b2_18, rfl, hm⟩
    refine tAk hm [1] rfl fun hS => tMo ?_ ?_
    ·
     refine tf rfl rfl (fun a hf => e_call hf rfl call194 rfl (impl_domsOf_ok _ _ hm.lez c_ v1 h1  _ hpb1_1)) ?_
     rintro rv2_4 w ho2_12
     rcases ho2_12 with ⟨h2_7, -, -⟩ | ⟨q2_8, h2_7, ho2_12⟩
     ·
      cases h2_7.symm.trans hpb1_2
     obtain rfl := Option.some.inj (hpb1_2.symm.trans h2_7)
     obtain ⟨b2_19, v2_26, v2_27, v2_28, hz2_12, rfl, hle2_12, h2_8, hB⟩ := ho2_12
     replace hm := Mem.giveA hm hle2_12 hB; clear hB
     refine tAk (hm.thaw hle2_12) [4] rfl fun hS => tMo ?_ ?_
     ·
      refine tf rfl rfl (fun a hf => e_call hf rfl call195 rfl (impl_placesOf_ok _ c_ v1 (hm.now (GT.mono hle2_12 h1)) _ hpb1_3)) ?_
      rintro v2_29 w ⟨_, rfl, hB⟩
      replace hm := hm.give hB; clear hB
      refine tAn rfl (tO (tf rfl rfl (fun a hf => e_alloc hm zeroValue179 rfl rfl) ?_))
      rintro _ w ⟨b2_20, rfl, hm⟩
      exact tAk (hm.thaw hle2_12) [6] rfl fun hS => tE (gZ fun a hf => ⟨hz2_12, b2_20, b2_18, b2_19, v2_26, v2_27, v2_28, v2_29, hle2_12, h2_8, hf.sb rfl, hm.pk [6, 0, 5, 2, 3, 4, 1] rfl rfl⟩)
     refine tO (tf rfl rfl (fun a hf => e_alloc hm zeroValue179 rfl rfl) ?_)
     rintro _ w ⟨b2_21, rfl, hm⟩
     refine tAk (hm.thaw hle2_12) [5] rfl fun hS => tO (tf rfl rfl (fun a hf => e_call hf rfl call195 rfl (impl_placesOf_ok _ c_ v1 (hm.now (GT.mono hle2_12 h1)) _ hpb1_3)) ?_)
     rintro v2_31 w ⟨_, rfl, hB⟩
     replace hm := hm.give hB; clear hB
     exact tAn rfl (tE (gZ fun a hf => ⟨hz2_12, b2_21, b2_18, b2_19, v2_26, v2_27, v2_28, v2_31, hle2_12, h2_8, hf.sb rfl, hm.pk [6, 1, 5, 2, 3, 4, 0] rfl rfl⟩))
    refine tO (tf rfl rfl (fun a hf => e_alloc hm zeroValue179 rfl rfl) ?_)
    rintro _ w ⟨b2_22, rfl, hm⟩
    refine tAk hm [2] rfl fun hS => tO (tf rfl rfl (fun a hf => e_call hf rfl call194 rfl (impl_domsOf_ok _ _ hm.lez c_ v1 h1  _ hpb1_1)) ?_)
    rintro rv2_5 w ho2_15
    rcases ho2_15 with ⟨h2_9, -, -⟩ | ⟨q2_10, h2_9, ho2_15⟩
    ·
     cases h2_9.symm.trans hpb1_2
    obtain rfl := Option.some.inj (hpb1_2.symm.trans h2_9)
    obtain ⟨b2_23, v2_33, v2_34, v2_35, hz2_15, rfl, hle2_15, h2_10, hB⟩ := ho2_15
    replace hm := Mem.giveA hm hle2_15 hB; clear hB
    refine tAk (hm.thaw hle2_15) [5] rfl fun hS => tO (tf rfl rfl (fun a hf => e_call hf rfl call195 rfl (impl_placesOf_ok _ c_ v1 (hm.now (GT.mono hle2_15 h1)) _ hpb1_3)) ?_)
    rintro v2_36 w ⟨_, rfl, hB⟩
    replace hm := hm.give hB; clear hB
    exact tAn rfl (tE (gZ fun a hf => ⟨hz2_15, b2_22, b2_18, b2_23, v2_33, v2_34, v2_35, v2_36, hle2_15, h2_10, hf.sb rfl, hm.pk [6, 4, 5, 1, 2, 3, 0] rfl rfl⟩))
   repeat clear hm
   rintro s1_1 a w ⟨hz1_1, b1_1, b1_2, b1_3, v1_1, v1_2, v1_3, v1_4, hle1_1, h1_1, hf, hm⟩
   refine gv hf (tO (tf0 rfl rfl (fun a hf => e_store1 1 hf hm rfl sizeOf179 rfl rfl rfl rfl rfl) ?_))
   rintro _ w hm
   refine tAn rfl (tO (tf0 rfl rfl (fun a hf => e_store1 2 hf hm rfl sizeOf181 rfl rfl rfl (rep_one (hm.ow_rep 6 rfl)) rfl) ?_))
   rintro _ w hm
   exact tAn rfl (tE (gZ fun a hf => ⟨hz1_1, b1_1, b1_3, v1_1, v1_2, v1_3, b1_2, v1_4, hle1_1, h1_1, hf.sb rfl, hm.pk [0, 1, 3, 4, 5, 2, 6] rfl rfl⟩))
  repeat clear hm
  rintro s0_1 a w ⟨hz0_1, b0_2, b0_3, v0_1, v0_2, v0_3, b0_4, v0_4, hle0_1, h0_1, hf, hm⟩
  refine gv hf (gS (gS (gR (gL hm 1 isAgg179 rfl (gY (yG rfl (y_nilptr rfl rfl)) (gF fo_185_2 rfl (gL hm 2 isAgg58 rfl (gC hm rfl call196 (slices_Contains_S_bool_bool_ok _ s0_1.2.2.2.2.1 v0_3 (hm.ow_rep 4 rfl) false) fun r0_1 hx0_1 w hm => gE (gs 25 rfl (fun h0_2 => ?_) fun h0_2 => ?_)))))))))
  ·
   refine gct rfl (gS (gR (gA rfl (gE (gRt ?_)))))
   replace hm := hm.thaw hle0_1
   exact gr1 results133 rfl ⟨rfl, hm.below⟩
  refine gcf rfl (gSk (gS (gS (gR (gL hm 5 isAgg181 rfl ?_)))))
  obtain ⟨p0_1, c0_1, rfl, hl0_1⟩ := ro_slice (hm.ow_rep 6 rfl)
  refine gY (yV st_181 rfl) (gM rfl (gE ?_))
  obtain ⟨p0_2, c0_2, rfl, hl0_2⟩ := ro_slice (hm.ow_rep 3 rfl)
  obtain ⟨p0_3, c0_3, rfl, hl0_3⟩ := ro_slice (hm.ow_rep 4 rfl)
  refine gBk (gNf hm (fun i1_1 xs1_1 => [(1, (pV b0_1)), (3, (pV b0_2)), (4, (pV b0_4)), (26, (.slice p0_1 s0_1.2.2.2.2.2.length c0_1)), (27, (nV ((s0_1.2.2.2.2.2.length : Int)))), (28, (nV i1_1))]) (fun i1_1 xs1_1 => [blk b0_1 [(nV c_.params), (nV c_.regs), v1] 57, blk b0_2 [(pV b0_3)] 179, blk b0_3 [(nV s0_1.1), (nV s0_1.2.1), v0_1, (.slice p0_2 s0_1.2.2.2.1.length c0_2), (.slice p0_3 s0_1.2.2.2.2.1.length c0_3)] 185, ow [(.slice p0_2 s0_1.2.2.2.1.length c0_2)] s0_1.2.2.2.1, ow [(.slice p0_3 s0_1.2.2.2.2.1.length c0_3)] s0_1.2.2.2.2.1, blk b0_4 [(.slice p0_1 s0_1.2.2.2.2.2.length c0_1)] 181, ow [(.slice p0_1 s0_1.2.2.2.2.2.length c0_1)] s0_1.2.2.2.2.2]) [0, 1, 2, 3, 4, 5, 6] rfl ?_ ?_)
  ·
   repeat clear hm
   intro r0_2 hq0_2 i1_1 xs1_1 w hm hi0_1 hi0_2 q0_1 ho0_2
   refine gS (gR (gB rfl (gE (gS (go _ 29 rfl (decide_eq_true (by omega)) (gct rfl (gSk (gS (gBk (gS (gR (gM rfl (gg fun x1_1 h1_2 hx1_2 => ?_)))))))))))))
   obtain ⟨b1_4, o1_1, c1_1, he⟩ := idx_form' (hm.ow_rep 6 rfl) hx1_2
   simp only [Value.slice.injEq, Option.some.injEq] at he; obtain ⟨rfl, _, rfl⟩ := he
   obtain ⟨_, _, hc1_1, hr1_1⟩ := ro_get' (hm.ow_rep 6 rfl) hx1_2
   have h1_3 := hr1_1
   obtain ⟨v1_5, rfl, -⟩ := id h1_3
   replace h1_3 : GT.rep (hp _) [v1_5] x1_1 := h1_3
   replace hc1_1 : CellsAt (hp _) b1_4 (o1_1 + (i1_1).toNat * 1) [v1_5] := hc1_1
   refine gI st_181 h1_2 (idx_lt hx1_2) rfl (gY (yl isAgg186 (hc1_1.cell (j := 0) rfl) rfl) (gA rfl (gA rfl (gE (gS (gJ hm (fun s1_2 => [(1, (pV b0_1)), (3, (pV b0_2)), (4, (pV b0_4)), (26, (sV b1_4 o1_1 s0_1.2.2.2.2.2.length c0_1)), (27, (nV ((s0_1.2.2.2.2.2.length : Int)))), (28, (nV i1_1)), (46, (.bool (s1_2)))]) (fun s1_2 => [blk b0_1 [(nV c_.params), (nV c_.regs), v1] 57, blk b0_2 [(pV b0_3)] 179, blk b0_3 [(nV s0_1.1), (nV s0_1.2.1), v0_1, (.slice p0_2 s0_1.2.2.2.1.length c0_2), (.slice p0_3 s0_1.2.2.2.2.1.length c0_3)] 185, ow [(.slice p0_2 s0_1.2.2.2.1.length c0_2)] s0_1.2.2.2.1, ow [(.slice p0_3 s0_1.2.2.2.2.1.length c0_3)] s0_1.2.2.2.2.1, blk b0_4 [(sV b1_4 o1_1 s0_1.2.2.2.2.2.length c0_1)] 181, ow [(sV b1_4 o1_1 s0_1.2.2.2.2.2.length c0_1)] s0_1.2.2.2.2.2]) (fun s1_2 => ?_) ?_))))))
   ·
    refine gR (gM rfl ?_)
    obtain ⟨p2_1, c2_1, rfl, hl2_1⟩ := ro_slice h1_3
    refine gY (yV st_186 rfl) (gB rfl (gM rfl (gsd 36 rfl (fun h2_11 => ?_) fun h2_11 => ?_)))
    ·
     exact gO rfl (gO rfl (gO rfl (gO rfl (gO rfl (gO rfl (gO rfl (gO rfl (gO rfl (gKt rfl (gE (gz hm [0, 1, 2, 3, 4, 5, 6] rfl)))))))))))
    refine gM rfl (gF fo_57_0 rfl (gL hm 0 isAgg3 rfl (gB rfl (gM rfl (gsd 41 rfl (fun h2_12 => ?_) fun h2_12 => ?_)))))
    ·
     exact gM rfl (gY (yV st_186 rfl) (gB rfl (gKt rfl (gKf rfl (gE (gz hm [0, 1, 2, 3, 4, 5, 6] rfl))))))
    exact gO rfl (gO rfl (gO rfl (gKf rfl (gKf rfl (gE (gz hm [0, 1, 2, 3, 4, 5, 6] rfl))))))
   repeat clear hm
   intro s1_2 w hm
   refine gs 46 rfl (fun h1_4 => ?_) fun h1_4 => ?_
   ·
    refine gct rfl (gS (gR (gA rfl (gE (gRt (gLr ho0_2 hq0_2 ?_))))))
    replace hm := hm.thaw hle0_1
    exact gr1 results133 rfl ⟨rfl, hm.below⟩
   exact gcf rfl (gSk (gR (gP (by omega) (by omega) rfl (gM rfl (gE (gze hm [0, 1, 2, 3, 4, 5, 6] rfl))))))
  repeat clear hm
  intro i0_1 xs0_1 w hm hi0_3 hi0_4
  refine gS (gR (gB rfl (gE (gS (go _ 29 rfl (decide_eq_false (by omega)) (gcf rfl (gXt (gHh (gS (gR (gY (yU rfl) (gAl hm zeroValue71 rfl fun b0_5 w hm => gS1 hm 0 sizeOf71 rfl rfl fun w hm => gE (gS (gS (gR (gF fo_57_2 rfl (gL hm 1 isAgg55 rfl ?_)))))))))))))))))
  obtain ⟨p0_4, c0_4, rfl, hl0_4⟩ := ro_slice h1
  refine gY (yV st_55 rfl) (gM rfl (gE (gBk (gNf hm (fun i1_2 xs1_2 => [(1, (pV b0_1)), (7, (pV b0_5)), (50, (.slice p0_4 c_.blocks.length c0_4)), (51, (nV ((c_.blocks.length : Int)))), (52, (nV i1_2))]) (fun i1_2 xs1_2 => [blk b0_1 [(nV c_.params), (nV c_.regs), (.slice p0_4 c_.blocks.length c0_4)] 57, blk b0_5 [(.func (.func 197) #[] #[(pV b0_1), (pV b0_4), (pV b0_2)])] 71, blk b0_4 [(.slice p0_1 s0_1.2.2.2.2.2.length c0_1)] 181, ow [(.slice p0_1 s0_1.2.2.2.2.2.length c0_1)] s0_1.2.2.2.2.2, blk b0_2 [(pV b0_3)] 179, blk b0_3 [(nV s0_1.1), (nV s0_1.2.1), v0_1, (.slice p0_2 s0_1.2.2.2.1.length c0_2), (.slice p0_3 s0_1.2.2.2.2.1.length c0_3)] 185, ow [(.slice p0_2 s0_1.2.2.2.1.length c0_2)] s0_1.2.2.2.1, ow [(.slice p0_3 s0_1.2.2.2.2.1.length c0_3)] s0_1.2.2.2.2.1]) [1, 0, 6, 7, 2, 3, 4, 5] rfl ?_ ?_))))
  ·
   repeat clear hm
   intro r0_3 hq0_3 i1_2 xs1_2 w hm hi0_5 hi0_6 q0_2 ho0_3
   refine gS (gR (gB rfl (gE (gS (go _ 53 rfl (decide_eq_true (by omega)) (gct rfl (gSk (gS (gBk (gS (gR (gM rfl (gg fun x1_2 h1_5 hx1_4 => ?_)))))))))))))
   obtain ⟨b1_5, o1_2, c1_2, he⟩ := idx_form' h1 hx1_4
   simp only [Value.slice.injEq, Option.some.injEq] at he; obtain ⟨rfl, _, rfl⟩ := he
   obtain ⟨v1_6, v1_7, v1_8, hc1_2, h1_6, h1_7, h1_8⟩ := rk_Block_ h1 hx1_4
   refine gI st_55 h1_5 (idx_lt hx1_4) rfl (gY (yn (hc1_2.mono (Heap.le_trans hle0_1 hm.lez)) isAgg104 sizeOf104 rfl) (gAl hm zeroValue3 rfl fun b1_6 w hm => gAl hm zeroValue104 rfl fun b1_7 w hm => gS1 hm 1 sizeOf3 rfl rfl fun w hm => gSN hm 0 sizeOf104 (one_cons (rep_one h1_6) (one_cons (rep_one h1_7) (one_cons rfl (one_cons rfl (one_cons (rep_one h1_8) one_nil))))) rfl fun w hm => gE (gS (gR (gY (yn (hm.blk_at 2 rfl) isAgg57 sizeOf57 rfl) (gL hm 1 isAgg3 rfl (gCg rfl call141 (impl_PredsOf_ok _ c_ (sV b1_5 o1_2 c_.blocks.length c0_4) (hm.now (GT.mono hle0_1 h1)) i1_2) ?_)))))))
   rintro r1_1 hx1_5 v1_9 w ⟨_, rfl, hB⟩
   replace hm := hm.give hB; clear hB
   refine gA rfl (gE (gS (gS (gR (gF fo_104_0 rfl (gL hm 1 isAgg101 rfl ?_))))))
   obtain ⟨p1_1, c1_3, rfl, hl1_1⟩ := ro_slice h1_6
   refine gY (yV st_101 rfl) (gM rfl (gE ?_))
   obtain ⟨p1_2, c1_4, rfl, hl1_2⟩ := ro_slice (hm.ow_rep 0 rfl)
   refine gBk (gNf hm (fun i2_1 xs2_1 => [(1, (pV b0_1)), (7, (pV b0_5)), (8, (pV b1_6)), (9, (pV b1_7)), (10, (.slice p1_2 r1_1.length c1_4)), (50, (sV b1_5 o1_2 c_.blocks.length c0_4)), (51, (nV ((c_.blocks.length : Int)))), (52, (nV i1_2)), (61, (.slice p1_1 x1_2.phis.length c1_3)), (62, (nV ((x1_2.phis.length : Int)))), (63, (nV i2_1))]) (fun i2_1 xs2_1 => [blk b0_1 [(nV c_.params), (nV c_.regs), (sV b1_5 o1_2 c_.blocks.length c0_4)] 57, blk b0_5 [(.func (.func 197) #[] #[(pV b0_1), (pV b0_4), (pV b0_2)])] 71, blk b0_4 [(.slice p0_1 s0_1.2.2.2.2.2.length c0_1)] 181, ow [(.slice p0_1 s0_1.2.2.2.2.2.length c0_1)] s0_1.2.2.2.2.2, blk b0_2 [(pV b0_3)] 179, blk b0_3 [(nV s0_1.1), (nV s0_1.2.1), v0_1, (.slice p0_2 s0_1.2.2.2.1.length c0_2), (.slice p0_3 s0_1.2.2.2.2.1.length c0_3)] 185, ow [(.slice p0_2 s0_1.2.2.2.1.length c0_2)] s0_1.2.2.2.1, ow [(.slice p0_3 s0_1.2.2.2.2.1.length c0_3)] s0_1.2.2.2.2.1, blk b1_6 [(nV i1_2)] 3, blk b1_7 [(.slice p1_1 x1_2.phis.length c1_3), v1_7, (nV x1_2.jump), (nV x1_2.on), v1_8] 104, ow [(.slice p1_2 r1_1.length c1_4)] r1_1]) [3, 4, 5, 6, 7, 8, 9, 10, 2, 1, 0] rfl ?_ ?_)
   ·
    repeat clear hm
    intro r1_2 hq1_3 i2_1 xs2_1 w hm hi1_1 hi1_2 q1_1 ho1_2
    refine gS (gR (gB rfl (gE (gS (go _ 64 rfl (decide_eq_true (by omega)) (gct rfl (gSk (gS (gBk (gS (gR (gg fun x2_1 h2_13 hx2_2 => ?_))))))))))))
    obtain ⟨b2_24, o2_1, c2_2, he⟩ := idx_form' h1_6 hx2_2
    simp only [Value.slice.injEq, Option.some.injEq] at he; obtain ⟨rfl, _, rfl⟩ := he
    obtain ⟨v2_38, hc2_1, h2_14⟩ := rk_Phi_ h1_6 hx2_2
    refine gI st_101 h2_13 (idx_lt hx2_2) rfl (gY (yn (hc2_1.mono (Heap.le_trans hle0_1 hm.lez)) isAgg143 sizeOf143 rfl) (gAl hm zeroValue143 rfl fun b2_25 w hm => gSN hm 0 sizeOf143 (one_cons rfl (one_cons (rep_one h2_14) one_nil)) rfl fun w hm => gE (gS (gR (gF fo_143_1 rfl (gL hm 0 isAgg37 rfl ?_))))))
    obtain ⟨p2_2, c2_3, rfl, hl2_2⟩ := ro_slice h2_14
    refine gY (yV st_37 rfl) (gM rfl (gE (gBk (gNf hm (fun i3_1 xs3_1 => [(1, (pV b0_1)), (7, (pV b0_5)), (8, (pV b1_6)), (9, (pV b1_7)), (10, (.slice p1_2 r1_1.length c1_4)), (50, (sV b1_5 o1_2 c_.blocks.length c0_4)), (51, (nV ((c_.blocks.length : Int)))), (52, (nV i1_2)), (61, (sV b2_24 o2_1 x1_2.phis.length c1_3)), (62, (nV ((x1_2.phis.length : Int)))), (63, (nV i2_1)), (68, (.slice p2_2 x2_1.args.length c2_3)), (69, (nV ((x2_1.args.length : Int)))), (70, (nV i3_1))]) (fun i3_1 xs3_1 => [blk b0_1 [(nV c_.params), (nV c_.regs), (sV b1_5 o1_2 c_.blocks.length c0_4)] 57, blk b0_5 [(.func (.func 197) #[] #[(pV b0_1), (pV b0_4), (pV b0_2)])] 71, blk b0_4 [(.slice p0_1 s0_1.2.2.2.2.2.length c0_1)] 181, ow [(.slice p0_1 s0_1.2.2.2.2.2.length c0_1)] s0_1.2.2.2.2.2, blk b0_2 [(pV b0_3)] 179, blk b0_3 [(nV s0_1.1), (nV s0_1.2.1), v0_1, (.slice p0_2 s0_1.2.2.2.1.length c0_2), (.slice p0_3 s0_1.2.2.2.2.1.length c0_3)] 185, ow [(.slice p0_2 s0_1.2.2.2.1.length c0_2)] s0_1.2.2.2.1, ow [(.slice p0_3 s0_1.2.2.2.2.1.length c0_3)] s0_1.2.2.2.2.1, blk b1_6 [(nV i1_2)] 3, blk b1_7 [(sV b2_24 o2_1 x1_2.phis.length c1_3), v1_7, (nV x1_2.jump), (nV x1_2.on), v1_8] 104, ow [(.slice p1_2 r1_1.length c1_4)] r1_1]) [1, 2, 3, 4, 5, 6, 7, 8, 9, 10, 11] rfl ?_ ?_))))
    ·
     repeat clear hm
     intro r2_1 hq2_1 i3_1 xs3_1 w hm hi2_1 hi2_2 q2_11 ho2_17
     refine gS (gR (gB rfl (gE (gS (go _ 71 rfl (decide_eq_true (by omega)) (gct rfl (gSk (gS (gBk (gS (gR (gM rfl (gg fun x3_1 h3_1 hx3_2 => ?_)))))))))))))
     obtain ⟨b3_1, o3_1, c3_1, he⟩ := idx_form h2_14 hx3_2
     simp only [Value.slice.injEq, Option.some.injEq] at he; obtain ⟨rfl, _, rfl⟩ := he
     refine gI st_37 h3_1 (idx_lt hx3_2) rfl (gY (yl isAgg3 ((flat_cells (cs := [(nV x3_1)]) (hm.now (GT.mono hle0_1 h2_14)) hx3_2 rfl).cell (j := 0) rfl) rfl) (gA rfl (gA rfl (gE (gS (gW (.p 1 (.p 2 (.p 3 (.p 4 (.p 6 (.p 8 (.p 9 (.p 10 (.q 0 (.q 5 (.q 7 (.e 11 (.p 12 (.p 13 (.e 14 (.p 15 (.e 16 (.p 17 .fin) .nil)) .nil))) .nil)))))))))))) [0, 5, 7, 11, 14] [1, 2, 3, 4, 6, 8, 9, 10, 12, 13, 15, 17] hm [0, 1, 2, 3, 4, 5, 6, 7, 8, 9, 10] [blk b0_1 [(nV c_.params), (nV c_.regs), (sV b1_5 o1_2 c_.blocks.length c0_4)] 57, blk b0_5 [(.func (.func 197) #[] #[(pV b0_1), (pV b0_4), (pV b0_2)])] 71, blk b0_4 [(.slice p0_1 s0_1.2.2.2.2.2.length c0_1)] 181, ow [(.slice p0_1 s0_1.2.2.2.2.2.length c0_1)] s0_1.2.2.2.2.2, blk b0_2 [(pV b0_3)] 179, blk b0_3 [(nV s0_1.1), (nV s0_1.2.1), v0_1, (.slice p0_2 s0_1.2.2.2.1.length c0_2), (.slice p0_3 s0_1.2.2.2.2.1.length c0_3)] 185, ow [(.slice p0_2 s0_1.2.2.2.1.length c0_2)] s0_1.2.2.2.1, ow [(.slice p0_3 s0_1.2.2.2.2.1.length c0_3)] s0_1.2.2.2.2.1, blk b1_6 [(nV i1_2)] 3, blk b1_7 [(sV b2_24 o2_1 x1_2.phis.length c1_3), v1_7, (nV x1_2.jump), (nV x1_2.on), v1_8] 104, ow [(.slice p1_2 r1_1.length c1_4)] r1_1] rfl mxo (by kernel_rfl) (fun _ _ _ h => h.2) fun w hm hS => tP rfl (fun w => yM rfl) (tP rfl (fun w => yM rfl) (tP rfl (fun w => yM rfl) (gg fun x3_2 h3_2 hx3_4 => ?_)))))))))
     obtain ⟨b3_2, o3_2, c3_2, he⟩ := idx_form (hm.ow_rep 10 rfl) hx3_4
     simp only [Value.slice.injEq, Option.some.injEq] at he; obtain ⟨rfl, _, rfl⟩ := he
     refine tP rfl (fun w => yI st_37 h3_2 (idx_lt hx3_4) rfl) (tP rfl (fun w => yF fo_57_2 rfl) (tP rfl (fun w => yM rfl) (tP rfl (fun w => yM rfl) (tP rfl (fun w => yI st_37 h3_2 (idx_lt hx3_4) rfl) (tQ rfl hS (fun w hm => yL hm 1 isAgg71 rfl) (tQ rfl hS (fun w hm => yl isAgg3 ((flat_cells (cs := [(nV x3_2)]) (hm.ow_rep 10 rfl) hx3_4 rfl).cell (j := 0) rfl) rfl) (tQ rfl hS (fun w hm => yL hm 0 isAgg55 rfl) (tO (tY rfl (yl isAgg3 ((flat_cells (cs := [(nV x3_2)]) (hm.ow_rep 10 rfl) hx3_4 rfl).cell (j := 0) rfl) rfl) (tAs hS (gg fun x3_3 h3_3 hx3_6 => ?_)))))))))))
     obtain ⟨v3_1, v3_2, v3_3, hc3_1, h3_4, h3_5, h3_6⟩ := rk_Block_ h1 hx3_6
     refine tP rfl (fun w => yI st_55 h3_3 (idx_lt hx3_6) rfl) (tP rfl (fun w => yF fo_104_1 rfl) (tO (tY rfl (yl isAgg102 ((hc3_1.mono (Heap.le_trans hle0_1 hm.lez)).cell (j := 1) rfl) rfl) (tAs hS ?_))))
     obtain ⟨p3_1, c3_3, rfl, hl3_1⟩ := ro_slice h3_5
     refine tP rfl (fun w => yV st_102 rfl) (tO (gb fun r3_1 hx3_7 => tf rfl rfl (fun a hf => e_callv hf rfl rfl rfl ⟨197, [(pV b0_1), (pV b0_4), (pV b0_2)], rfl, call197, impl_singleCode_1_ok _ x3_1 x3_2 (x3_3.ins.length : Int) c_ b0_1 (sV b1_5 o1_2 c_.blocks.length c0_4) (rep_later (hm.now (GT.mono hle0_1 h1)) (Below.refl _ _)) (hm.blk_later 0 rfl (Below.refl _ _)) s0_1.2.2.2.2.2 b0_4 (.slice p0_1 s0_1.2.2.2.2.2.length c0_1) (rep_later (hm.ow_rep 3 rfl) (Below.refl _ _)) (hm.blk_later 2 rfl (Below.refl _ _)) (⟨(⟨s0_1.1, s0_1.2.1, s0_1.2.2.1⟩ : Code_), s0_1.2.2.2.1, s0_1.2.2.2.2.1⟩ : doms) b0_2 b0_3 v0_1 (rep_later (hm.now h0_1) (Below.refl _ _)) (.slice p0_2 s0_1.2.2.2.1.length c0_2) (rep_later (hm.ow_rep 6 rfl) (Below.refl _ _)) (.slice p0_3 s0_1.2.2.2.2.1.length c0_3) (rep_later (hm.ow_rep 7 rfl) (Below.refl _ _)) (hm.blk_later 5 rfl (Below.refl _ _)) (hm.blk_later 4 rfl (Below.refl _ _)) _ hx3_7⟩) ?_))
     rintro v3_4 w ⟨rfl, hB⟩
     replace hm := hm.below' hB; clear hB
     refine tAn rfl (tP rfl (fun w => yN rfl) (tE (gsn 92 rfl (fun h3_7 => ?_) fun h3_7 => ?_)))
     ·
      refine gct rfl (gS (gR (gA rfl (gE (gRt (gLr ho2_17 hq2_1 (gLr ho1_2 hq1_3 (gLr ho0_3 hq0_3 ?_))))))))
      replace hm := hm.thaw hle0_1
      exact gr1 results133 rfl ⟨rfl, hm.below⟩
     exact gcf rfl (gSk (gR (gP (by omega) (by omega) rfl (gM rfl (gE (gze hm [0, 1, 2, 3, 4, 5, 6, 7, 8, 9, 10] rfl))))))
    repeat clear hm
    intro i2_2 xs2_2 w hm hi2_3 hi2_4
    exact gS (gR (gB rfl (gE (gS (go _ 71 rfl (decide_eq_false (by omega)) (gcf rfl (gXt (gHh (gR (gP (by omega) (by omega) rfl (gM rfl (gE (gze hm [0, 1, 2, 3, 4, 5, 6, 7, 8, 9, 10] rfl)))))))))))))
   repeat clear hm
   intro i1_3 xs1_3 w hm hi1_3 hi1_4
   refine gS (gR (gB rfl (gE (gS (go _ 64 rfl (decide_eq_false (by omega)) (gcf rfl (gXt (gHh (gS (gS (gR (gF fo_104_1 rfl (gL hm 9 isAgg102 rfl ?_)))))))))))))
   obtain ⟨p1_3, c1_5, rfl, hl1_3⟩ := ro_slice h1_7
   refine gY (yV st_102 rfl) (gM rfl (gE (gBk (gNf hm (fun i2_3 xs2_3 => [(1, (pV b0_1)), (7, (pV b0_5)), (8, (pV b1_6)), (9, (pV b1_7)), (50, (sV b1_5 o1_2 c_.blocks.length c0_4)), (51, (nV ((c_.blocks.length : Int)))), (52, (nV i1_2)), (96, (.slice p1_3 x1_2.ins.length c1_5)), (97, (nV ((x1_2.ins.length : Int)))), (98, (nV i2_3))]) (fun i2_3 xs2_3 => [blk b0_1 [(nV c_.params), (nV c_.regs), (sV b1_5 o1_2 c_.blocks.length c0_4)] 57, blk b0_5 [(.func (.func 197) #[] #[(pV b0_1), (pV b0_4), (pV b0_2)])] 71, blk b0_4 [(.slice p0_1 s0_1.2.2.2.2.2.length c0_1)] 181, ow [(.slice p0_1 s0_1.2.2.2.2.2.length c0_1)] s0_1.2.2.2.2.2, blk b0_2 [(pV b0_3)] 179, blk b0_3 [(nV s0_1.1), (nV s0_1.2.1), v0_1, (.slice p0_2 s0_1.2.2.2.1.length c0_2), (.slice p0_3 s0_1.2.2.2.2.1.length c0_3)] 185, ow [(.slice p0_2 s0_1.2.2.2.1.length c0_2)] s0_1.2.2.2.1, ow [(.slice p0_3 s0_1.2.2.2.2.1.length c0_3)] s0_1.2.2.2.2.1, blk b1_6 [(nV i1_2)] 3, blk b1_7 [(.slice p1_1 x1_2.phis.length c1_3), (.slice p1_3 x1_2.ins.length c1_5), (nV x1_2.jump), (nV x1_2.on), v1_8] 104]) [0, 1, 2, 3, 4, 5, 6, 7, 8, 9] rfl ?_ ?_))))
   ·
    repeat clear hm
    intro r1_3 hq1_4 i2_3 xs2_3 w hm hi1_5 hi1_6 q1_2 ho1_3
    refine gS (gR (gB rfl (gE (gS (go _ 99 rfl (decide_eq_true (by omega)) (gct rfl (gSk (gS (gBk (gS (gR (gM rfl (gg fun x2_2 h2_15 hx2_4 => ?_)))))))))))))
    obtain ⟨b2_26, o2_2, c2_4, he⟩ := idx_form' h1_7 hx2_4
    simp only [Value.slice.injEq, Option.some.injEq] at he; obtain ⟨rfl, _, rfl⟩ := he
    obtain ⟨v2_39, hc2_2, h2_16⟩ := rk_Ins_ h1_7 hx2_4
    refine gI st_102 h2_15 (idx_lt hx2_4) rfl (gY (yn (hc2_2.mono (Heap.le_trans hle0_1 hm.lez)) isAgg106 sizeOf106 rfl) (gAl hm zeroValue3 rfl fun b2_27 w hm => gAl hm zeroValue106 rfl fun b2_28 w hm => gS1 hm 1 sizeOf3 rfl rfl fun w hm => gSN hm 0 sizeOf106 (one_cons rfl (one_cons rfl (one_cons (rep_one h2_16) (one_cons rfl one_nil)))) rfl fun w hm => gE (gS (gR (gF fo_106_2 rfl (gL hm 0 isAgg37 rfl (gY (yU rfl) (gC hm rfl call57 (slices_ContainsFunc_S_int_int_ok _ x2_2.args v2_39 (hm.now (GT.mono hle0_1 h2_16)) (fun y0 => impl_singleCode_2 y0 c_ s0_1.2.2.2.2.2 (⟨(⟨s0_1.1, s0_1.2.1, s0_1.2.2.1⟩ : Code_), s0_1.2.2.2.1, s0_1.2.2.2.2.1⟩ : doms) i1_2 i2_3) (.func (.func 199) #[] #[(pV b0_5), (pV b1_6), (pV b2_27)]) (fun w y0 r hB hq => ⟨199, [(pV b0_5), (pV b1_6), (pV b2_27)], rfl, call199, impl_singleCode_2_ok w y0 c_ b0_1 (sV b1_5 o1_2 c_.blocks.length c0_4) (rep_later (hm.now (GT.mono hle0_1 h1)) hB) (hm.blk_later 2 rfl hB) s0_1.2.2.2.2.2 b0_4 (.slice p0_1 s0_1.2.2.2.2.2.length c0_1) (rep_later (hm.ow_rep 5 rfl) hB) (hm.blk_later 4 rfl hB) (⟨(⟨s0_1.1, s0_1.2.1, s0_1.2.2.1⟩ : Code_), s0_1.2.2.2.1, s0_1.2.2.2.2.1⟩ : doms) b0_2 b0_3 v0_1 (rep_later (hm.now h0_1) hB) (.slice p0_2 s0_1.2.2.2.1.length c0_2) (rep_later (hm.ow_rep 8 rfl) hB) (.slice p0_3 s0_1.2.2.2.2.1.length c0_3) (rep_later (hm.ow_rep 9 rfl) hB) (hm.blk_later 7 rfl hB) (hm.blk_later 6 rfl hB) b0_5 (hm.blk_later 3 rfl hB) i1_2 b1_6 (hm.blk_later 10 rfl hB) i2_3 b2_27 (hm.blk_later 1 rfl hB) r hq⟩)) fun r2_2 hx2_5 w hm => gE (gs 106 rfl (fun h2_17 => ?_) fun h2_17 => ?_)))))))))
    ·
     refine gct rfl (gS (gR (gA rfl (gE (gRt (gLr ho1_3 hq1_4 (gLr ho0_3 hq0_3 ?_)))))))
     replace hm := hm.thaw hle0_1
     exact gr1 results133 rfl ⟨rfl, hm.below⟩
    exact gcf rfl (gSk (gR (gP (by omega) (by omega) rfl (gM rfl (gE (gze hm [2, 3, 4, 5, 6, 7, 8, 9, 10, 11] rfl))))))
   repeat clear hm
   intro i1_4 xs1_4 w hm hi1_7 hi1_8
   refine gS (gR (gB rfl (gE (gS (go _ 99 rfl (decide_eq_false (by omega)) (gcf rfl (gXt (gHh (gS (gJ hm (fun s1_3 => [(1, (pV b0_1)), (7, (pV b0_5)), (50, (sV b1_5 o1_2 c_.blocks.length c0_4)), (51, (nV ((c_.blocks.length : Int)))), (52, (nV i1_2)), (121, (.bool (s1_3)))]) (fun s1_3 => [blk b0_1 [(nV c_.params), (nV c_.regs), (sV b1_5 o1_2 c_.blocks.length c0_4)] 57, blk b0_5 [(.func (.func 197) #[] #[(pV b0_1), (pV b0_4), (pV b0_2)])] 71, blk b0_4 [(.slice p0_1 s0_1.2.2.2.2.2.length c0_1)] 181, ow [(.slice p0_1 s0_1.2.2.2.2.2.length c0_1)] s0_1.2.2.2.2.2, blk b0_2 [(pV b0_3)] 179, blk b0_3 [(nV s0_1.1), (nV s0_1.2.1), v0_1, (.slice p0_2 s0_1.2.2.2.1.length c0_2), (.slice p0_3 s0_1.2.2.2.2.1.length c0_3)] 185, ow [(.slice p0_2 s0_1.2.2.2.1.length c0_2)] s0_1.2.2.2.1, ow [(.slice p0_3 s0_1.2.2.2.2.1.length c0_3)] s0_1.2.2.2.2.1]) (fun s1_3 => ?_) ?_))))))))))
   ·
    refine gR (gF fo_104_2 rfl (gL hm 9 isAgg3 rfl (gC hm rfl call144 (impl_usesOn_ok _ x1_2.jump) fun r2_3 hx2_6 w hm => gM rfl (gs 111 rfl (fun h2_18 => ?_) fun h2_18 => ?_))))
    ·
     refine gL hm 1 isAgg71 rfl (gF fo_104_3 rfl (gL hm 9 isAgg3 rfl (gL hm 8 isAgg3 rfl (gF fo_104_1 rfl (gL hm 9 isAgg102 rfl (gY (yV st_102 rfl) (gb fun r2_4 hx2_7 => gf rfl (fun a hf => e_callv hf rfl rfl rfl ⟨197, [(pV b0_1), (pV b0_4), (pV b0_2)], rfl, call197, impl_singleCode_1_ok _ x1_2.on i1_2 (x1_2.ins.length : Int) c_ b0_1 (sV b1_5 o1_2 c_.blocks.length c0_4) (rep_later (hm.now (GT.mono hle0_1 h1)) (Below.refl _ _)) (hm.blk_later 0 rfl (Below.refl _ _)) s0_1.2.2.2.2.2 b0_4 (.slice p0_1 s0_1.2.2.2.2.2.length c0_1) (rep_later (hm.ow_rep 3 rfl) (Below.refl _ _)) (hm.blk_later 2 rfl (Below.refl _ _)) (⟨(⟨s0_1.1, s0_1.2.1, s0_1.2.2.1⟩ : Code_), s0_1.2.2.2.1, s0_1.2.2.2.2.1⟩ : doms) b0_2 b0_3 v0_1 (rep_later (hm.now h0_1) (Below.refl _ _)) (.slice p0_2 s0_1.2.2.2.1.length c0_2) (rep_later (hm.ow_rep 6 rfl) (Below.refl _ _)) (.slice p0_3 s0_1.2.2.2.2.1.length c0_3) (rep_later (hm.ow_rep 7 rfl) (Below.refl _ _)) (hm.blk_later 5 rfl (Below.refl _ _)) (hm.blk_later 4 rfl (Below.refl _ _)) _ hx2_7⟩) ?_)))))))
     rintro v2_42 w ⟨rfl, hB⟩
     replace hm := hm.below' hB; clear hB
     exact gN rfl (gKt rfl (gE (gz hm [0, 1, 2, 3, 4, 5, 6, 7] rfl)))
    exact gO rfl (gO rfl (gO rfl (gO rfl (gO rfl (gO rfl (gO rfl (gO rfl (gO rfl (gKf rfl (gE (gz hm [0, 1, 2, 3, 4, 5, 6, 7] rfl)))))))))))
   repeat clear hm
   intro s1_3 w hm
   refine gs 121 rfl (fun h1_9 => ?_) fun h1_9 => ?_
   ·
    refine gct rfl (gS (gR (gA rfl (gE (gRt (gLr ho0_3 hq0_3 ?_))))))
    replace hm := hm.thaw hle0_1
    exact gr1 results133 rfl ⟨rfl, hm.below⟩
   exact gcf rfl (gSk (gR (gP (by omega) (by omega) rfl (gM rfl (gE (gze hm [0, 1, 2, 3, 4, 5, 6, 7] rfl))))))
  repeat clear hm
  intro i0_2 xs0_2 w hm hi0_7 hi0_8
  refine gS (gR (gB rfl (gE (gS (go _ 53 rfl (decide_eq_false (by omega)) (gcf rfl (gXt (gHh (gS (gR (gA rfl (gE (gRt ?_)))))))))))))
  replace hm := hm.thaw hle0_1
  exact gr1 results133 rfl ⟨rfl, hm.below⟩

theorem impl_IsSingle_1_ok (w0 : World) (c_ : Code_) (v1 : Value) (h1 : GT.rep (hp w0) [v1] c_.blocks) :
    ConM Tryz.prog 132 [(.agg #[(nV c_.params), (nV c_.regs), v1])] w0 (impl_IsSingle_1 c_) fun r v w' => v = (.bool (r)) ∧ Below w0.heap.size w0 w' := by
  unfold impl_IsSingle_1
  refine gcon func132 rfl fun r => ?_
  have hm := Mem.start w0
  exact gS (gR (gBx hm rfl fun b0_1 w hm => gA rfl (gE (gS (gR (gY (yn (hm.blk_at 0 rfl) isAgg57 sizeOf57 rfl) (gC hm rfl call133 (impl_singleCode_ok _ c_ v1 (hm.now h1)) fun r0_1 hx0_1 w hm => gN rfl (gA rfl (gE (gRt (gr1 results132 rfl ⟨rfl, hm.below⟩)))))))))))

theorem impl_IsSingle_ok (w0 : World) (u : Unit_) (v1 : Value) (h1 : GT.rep (hp w0) [v1] u.codes) :
    ConM Tryz.prog 83 [(.agg #[v1])] w0 (impl_IsSingle u) fun r v w' => v = (.bool (r)) ∧ Below w0.heap.size w0 w' := by
  unfold impl_IsSingle
  refine gcon func83 rfl fun r => ?_
  have hm := Mem.start w0
  refine gS (gR (gBx hm rfl fun b0_1 w hm => gA rfl (gE (gS (gJ hm (fun s0_1 => [(2, (.bool (s0_1)))]) (fun s0_1 => []) (fun s0_1 => ?_) ?_)))))
  ·
   refine gR (gY (yn (hm.blk_at 0 rfl) isAgg30 sizeOf30 rfl) (gC hm rfl call116 (impl_UnitValid_ok _ u v1 (hm.now h1)) fun r1_1 hx1_1 w hm => gM rfl (gs 5 rfl (fun h1_1 => ?_) fun h1_1 => ?_)))
   ·
    exact gF fo_30_0 rfl (gL hm 0 isAgg28 rfl (gC hm rfl call131 (slices_ContainsFunc_S_impl_Code_impl_Code_ok _ u.codes v1 (hm.now h1) (fun y0 => impl_IsSingle_1 y0) (.func (.func 132) #[] #[]) (fun w y0 z0_0 z0_1 r hB hq => ⟨132, [], rfl, call132, impl_IsSingle_1_ok w y0 z0_0 z0_1  r hq⟩)) fun r1_2 hx1_2 w hm => gN rfl (gKt rfl (gA rfl (gE (gz hm [] rfl))))))
   exact gO rfl (gO rfl (gO rfl (gO rfl (gKf rfl (gA rfl (gE (gz hm [] rfl)))))))
  repeat clear hm
  intro s0_1 w hm
  exact gRt (gr1 results83 rfl ⟨rfl, hm.below⟩)

theorem math_bits_Mul64_ok (w0 : World) (x_ : Int) (y_ : Int) :
    ConM Tryz.prog 263 [(.int .u64 (x_)), (.int .u64 (y_))] w0 (math_bits_Mul64 x_ y_) fun r v w' => v = (.tuple #[(.int .u64 (r.1)), (.int .u64 (r.2))]) ∧ Below w0.heap.size w0 w' := by
  unfold math_bits_Mul64
  refine gcon func263 rfl fun r => ?_
  have hm := Mem.start w0
  refine gS (gR (gA rfl (gA rfl (gE (gS (gR (gM rfl (gB rfl (gA rfl (gE (gS (gR (gM rfl (gY (yG rfl (y_shrk rfl rfl rfl (by omega))) (gA rfl (gE (gS (gR (gM rfl (gB rfl (gA rfl (gE (gS (gR (gM rfl (gY (yG rfl (y_shrk rfl rfl rfl (by omega))) (gA rfl (gE (gS (gR ?_))))))))))))))))))))))))))))))
  refine gM rfl (gM rfl (gB rfl (gA rfl (gE (gS (gR (gM rfl (gM rfl (gB rfl (gM rfl (gY (yG rfl (y_shrk rfl rfl rfl (by omega))) (gB rfl (gA rfl (gE (gS (gR (gM rfl (gB rfl (gA rfl (gE (gS (gR (gM rfl (gY (yG rfl (y_shrk rfl rfl rfl (by omega))) (gA rfl (gE (gS (gR (gM rfl (gM rfl ?_))))))))))))))))))))))))))))))
  exact gM rfl (gB rfl (gB rfl (gA rfl (gE (gS (gR (gM rfl (gM rfl (gB rfl (gM rfl (gB rfl (gM rfl (gY (yG rfl (y_shrk rfl rfl rfl (by omega))) (gB rfl (gA rfl (gE (gS (gR (gM rfl (gM rfl (gB rfl (gA rfl (gE (gRt (gr2 results263 rfl ⟨rfl, hm.below⟩)))))))))))))))))))))))))

theorem math_bits_Mul_ok (w0 : World) (x_ : Int) (y_ : Int) :
    ConM Tryz.prog 200 [(.int .u64 (x_)), (.int .u64 (y_))] w0 (math_bits_Mul x_ y_) fun r v w' => v = (.tuple #[(.int .u64 (r.1)), (.int .u64 (r.2))]) ∧ Below w0.heap.size w0 w' := by
  unfold math_bits_Mul
  refine gcon func200 rfl fun r => ?_
  have hm := Mem.start w0
  exact gS (gR (gA rfl (gA rfl (gE (gS (gcf rfl (gSk (gS (gR (gM rfl (gM rfl (gC hm rfl call263 (math_bits_Mul64_ok _ x_ y_) fun r0_1 hx0_1 w hm => gM rfl (gX rfl (gX rfl (gA rfl (gA rfl (gE (gS (gR (gM rfl (gM rfl (gA rfl (gA rfl (gE (gRt (gr2 results200 rfl ⟨rfl, hm.below⟩))))))))))))))))))))))))))

theorem slices_Repeat_S_int_int_ok (w0 : World) (x_ : List Int) (v1 : Value) (h1 : GT.rep (hp w0) [v1] x_) (count : Int) :
    ConM Tryz.prog 134 [v1, (nV count)] w0 (slices_Repeat_S_int_int x_ count) fun r v w' => ∃ (x1 : Value), v = x1 ∧ Mem w0 (hp w0) w' [ow [x1] r] := by
  unfold slices_Repeat_S_int_int
  refine gcon func134 rfl fun r => ?_
  have hm := Mem.start w0
  refine gS (gR (gA rfl (gE (gS (gS (gR (gM rfl (gB rfl (gE (gsd 10 rfl (fun h0_1 => ?_) fun h0_1 => ?_))))))))))
  ·
   exact gno
  refine gcf rfl (gSk (gS (gR (gM rfl ?_))))
  obtain ⟨p0_1, c0_1, rfl, hl0_1⟩ := ro_slice h1
  refine gY (yV st_37 rfl) (gY (yG rfl (y_conv underlying3 underlying159 rfl rfl)) (gM rfl (gY (yG rfl (y_conv underlying3 underlying159 rfl rfl)) (gC hm rfl call200 (math_bits_Mul_ok _ (IntKind.u64.wrap (x_.length : Int)) (IntKind.u64.wrap count)) fun r0_1 hx0_1 w hm => gM rfl (gX rfl (gX rfl (gA rfl (gA rfl (gE (gS (gS (gJ hm (fun s0_1 => [(0, (.slice p0_1 x_.length c0_1)), (6, (.int .u64 (r0_1.2))), (26, (.bool (s0_1)))]) (fun s0_1 => []) (fun s0_1 => ?_) ?_))))))))))))
  ·
   refine gR (gM rfl (gB rfl (gM rfl (gsd 23 rfl (fun h1_1 => ?_) fun h1_1 => ?_))))
   ·
    exact gO rfl (gO rfl (gKt rfl (gE (gz hm [] rfl))))
   exact gM rfl (gB rfl (gKf rfl (gE (gz hm [] rfl))))
  repeat clear hm
  intro s0_1 w hm
  refine gs 26 rfl (fun h0_2 => ?_) fun h0_2 => ?_
  ·
   exact gno
  refine gcf rfl (gSk (gS (gR (gM rfl (gY (yG rfl (y_conv underlying159 underlying3 rfl rfl)) (gb fun ys0_1 hx0_2 => ?_))))))
  obtain ⟨⟨h0_31, h0_32⟩, h0_3e⟩ := makeM_some.1 hx0_2
  refine gf rfl (fun a hf => e_make (x0 := (0 : Int)) et_37 (fun _ => (Flat.own_iff.2 rfl)) hf hm rfl rfl rfl h0_31 (Int.le_refl _) h0_32) ?_
  rintro v0_2 w hm
  rw [h0_3e] at hm
  have h0_3l : (ys0_1.length : Int) = IntKind.i64.wrap r0_1.2 := by rw [← h0_3e]; simp only [List.length_replicate]; omega
  refine gA rfl (gE (gS (gR (gM rfl (gM rfl (gf rfl (fun a hf => e_copy (α := Int) (xs := ys0_1) (ys := x_) (lo := 0) (hi := ys0_1.length) 0 st_37 (show 0 < 1 from by decide) hf hm rfl (hm.now h1) rfl (by rw [hm.subV_whole (α := Int) 0 rfl]; rfl) rfl (Nat.zero_le _) (Nat.le_refl _)) ?_))))))
  rintro _ w ⟨rfl, hm⟩
  refine gA rfl (gE (gS ?_))
  obtain ⟨p0_2, c0_2, rfl, hl0_2⟩ := ro_slice (hm.ow_rep 0 rfl)
  refine gJ hm (fun s0_2 => [(7, (.slice p0_2 (copyL ys0_1 x_ 0 ys0_1.length).length c0_2))]) (fun s0_2 => [ow [(.slice p0_2 (copyL ys0_1 x_ 0 ys0_1.length).length c0_2)] s0_2]) (fun s0_2 => ?_) ?_
  ·
   refine gBk (gMf hm (fun xs2_1 => [(7, (.slice p0_2 (copyL ys0_1 x_ 0 ys0_1.length).length c0_2)), (8, (nV xs2_1.2))]) (fun xs2_1 => [ow [(.slice p0_2 (copyL ys0_1 x_ 0 ys0_1.length).length c0_2)] xs2_1.1]) [0] rfl ?_)
   repeat clear hm
   intro r1_1 hq1_1 xs2_1 w hm q1_1 ho1_1
   refine gS (gS (gR (gM rfl (gM rfl ?_))))
   have hl2_1 := rep_len (hm.ow_rep 0 rfl)
   refine gY (yV st_37 rfl) (gB rfl (gE (gsd 37 rfl (fun h2_1 => ?_) fun h2_1 => ?_)))
   ·
    refine gct rfl (gSk (gBk (gW (.p 0 (.p 1 (.p 2 (.p 3 (.p 4 (.p 5 (.p 6 (.e 7 (.p 8 (.p 9 .fin)) .nil)))))))) [] [0, 1, 2, 3, 4, 5, 6, 8, 9] hm [0] [ow [(.slice p0_2 (copyL ys0_1 x_ 0 ys0_1.length).length c0_2)] xs2_1.1] rfl mxo (by kernel_rfl) (fun _ _ _ h => h.2) fun w hm hS => tP rfl (fun w => yM rfl) (tP rfl (fun w => yM rfl) (tP rfl (fun w => yM rfl) (gb fun x2_1 hx2_1 => ?_))))))
    obtain ⟨h2_2, h2_2e⟩ := subM_some.1 hx2_1
    have hr2_1 := (hm.ow_rep 0 rfl)
    obtain ⟨v2_1, hy2_1⟩ : ∃ nv, nv = subV (GT.sz (Int)) (.slice p0_2 (copyL ys0_1 x_ 0 ys0_1.length).length c0_2) (xs2_1.2 : Int).toNat ((xs2_1.1.length : Int) : Int).toNat := ⟨_, rfl⟩
    refine tP rfl (fun w => yG rfl (yl_eq hy2_1 (y_slcL (α := Int) st_37 hr2_1 rfl rfl rfl h2_2 _))) (tP rfl (fun w => yM rfl) (tP rfl (fun w => yM rfl) (gb fun x2_2 hx2_2 => ?_)))
    obtain ⟨h2_4, h2_4e⟩ := subM_some.1 hx2_2
    have hr2_2 := (hm.ow_rep 0 rfl)
    obtain ⟨v2_2, hy2_2⟩ : ∃ nv, nv = subV (GT.sz (Int)) (.slice p0_2 (copyL ys0_1 x_ 0 ys0_1.length).length c0_2) (0 : Int).toNat (xs2_1.2 : Int).toNat := ⟨_, rfl⟩
    refine tP rfl (fun w => yG rfl (yl_eq hy2_2 (y_slcH (α := Int) st_37 hr2_2 rfl rfl rfl h2_4 _))) (tO ?_)
    have hb0 := h2_2
    refine tf rfl rfl (fun a hf => e_copy (α := Int) (xs := xs2_1.1) (ys := x2_2) (lo := (xs2_1.2).toNat) (hi := ((xs2_1.1.length : Int)).toNat) 0 st_37 (show 0 < 1 from by decide) hf hm rfl (view_rep hy2_2 h2_4e h2_4 (hm.ow_rep 0 rfl)) rfl (by rw [hy2_1]; rfl) rfl (by omega) (by omega)) ?_
    rintro _ w ⟨rfl, hm⟩
    exact tAn rfl (tP rfl (fun w => yB rfl) (tP rfl (fun w => yA rfl) (tE (gze hm [0] rfl))))
   exact gcf rfl (gXt (gHh (gLp ho1_1 hq1_1 (gz hm [0] rfl))))
  repeat clear hm
  intro s0_2 w hm
  exact gS (gR (gM rfl (gA rfl (gE (gRt (gr1 results134 rfl ⟨(.slice p0_2 (copyL ys0_1 x_ 0 ys0_1.length).length c0_2), rfl, hm.pk [0] rfl rfl⟩))))))

theorem pimpl_known__phi_ok (w0 : World) (k_ : known) (bp0 : Nat) (v1p : Value) (h1p : GT.rep (hp w0) [v1p] k_.c.blocks) (v2p : Value) (h2p : GT.rep (hp w0) [v2p] k_.regs) (v3p : Value) (h3p : GT.rep (hp w0) [v3p] k_.open_) (v4p : Value) (h4p : GT.rep (hp w0) [v4p] k_.ways) (hbbp0 : (hp w0) bp0 = some (.cells ([(nV k_.c.params), (nV k_.c.regs), v1p, v2p, v3p, v4p] : List Value).toArray 90 (0, 0))) (b_ : Int) (preds : List Int) (v1 : Value) (h1 : GT.rep (hp w0) [v1] preds) (f : Phi_) (v2 : Value) (h2 : GT.rep (hp w0) [v2] f.args) :
    ConM Tryz.prog 202 [(pV bp0), (nV b_), v1, (.agg #[(nV f.to), v2])] w0 (pimpl_known__phi k_ b_ preds f) fun r v w' => v = (nV r) ∧ Below w0.heap.size w0 w' := by
  unfold pimpl_known__phi
  refine gcon func202 rfl fun r => ?_
  have hm := Mem.start w0
  refine gS (gR (gBx hm rfl fun b0_1 w hm => gA rfl (gE (gS (gR (gA rfl (gE (gS (gS (gR (gF fo_143_1 rfl (gL hm 0 isAgg37 rfl ?_))))))))))))
  obtain ⟨p0_1, c0_1, rfl, hl0_1⟩ := ro_slice h2
  refine gY (yV st_37 rfl) (gM rfl (gE (gBk (gNf hm (fun i1_1 xs1_1 => [(0, (pV bp0)), (1, (nV b_)), (2, v1), (9, (nV xs1_1)), (14, (.slice p0_1 f.args.length c0_1)), (15, (nV ((f.args.length : Int)))), (16, (nV i1_1))]) (fun i1_1 xs1_1 => []) [] rfl ?_ ?_))))
  ·
   repeat clear hm
   intro _ _ i1_1 xs1_1 w hm hi0_1 hi0_2 q0_1 _
   refine gS (gR (gB rfl (gE (gS (go _ 17 rfl (decide_eq_true (by omega)) (gct rfl (gSk (gS (gBk (gS (gR (gM rfl (gg fun x1_1 h1_1 hx1_2 => ?_)))))))))))))
   obtain ⟨b1_1, o1_1, c1_1, he⟩ := idx_form h2 hx1_2
   simp only [Value.slice.injEq, Option.some.injEq] at he; obtain ⟨rfl, _, rfl⟩ := he
   refine gI st_37 h1_1 (idx_lt hx1_2) rfl (gY (yl isAgg3 ((flat_cells (cs := [(nV x1_1)]) (hm.now h2) hx1_2 rfl).cell (j := 0) rfl) rfl) (gA rfl (gA rfl (gE (gS (gR (gM rfl (gY (yG rfl (y_nilptr rfl rfl)) (gF fo_90_1 rfl (gY (yl isAgg37 (hm.hz_cell hbbp0 rfl) rfl) (gM rfl (gg fun x1_2 h1_2 hx1_4 => ?_))))))))))))
   obtain ⟨b1_2, o1_2, c1_2, he⟩ := idx_form h2p hx1_4
   subst he
   refine gI st_37 h1_2 (idx_lt hx1_4) rfl (gY (yl isAgg3 ((flat_cells (cs := [(nV x1_2)]) (hm.now h2p) hx1_4 rfl).cell (j := 0) rfl) rfl) (gA rfl (gE (gJ hm (fun s1_1 => [(0, (pV bp0)), (1, (nV b_)), (2, v1), (9, (nV s1_1)), (14, (sV b1_1 o1_1 f.args.length c0_1)), (15, (nV ((f.args.length : Int)))), (16, (nV i1_1))]) (fun s1_1 => []) (fun s1_1 => ?_) ?_))))
   ·
    refine gBk (gS (gJ hm (fun s2_1 => [(0, (pV bp0)), (1, (nV b_)), (2, v1), (9, (nV xs1_1)), (12, (nV x1_2)), (14, (sV b1_1 o1_1 f.args.length c0_1)), (15, (nV ((f.args.length : Int)))), (16, (nV i1_1)), (28, (.bool (s2_1)))]) (fun s2_1 => []) (fun s2_1 => ?_) ?_))
    ·
     refine gW (.p 0 (.p 1 (.p 2 (.p 4 (.p 5 (.p 6 (.p 8 (.q 3 (.e 7 (.p 9 (.e 10 (.p 11 (.p 12 (.p 13 (.p 14 (.p 15 (.p 16 .fin)))))) .nil)) .nil))))))))) [7] [0, 1, 2, 4, 5, 6, 8, 9, 11, 12, 13, 14, 15, 16] hm [] [] rfl mxo (by kernel_rfl) (fun _ _ _ h => h.2) fun w hm hS => tP rfl (fun w => yM rfl) (tP rfl (fun w => yG rfl (y_nilptr rfl rfl)) (tP rfl (fun w => yF fo_90_3 rfl) (tP rfl (fun w => yM rfl) (tP rfl (fun w => yM rfl) (gg fun x3_1 h3_1 hx3_2 => ?_)))))
     obtain ⟨b3_1, o3_1, c3_1, he⟩ := idx_form h1 hx3_2
     subst he
     refine tP rfl (fun w => yI st_37 h3_1 (idx_lt hx3_2) rfl) (tP rfl (fun w => yM rfl) (tQ rfl hS (fun w hm => yl isAgg88 (hm.hz_cell hbbp0 rfl) rfl) (tO (tY rfl (yl isAgg3 ((flat_cells (cs := [(nV x3_1)]) (hm.now h1) hx3_2 rfl).cell (j := 0) rfl) rfl) (tAs hS (tP rfl (fun w => yG rfl (y_build (vs := [(0, (nV x3_1)), (1, (nV b_))]) (cs := #[(nV x3_1), (nV b_)]) rfl rfl (by kernel_rfl))) (tO (tY rfl (yG rfl (y_lookPB (key := (x3_1, b_)) (m := k_.ways) pk_240 underlying88 zeroValue4 (hm.now h4p) rfl rfl rfl)) (tAn rfl (tP rfl (fun w => yN rfl) (tP rfl (fun w => yM rfl) (gsn 41 rfl (fun h3_2 => ?_) fun h3_2 => ?_))))))))))))
     ·
      exact tPo rfl rfl (tPo rfl rfl (tP rfl (fun w => yKt rfl) (tP rfl (fun w => yA rfl) (tE (gz hm [] rfl)))))
     exact tP rfl (fun w => yM rfl) (tP rfl (fun w => yB rfl) (tP rfl (fun w => yKf rfl) (tP rfl (fun w => yA rfl) (tE (gz hm [] rfl)))))
    repeat clear hm
    intro s2_1 w hm
    refine gJ hm (fun s2_2 => [(0, (pV bp0)), (1, (nV b_)), (2, v1), (9, (nV s2_2)), (14, (sV b1_1 o1_1 f.args.length c0_1)), (15, (nV ((f.args.length : Int)))), (16, (nV i1_1))]) (fun s2_2 => []) (fun s2_2 => ?_) ?_
    ·
     refine gs 28 rfl (fun h3_3 => ?_) fun h3_3 => ?_
     ·
      exact gct rfl (gSk (gz hm [] rfl))
     refine gcf rfl (gS (gR (gM rfl (gB rfl (gA rfl (gE (gJ hm (fun s3_1 => [(0, (pV bp0)), (1, (nV b_)), (2, v1), (9, (nV s3_1)), (14, (sV b1_1 o1_1 f.args.length c0_1)), (15, (nV ((f.args.length : Int)))), (16, (nV i1_1))]) (fun s3_1 => []) (fun s3_1 => ?_) ?_)))))))
     ·
      refine gsd 45 rfl (fun h4_1 => ?_) fun h4_1 => ?_
      ·
       exact gct rfl (gR (gM rfl (gA rfl (gE (gz hm [] rfl)))))
      refine gcf rfl (gS (gR (gM rfl (gM rfl (gB rfl (gA rfl (gE (gJ hm (fun s4_1 => [(0, (pV bp0)), (1, (nV b_)), (2, v1), (9, (nV s4_1)), (14, (sV b1_1 o1_1 f.args.length c0_1)), (15, (nV ((f.args.length : Int)))), (16, (nV i1_1))]) (fun s4_1 => []) (fun s4_1 => ?_) ?_))))))))
      ·
       refine gsd 49 rfl (fun h5_1 => ?_) fun h5_1 => ?_
       ·
        exact gct rfl (gR (gA rfl (gE (gz hm [] rfl))))
       exact gcf rfl (gSk (gz hm [] rfl))
      repeat clear hm
      intro s4_1 w hm
      exact gz hm [] rfl
     repeat clear hm
     intro s3_1 w hm
     exact gz hm [] rfl
    repeat clear hm
    intro s2_2 w hm
    exact gz hm [] rfl
   repeat clear hm
   intro s1_1 w hm
   exact gR (gP (by omega) (by omega) rfl (gM rfl (gE (gze hm [] rfl))))
  repeat clear hm
  intro i0_1 xs0_1 w hm hi0_3 hi0_4
  exact gS (gR (gB rfl (gE (gS (go _ 17 rfl (decide_eq_false (by omega)) (gcf rfl (gXt (gHh (gS (gR (gM rfl (gA rfl (gE (gRt (gr1 results202 rfl ⟨rfl, hm.below⟩)))))))))))))))

theorem pimpl_known__become_ok (w0 : World) (hz : Heap) (k_ : known) (bp0 : Nat) (v1p : Value) (h1p : GT.rep hz [v1p] k_.c.blocks) (v2p : Value) (v3p : Value) (v4p : Value) (r_ : Int) (n_ : Int) (hm0 : Mem w0 hz w0 [blk bp0 [(nV k_.c.params), (nV k_.c.regs), v1p, v2p, v3p, v4p] 90, ow [v2p] k_.regs, ow [v3p] k_.open_, owp v4p k_.ways]) :
    ConM Tryz.prog 201 [(pV bp0), (nV r_), (nV n_)] w0 (pimpl_known__become k_ r_ n_) fun r v w' => ∃ (x2 : Value) (x3 : Value) (x4 : Value), v = (.bool (r.1)) ∧ Mem w0 hz w' [blk bp0 [(nV r.2.c.params), (nV r.2.c.regs), v1p, x2, x3, x4] 90, ow [x2] r.2.regs, ow [x3] r.2.open_, owp x4 r.2.ways] := by
  unfold pimpl_known__become
  refine gcon func201 rfl fun r => ?_
  have hm := hm0
  refine gS (gR (gA rfl (gE (gS (gR (gM rfl (gY (yG rfl (y_nilptr rfl rfl)) (gF fo_90_1 rfl (gL hm 0 isAgg37 rfl (gM rfl (gg fun x0_1 h0_1 hx0_2 => ?_)))))))))))
  obtain ⟨b0_1, o0_1, c0_1, he⟩ := idx_form (hm.ow_rep 1 rfl) hx0_2
  subst he
  refine gI st_37 h0_1 (idx_lt hx0_2) rfl (gY (yl isAgg3 ((flat_cells (cs := [(nV x0_1)]) (hm.ow_rep 1 rfl) hx0_2 rfl).cell (j := 0) rfl) rfl) (gA rfl (gE (gS (gR (gM rfl (gY (yG rfl (y_nilptr rfl rfl)) (gF fo_90_1 rfl (gL hm 0 isAgg37 rfl (gM rfl (gM rfl (gI st_37 h0_1 (idx_lt hx0_2) rfl (gf0 rfl (fun a hf => e_setElem (x1 := n_) (j := 0) (vs := [(nV n_)]) 1 hf hm rfl hx0_2 rfl sizeOf3 rfl rfl rfl (one_cons rfl one_nil) rfl rfl) ?_)))))))))))))
  rintro _ w hm
  have hx0_3 := List.getElem?_set_self (a := n_) (idx_lt hx0_2)
  exact gE (gS (gR (gM rfl (gM rfl (gB rfl (gA rfl (gE (gRt (gr1 results201 rfl ⟨(sV b0_1 o0_1 k_.regs.length c0_1), v3p, v4p, rfl, hm.pk [0, 1, 2, 3] rfl rfl⟩)))))))))

theorem pimpl_known__ins_1_ok (w0 : World) (r_ : Int) (c0_ : known) (bpc0 : Nat) (bpd0 : Nat) (v1p : Value) (h1p : GT.rep (hp w0) [v1p] c0_.c.blocks) (v2p : Value) (h2p : GT.rep (hp w0) [v2p] c0_.regs) (v3p : Value) (h3p : GT.rep (hp w0) [v3p] c0_.open_) (v4p : Value) (h4p : GT.rep (hp w0) [v4p] c0_.ways) (hbbpd0 : (hp w0) bpd0 = some (.cells ([(nV c0_.c.params), (nV c0_.c.regs), v1p, v2p, v3p, v4p] : List Value).toArray 90 (0, 0))) (hbbpc0 : (hp w0) bpc0 = some (.cells ([(pV bpd0)] : List Value).toArray 91 (0, 0))) :
    ConM Tryz.prog 264 [(nV r_), (pV bpc0)] w0 (pimpl_known__ins_1 r_ c0_) fun r v w' => v = (nV r) ∧ Below w0.heap.size w0 w' := by
  unfold pimpl_known__ins_1
  refine gcon func264 rfl fun r => ?_
  have hm := Mem.start w0
  refine gS (gR (gA rfl (gE (gS (gR (gY (yl isAgg91 (hm.hz_cell hbbpc0 rfl) rfl) (gY (yG rfl (y_nilptr rfl rfl)) (gF fo_90_1 rfl (gY (yl isAgg37 (hm.hz_cell hbbpd0 rfl) rfl) (gM rfl (gg fun x0_1 h0_1 hx0_2 => ?_)))))))))))
  obtain ⟨b0_1, o0_1, c0_1, he⟩ := idx_form h2p hx0_2
  subst he
  exact gI st_37 h0_1 (idx_lt hx0_2) rfl (gY (yl isAgg3 ((flat_cells (cs := [(nV x0_1)]) (hm.now h2p) hx0_2 rfl).cell (j := 0) rfl) rfl) (gA rfl (gE (gRt (gr1 results264 rfl ⟨rfl, hm.below⟩)))))

theorem impl_mapped_int_int_ok (w0 : World) (list : List Int) (v1 : Value) (h1 : GT.rep (hp w0) [v1] list) (f : Int → Option Int) (fv1 : Value) (hfn1 : ∀ (w : World) (y0 : Int) (r : Int), Below w0.heap.size w0 w → f y0 = some r → FnOk Tryz.prog fv1 [(nV y0)] w (fun v w' => v = (nV r) ∧ Below w.heap.size w w')) :
    ConM Tryz.prog 178 [v1, fv1] w0 (impl_mapped_int_int list f) fun r v w' => ∃ (x1 : Value), v = x1 ∧ Mem w0 (hp w0) w' [ow [x1] r] := by
  unfold impl_mapped_int_int
  refine gcon func178 rfl fun r => ?_
  have hm := Mem.start w0
  refine gS (gR (gA rfl (gE (gS (gR (gA rfl (gE (gS (gS (gR (gM rfl ?_)))))))))))
  obtain ⟨p0_1, c0_1, rfl, hl0_1⟩ := ro_slice h1
  refine gY (yV st_37 rfl) (gM rfl (gE (gBk ?_)))
  replace hm := hm.nilow (α := Int)
  refine gNg (fun i1_1 xs1_1 a w => ∃ (v1_1 : Value), St 22 [(1, fv1), (5, v1_1), (8, (.slice p0_1 list.length c0_1)), (9, (nV ((list.length : Int)))), (10, (nV i1_1))] w0 (hp w0) [ow [v1_1] xs1_1] a w) (fun a hf => ⟨(.slice none 0 0), hf.sb rfl, hm.pk [0] rfl rfl⟩) ?_ ?_
  ·
   repeat clear hm
   rintro _ _ i1_1 xs1_1 a w ⟨v1_1, hf, hm⟩ hi0_1 hi0_2 q0_1 _
   refine gv hf (gS (gR (gB rfl (gE (gS (go _ 11 rfl (decide_eq_true (by omega)) (gct rfl (gSk (gS (gBk (gS (gR (gg fun x1_1 h1_1 hx1_2 => ?_)))))))))))))
   obtain ⟨b1_1, o1_1, c1_1, he⟩ := idx_form h1 hx1_2
   simp only [Value.slice.injEq, Option.some.injEq] at he; obtain ⟨rfl, _, rfl⟩ := he
   refine gI st_37 h1_1 (idx_lt hx1_2) rfl (gY (yl isAgg3 ((flat_cells (cs := [(nV x1_1)]) (hm.now h1) hx1_2 rfl).cell (j := 0) rfl) rfl) (gA rfl (gE (gR (gM rfl (gM rfl (gM rfl (gb fun r1_1 hx1_3 => gf rfl (fun a hf => e_callv hf rfl rfl rfl (hfn1 _ x1_1 _ hm.below hx1_3)) ?_))))))))
   rintro v1_2 w ⟨rfl, hB⟩
   replace hm := hm.below' hB; clear hB
   refine gf rfl (fun a hf => e_build (vs := #[(0, (nV r1_1))]) (cs := [(nV r1_1)]) et_37 hf hm rfl rfl (by kernel_rfl) rfl rfl) ?_
   rintro _ w ⟨b1_2, rfl, hm⟩
   replace hm := hm.lit (xs := ([r1_1] : List Int)) 0 rfl rfl rfl rfl
   refine gb fun ys1_1 hx1_4 => ?_
   obtain ⟨h1_2, h1_2e⟩ := appM_some.1 hx1_4
   refine gf rfl (fun a hf => e_append 1 et_37 hf hm rfl (hm.ow_rep 0 rfl) rfl rfl rfl h1_2) ?_
   rintro v1_3 w hm
   rw [h1_2e] at hm
   exact gA rfl (gE (gR (gP (by omega) (by omega) rfl (gM rfl (gE (gZe fun a hf => ⟨v1_3, hf.sb rfl, hm.pk [1] rfl rfl⟩))))))
  repeat clear hm
  rintro i0_1 xs0_1 a w ⟨v0_1, hf, hm⟩ hi0_3 hi0_4
  exact gv hf (gS (gR (gB rfl (gE (gS (go _ 11 rfl (decide_eq_false (by omega)) (gcf rfl (gXt (gHh (gS (gR (gM rfl (gA rfl (gE (gRt (gr1 results178 rfl ⟨v0_1, rfl, hm.pk [0] rfl rfl⟩))))))))))))))))

theorem impl_arith_1_ok (w0 : World) (yes : Bool) :
    ConM Tryz.prog 314 [(.bool (yes))] w0 (impl_arith_1 yes) fun r v w' => v = (nV r) ∧ Below w0.heap.size w0 w' := by
  unfold impl_arith_1
  refine gcon func314 rfl fun r => ?_
  have hm := Mem.start w0
  refine gS (gR (gA rfl (gE (gS (gS (gR (gM rfl (gE (gs 3 rfl (fun h0_1 => ?_) fun h0_1 => ?_)))))))))
  ·
   exact gct rfl (gS (gR (gA rfl (gE (gRt (gr1 results314 rfl ⟨rfl, hm.below⟩))))))
  exact gcf rfl (gSk (gS (gR (gA rfl (gE (gRt (gr1 results314 rfl ⟨rfl, hm.below⟩)))))))

theorem impl_arith_ok (w0 : World) (op : Int) (a_ : Int) (b_ : Int) :
    ConM Tryz.prog 300 [(nV op), (nV a_), (nV b_)] w0 (impl_arith op a_ b_) fun r v w' => v = (.tuple #[(nV r.1), (.bool (r.2))]) ∧ Below w0.heap.size w0 w' := by
  unfold impl_arith
  refine gcon func300 rfl fun r => ?_
  have hm := Mem.start w0
  refine gS (gR (gA rfl (gA rfl (gE (gS (gR (gA rfl (gE (gS (gS (gR (gM rfl (gE (gBk (gS (gR (gB rfl (gA rfl (gE (gsd 10 rfl (fun h0_1 => ?_) fun h0_1 => ?_))))))))))))))))))))
  ·
   exact gct rfl (gS (gR (gM rfl (gM rfl (gB rfl (gY (yG rfl (y_rem rfl rfl rfl (by decide))) (gA rfl (gA rfl (gE (gRt (gr2 results300 rfl ⟨rfl, hm.below⟩)))))))))))
  refine gcf rfl (gS (gR (gB rfl (gA rfl (gE (gsd 16 rfl (fun h0_2 => ?_) fun h0_2 => ?_))))))
  ·
   exact gct rfl (gS (gR (gM rfl (gM rfl (gB rfl (gB rfl (gY (yG rfl (y_rem rfl rfl rfl (by decide))) (gA rfl (gA rfl (gE (gRt (gr2 results300 rfl ⟨rfl, hm.below⟩))))))))))))
  refine gcf rfl (gS (gR (gB rfl (gA rfl (gE (gsd 23 rfl (fun h0_3 => ?_) fun h0_3 => ?_))))))
  ·
   exact gct rfl (gS (gR (gM rfl (gM rfl (gB rfl (gY (yG rfl (y_rem rfl rfl rfl (by decide))) (gA rfl (gA rfl (gE (gRt (gr2 results300 rfl ⟨rfl, hm.below⟩)))))))))))
  refine gcf rfl (gS (gS (gR (gB rfl (gA rfl (gE (gJ hm (fun s0_1 => [(0, (nV op)), (1, (nV a_)), (2, (nV b_)), (8, (.func (.func 314) #[] #[])), (9, (nV op)), (29, (.bool (s0_1)))]) (fun s0_1 => []) (fun s0_1 => ?_) ?_)))))))
  ·
   refine gsd 29 rfl (fun h1_1 => ?_) fun h1_1 => ?_
   ·
    exact gct rfl (gSk (gz hm [] rfl))
   exact gcf rfl (gR (gB rfl (gA rfl (gE (gz hm [] rfl)))))
  repeat clear hm
  intro s0_1 w hm
  refine gs 29 rfl (fun h0_4 => ?_) fun h0_4 => ?_
  ·
   refine gct rfl (gS (gS (gR (gM rfl (gB rfl (gE (gsd 33 rfl (fun h0_5 => ?_) fun h0_5 => ?_)))))))
   ·
    exact gct rfl (gS (gR (gA rfl (gA rfl (gE (gRt (gr2 results300 rfl ⟨rfl, hm.below⟩)))))))
   refine gcf rfl (gSk (gS (gS (gR (gM rfl (gB rfl (gE (gsd 35 rfl (fun h0_6 => ?_) fun h0_6 => ?_))))))))
   ·
    refine gct rfl (gS (gR (gM rfl (gM rfl (gb fun q0_1 hx0_1 => ?_)))))
    obtain ⟨h0_7, rfl⟩ := quoM_some.1 hx0_1
    exact gY (yG rfl (y_quo rfl rfl rfl h0_7)) (gA rfl (gA rfl (gE (gRt (gr2 results300 rfl ⟨rfl, hm.below⟩)))))
   refine gcf rfl (gSk (gS (gR (gM rfl (gM rfl (gb fun q0_2 hx0_2 => ?_))))))
   obtain ⟨h0_8, rfl⟩ := remM_some.1 hx0_2
   exact gY (yG rfl (y_rem rfl rfl rfl h0_8)) (gA rfl (gA rfl (gE (gRt (gr2 results300 rfl ⟨rfl, hm.below⟩)))))
  refine gcf rfl (gS (gR (gB rfl (gA rfl (gE (gsd 42 rfl (fun h0_9 => ?_) fun h0_9 => ?_))))))
  ·
   refine gct rfl (gS (gR (gM rfl (gM rfl (gM rfl (gB rfl (gb fun r0_1 hx0_3 => gf rfl (fun a hf => e_callv hf rfl rfl rfl ⟨314, [], rfl, call314, impl_arith_1_ok _ (decide (a_ < b_)) _ hx0_3⟩) ?_)))))))
   rintro v0_1 w ⟨rfl, hB⟩
   replace hm := hm.below' hB; clear hB
   exact gA rfl (gA rfl (gE (gRt (gr2 results300 rfl ⟨rfl, hm.below⟩))))
  refine gcf rfl (gS (gR (gB rfl (gA rfl (gE (gsd 49 rfl (fun h0_10 => ?_) fun h0_10 => ?_))))))
  ·
   refine gct rfl (gS (gR (gM rfl (gM rfl (gM rfl (gB rfl (gb fun r0_2 hx0_4 => gf rfl (fun a hf => e_callv hf rfl rfl rfl ⟨314, [], rfl, call314, impl_arith_1_ok _ (decide (a_ = b_)) _ hx0_4⟩) ?_)))))))
   rintro v0_2 w ⟨rfl, hB⟩
   replace hm := hm.below' hB; clear hB
   exact gA rfl (gA rfl (gE (gRt (gr2 results300 rfl ⟨rfl, hm.below⟩))))
  refine gcf rfl (gS (gR (gB rfl (gA rfl (gE (gsd 56 rfl (fun h0_11 => ?_) fun h0_11 => ?_))))))
  ·
   refine gct rfl (gS (gJ hm (fun s0_2 => [(6, (nV s0_2)), (7, (.bool (true)))]) (fun s0_2 => []) (fun s0_2 => ?_) ?_))
   ·
    refine gR (gM rfl (gM rfl (gB rfl (gM rfl (gsd 61 rfl (fun h1_2 => ?_) fun h1_2 => ?_)))))
    ·
     refine gM rfl (gB rfl (gKt rfl (gb fun r1_1 hx1_1 => gf rfl (fun a hf => e_callv hf rfl rfl rfl ⟨314, [], rfl, call314, impl_arith_1_ok _ (decide (b_ ≠ 0)) _ hx1_1⟩) ?_)))
     rintro v1_1 w ⟨rfl, hB⟩
     replace hm := hm.below' hB; clear hB
     exact gA rfl (gA rfl (gE (gz hm [] rfl)))
    refine gO rfl (gO rfl (gKf rfl (gb fun r1_2 hx1_2 => gf rfl (fun a hf => e_callv hf rfl rfl rfl ⟨314, [], rfl, call314, impl_arith_1_ok _ false _ hx1_2⟩) ?_)))
    rintro v1_2 w ⟨rfl, hB⟩
    replace hm := hm.below' hB; clear hB
    exact gA rfl (gA rfl (gE (gz hm [] rfl)))
   repeat clear hm
   intro s0_2 w hm
   exact gRt (gr2 results300 rfl ⟨rfl, hm.below⟩)
  refine gcf rfl (gSk (gS (gR (gM rfl (gM rfl (gB rfl (gb fun r0_3 hx0_5 => gf rfl (fun a hf => e_callv hf rfl rfl rfl ⟨314, [], rfl, call314, impl_arith_1_ok _ (decide (a_ = 0)) _ hx0_5⟩) ?_)))))))
  rintro v0_3 w ⟨rfl, hB⟩
  replace hm := hm.below' hB; clear hB
  exact gA rfl (gA rfl (gE (gRt (gr2 results300 rfl ⟨rfl, hm.below⟩))))

theorem impl_DoIns_ok (w0 : World) (op : Int) (a_ : Int) (b_ : Int) :
    ConM Tryz.prog 265 [(nV op), (nV a_), (nV b_)] w0 (impl_DoIns op a_ b_) fun r v w' => v = (.tuple #[(nV r.1), (nV r.2)]) ∧ Below w0.heap.size w0 w' := by
  unfold impl_DoIns
  refine gcon func265 rfl fun r => ?_
  have hm := Mem.start w0
  refine gS (gR (gA rfl (gA rfl (gE (gS (gS (gJ hm (fun s0_1 => [(0, (nV op)), (1, (nV a_)), (2, (nV b_)), (19, (.bool (s0_1)))]) (fun s0_1 => []) (fun s0_1 => ?_) ?_)))))))
  ·
   refine gR (gM rfl (gC hm rfl call282 (impl_isByte_ok _ a_) fun r1_1 hx1_1 w hm => gN rfl (gM rfl (gsn 15 rfl (fun h1_1 => ?_) fun h1_1 => ?_))))
   ·
    exact gO rfl (gO rfl (gO rfl (gKt rfl (gE (gz hm [] rfl)))))
   exact gM rfl (gC hm rfl call282 (impl_isByte_ok _ b_) fun r1_2 hx1_2 w hm => gN rfl (gKf rfl (gE (gz hm [] rfl))))
  repeat clear hm
  intro s0_1 w hm
  refine gs 19 rfl (fun h0_1 => ?_) fun h0_1 => ?_
  ·
   exact gct rfl (gS (gR (gA rfl (gA rfl (gE (gRt (gr2 results265 rfl ⟨rfl, hm.below⟩)))))))
  refine gcf rfl (gSk (gS (gBk (gS (gS (gR (gM rfl (gB rfl (gA rfl (gE (gJ hm (fun s0_2 => [(0, (nV op)), (1, (nV a_)), (2, (nV b_)), (20, (.bool (s0_2)))]) (fun s0_2 => []) (fun s0_2 => ?_) ?_)))))))))))
  ·
   refine gsd 20 rfl (fun h1_2 => ?_) fun h1_2 => ?_
   ·
    exact gct rfl (gSk (gz hm [] rfl))
   exact gcf rfl (gR (gM rfl (gB rfl (gA rfl (gE (gz hm [] rfl))))))
  repeat clear hm
  intro s0_2 w hm
  refine gs 20 rfl (fun h0_2 => ?_) fun h0_2 => ?_
  ·
   exact gct rfl (gS (gR (gM rfl (gA rfl (gA rfl (gE (gRt (gr2 results265 rfl ⟨rfl, hm.below⟩))))))))
  refine gcf rfl (gS (gR (gM rfl (gB rfl (gA rfl (gE (gsd 26 rfl (fun h0_3 => ?_) fun h0_3 => ?_)))))))
  ·
   exact gct rfl (gS (gR (gM rfl (gC hm rfl call300 (impl_arith_ok _ 11 a_ 0) fun r0_1 hx0_1 w hm => gM rfl (gX rfl (gX rfl (gA rfl (gA rfl (gE (gS (gR (gM rfl (gA rfl (gA rfl (gE (gRt (gr2 results265 rfl ⟨rfl, hm.below⟩)))))))))))))))))
  refine gcf rfl (gS (gR (gM rfl (gC hm rfl call63 (impl_within_ok _ op 3 9) fun r0_2 hx0_2 w hm => gA rfl (gE (gs 35 rfl (fun h0_4 => ?_) fun h0_4 => ?_))))))
  ·
   refine gct rfl (gS (gR (gM rfl (gM rfl (gM rfl (gC hm rfl call300 (impl_arith_ok _ op a_ b_) fun r0_3 hx0_3 w hm => gM rfl (gX rfl (gX rfl (gA rfl (gA rfl (gE (gS (gS (gR (gM rfl (gN rfl (gE (gsn 46 rfl (fun h0_5 => ?_) fun h0_5 => ?_))))))))))))))))))
   ·
    exact gct rfl (gS (gR (gA rfl (gA rfl (gE (gRt (gr2 results265 rfl ⟨rfl, hm.below⟩)))))))
   exact gcf rfl (gSk (gS (gR (gM rfl (gA rfl (gA rfl (gE (gRt (gr2 results265 rfl ⟨rfl, hm.below⟩)))))))))
  exact gcf rfl (gSk (gS (gR (gA rfl (gA rfl (gE (gRt (gr2 results265 rfl ⟨rfl, hm.below⟩))))))))

theorem pimpl_known__ins_ok (w0 : World) (k_ : known) (bp0 : Nat) (v1p : Value) (h1p : GT.rep (hp w0) [v1p] k_.c.blocks) (v2p : Value) (h2p : GT.rep (hp w0) [v2p] k_.regs) (v3p : Value) (h3p : GT.rep (hp w0) [v3p] k_.open_) (v4p : Value) (h4p : GT.rep (hp w0) [v4p] k_.ways) (hbbp0 : (hp w0) bp0 = some (.cells ([(nV k_.c.params), (nV k_.c.regs), v1p, v2p, v3p, v4p] : List Value).toArray 90 (0, 0))) (x_ : Ins_) (v1 : Value) (h1 : GT.rep (hp w0) [v1] x_.args) :
    ConM Tryz.prog 203 [(pV bp0), (.agg #[(nV x_.op), (nV x_.to), v1, (nV x_.n_)])] w0 (pimpl_known__ins k_ x_) fun r v w' => v = (nV r) ∧ Below w0.heap.size w0 w' := by
  unfold pimpl_known__ins
  refine gcon func203 rfl fun r => ?_
  have hm := Mem.start w0
  refine gS (gR (gBx hm rfl fun b0_1 w hm => gBx hm rfl fun b0_2 w hm => gA rfl (gE (gS (gBk (gS (gR (gF fo_106_0 rfl (gL hm 0 isAgg3 rfl (gB rfl (gA rfl (gE (gsd 8 rfl (fun h0_1 => ?_) fun h0_1 => ?_)))))))))))))
  ·
   exact gct rfl (gS (gR (gF fo_106_3 rfl (gL hm 0 isAgg3 rfl (gA rfl (gE (gRt (gr1 results203 rfl ⟨rfl, hm.below⟩))))))))
  refine gcf rfl (gS (gR (gF fo_106_0 rfl (gL hm 0 isAgg3 rfl (gB rfl (gA rfl (gE (gsd 14 rfl (fun h0_2 => ?_) fun h0_2 => ?_))))))))
  ·
   refine gct rfl (gS (gW (.p 4 (.q 0 (.p 1 (.p 2 (.q 3 (.e 5 (.p 6 (.e 7 (.p 8 (.e 9 (.p 10 .fin) .nil)) .nil)) .nil)))))) [5, 7] [1, 2, 4, 6, 8, 10] hm [0, 1] [blk b0_2 [(nV x_.op), (nV x_.to), v1, (nV x_.n_)] 106, blk b0_1 [(pV bp0)] 91] rfl mxo (by kernel_rfl) (fun _ _ _ h => h.2) fun w hm hS => tP rfl (fun w => yF fo_106_2 rfl) (tQ rfl hS (fun w hm => yL hm 1 isAgg91 rfl) (tP rfl (fun w => yG rfl (y_nilptr rfl rfl)) (tP rfl (fun w => yF fo_90_1 rfl) (tQ rfl hS (fun w hm => yl isAgg37 (hm.hz_cell hbbp0 rfl) rfl) (tO (tY rfl (yL hm 0 isAgg37 rfl) (tAs hS (gg fun x0_1 h0_3 hx0_2 => ?_))))))))))
   obtain ⟨b0_3, o0_1, c0_1, he⟩ := idx_form h1 hx0_2
   subst he
   refine tP rfl (fun w => yI st_37 h0_3 (idx_lt hx0_2) rfl) (tO (tY rfl (yl isAgg3 ((flat_cells (cs := [(nV x0_1)]) (hm.now h1) hx0_2 rfl).cell (j := 0) rfl) rfl) (tAs hS (gg fun x0_2 h0_4 hx0_4 => ?_))))
   obtain ⟨b0_4, o0_2, c0_2, he⟩ := idx_form h2p hx0_4
   subst he
   exact tP rfl (fun w => yI st_37 h0_4 (idx_lt hx0_4) rfl) (tO (tY rfl (yl isAgg3 ((flat_cells (cs := [(nV x0_2)]) (hm.now h2p) hx0_4 rfl).cell (j := 0) rfl) rfl) (tAn rfl (tP rfl (fun w => yA rfl) (tE (gRt (gr1 results203 rfl ⟨rfl, hm.below⟩)))))))
  refine gcf rfl (gS (gS (gR (gF fo_106_0 rfl (gL hm 0 isAgg3 rfl (gB rfl (gA rfl (gE (gJ hm (fun s0_1 => [(2, (pV b0_1)), (3, (pV b0_2)), (28, (.bool (s0_1)))]) (fun s0_1 => [blk b0_1 [(pV bp0)] 91, blk b0_2 [(nV x_.op), (nV x_.to), v1, (nV x_.n_)] 106]) (fun s0_1 => ?_) ?_)))))))))
  ·
   refine gsd 28 rfl (fun h1_1 => ?_) fun h1_1 => ?_
   ·
    exact gct rfl (gSk (gz hm [1, 0] rfl))
   exact gcf rfl (gR (gF fo_106_0 rfl (gL hm 0 isAgg3 rfl (gB rfl (gA rfl (gE (gz hm [1, 0] rfl)))))))
  repeat clear hm
  intro s0_1 w hm
  refine gs 28 rfl (fun h0_5 => ?_) fun h0_5 => ?_
  ·
   exact gct rfl (gS (gR (gA rfl (gE (gRt (gr1 results203 rfl ⟨rfl, hm.below⟩))))))
  refine gcf rfl (gSk (gS (gR (gF fo_106_2 rfl (gL hm 1 isAgg37 rfl (gY (yU rfl) (gCg rfl call178 (impl_mapped_int_int_ok _ x_.args v1 (hm.now h1) (fun y0 => pimpl_known__ins_1 y0 k_) (.func (.func 264) #[] #[(pV b0_1)]) (fun w y0 r hB hq => ⟨264, [(pV b0_1)], rfl, call264, pimpl_known__ins_1_ok w y0 k_ b0_1 bp0 v1p (rep_later (hm.now h1p) hB) v2p (rep_later (hm.now h2p) hB) v3p (rep_later (hm.now h3p) hB) v4p (rep_later (hm.now h4p) hB) (hm.old_later hbbp0 hB) (hm.blk_later 0 rfl hB) r hq⟩)) ?_)))))))
  rintro r0_1 hx0_5 v0_1 w ⟨_, rfl, hB⟩
  replace hm := hm.give hB; clear hB
  refine gA rfl (gE (gS (gBk (gS (gR (gM rfl (gC hm rfl call111 (slices_Contains_S_int_int_ok _ r0_1 v0_1 (hm.ow_rep 0 rfl) (-1)) fun r0_2 hx0_6 w hm => gA rfl (gE (gs 39 rfl (fun h0_6 => ?_) fun h0_6 => ?_)))))))))
  ·
   exact gct rfl (gS (gR (gA rfl (gE (gRt (gr1 results203 rfl ⟨rfl, hm.below⟩))))))
  refine gcf rfl (gS (gR (gM rfl (gC hm rfl call111 (slices_Contains_S_int_int_ok _ r0_1 v0_1 (hm.ow_rep 0 rfl) (-2)) fun r0_3 hx0_7 w hm => gA rfl (gE (gs 42 rfl (fun h0_7 => ?_) fun h0_7 => ?_))))))
  ·
   exact gct rfl (gS (gR (gA rfl (gE (gRt (gr1 results203 rfl ⟨rfl, hm.below⟩))))))
  refine gcf rfl (gSk (gS (gW (.p 0 (.p 2 (.p 3 (.p 5 (.p 6 (.p 7 (.p 8 (.p 9 (.q 1 (.q 4 (.e 10 (.e 11 (.p 12 (.p 13 (.p 14 (.p 15 (.p 16 .fin))))) .nil) .nil))))))))))) [1, 4, 10] [0, 2, 3, 5, 6, 7, 8, 9, 12, 13, 14, 15, 16] hm [0, 1, 2] [ow [v0_1] r0_1, blk b0_1 [(pV bp0)] 91, blk b0_2 [(nV x_.op), (nV x_.to), v1, (nV x_.n_)] 106] rfl mxo (by kernel_rfl) (fun _ _ _ h => h.2) fun w hm hS => tP rfl (fun w => yF fo_106_0 rfl) (tP rfl (fun w => yM rfl) (gg fun x0_3 h0_8 hx0_9 => ?_)))))
  obtain ⟨b0_5, o0_3, c0_3, he⟩ := idx_form (hm.ow_rep 0 rfl) hx0_9
  subst he
  refine tP rfl (fun w => yI st_37 h0_8 (idx_lt hx0_9) rfl) (tP rfl (fun w => yM rfl) (tP rfl (fun w => yM rfl) ?_))
  have hl0_1 := rep_len (hm.ow_rep 0 rfl)
  refine tP rfl (fun w => yV st_37 rfl) (tP rfl (fun w => yS (by omega) (by omega) rfl) (gg fun x0_4 h0_9 hx0_11 => tP rfl (fun w => yI st_37 h0_9 (idx_lt hx0_11) rfl) (tQ rfl hS (fun w hm => yL hm 2 isAgg3 rfl) (tQ rfl hS (fun w hm => yl isAgg3 ((flat_cells (cs := [(nV x0_3)]) (hm.ow_rep 0 rfl) hx0_9 rfl).cell (j := 0) rfl) rfl) (tO (tY rfl (yl isAgg3 ((flat_cells (cs := [(nV x0_4)]) (hm.ow_rep 0 rfl) hx0_11 rfl).cell (j := 0) rfl) rfl) (tAs hS (tO (gb fun r0_4 hx0_12 => tf rfl rfl (fun a hf => e_call hf rfl call265 rfl (impl_DoIns_ok _ x_.op x0_3 x0_4 _ hx0_12)) ?_)))))))))
  rintro v0_5 w ⟨rfl, hB⟩
  replace hm := hm.below' hB; clear hB
  refine tAn rfl (tP rfl (fun w => yM rfl) (tP rfl (fun w => yX rfl) (tP rfl (fun w => yX rfl) (tP rfl (fun w => yA rfl) (tP rfl (fun w => yA rfl) (tE (gS (gS (gR (gM rfl (gB rfl (gE (gsd 61 rfl (fun h0_10 => ?_) fun h0_10 => ?_)))))))))))))
  ·
   exact gct rfl (gS (gR (gA rfl (gE (gRt (gr1 results203 rfl ⟨rfl, hm.below⟩))))))
  exact gcf rfl (gSk (gS (gR (gM rfl (gA rfl (gE (gRt (gr1 results203 rfl ⟨rfl, hm.below⟩))))))))

theorem pimpl_known__way_ok (w0 : World) (hz : Heap) (k_ : known) (bp0 : Nat) (v1p : Value) (h1p : GT.rep hz [v1p] k_.c.blocks) (v2p : Value) (v3p : Value) (v4p : Value) (from_ : Int) (to : Int) (hm0 : Mem w0 hz w0 [blk bp0 [(nV k_.c.params), (nV k_.c.regs), v1p, v2p, v3p, v4p] 90, ow [v2p] k_.regs, ow [v3p] k_.open_, owp v4p k_.ways]) :
    ConM Tryz.prog 204 [(pV bp0), (nV from_), (nV to)] w0 (pimpl_known__way k_ from_ to) fun r v w' => ∃ (x2 : Value) (x3 : Value) (x4 : Value), v = (.bool (r.1)) ∧ Mem w0 hz w' [blk bp0 [(nV r.2.c.params), (nV r.2.c.regs), v1p, x2, x3, x4] 90, ow [x2] r.2.regs, ow [x3] r.2.open_, owp x4 r.2.ways] := by
  unfold pimpl_known__way
  refine gcon func204 rfl fun r => ?_
  have hm := hm0
  refine gS (gR (gA rfl (gE (gS (gS (gR (gM rfl (gY (yG rfl (y_nilptr rfl rfl)) (gF fo_90_3 rfl (gL hm 0 isAgg88 rfl (gM rfl (gM rfl (gY (yG rfl (y_build (vs := [(0, (nV from_)), (1, (nV to))]) (cs := #[(nV from_), (nV to)]) rfl rfl (by kernel_rfl))) (gY (yG rfl (y_lookPB (key := (from_, to)) (m := k_.ways) pk_240 underlying88 zeroValue4 (hm.owp_rep 3 rfl) rfl rfl rfl)) (gE (gs 14 rfl (fun h0_1 => ?_) fun h0_1 => ?_))))))))))))))))
  ·
   exact gct rfl (gS (gR (gA rfl (gE (gRt (gr1 results204 rfl ⟨v2p, v3p, v4p, rfl, hm.pk [0, 1, 2, 3] rfl rfl⟩))))))
  refine gcf rfl (gSk (gS (gR (gM rfl (gY (yG rfl (y_nilptr rfl rfl)) (gF fo_90_3 rfl (gL hm 0 isAgg88 rfl (gM rfl (gM rfl (gY (yG rfl (y_build (vs := [(0, (nV from_)), (1, (nV to))]) (cs := #[(nV from_), (nV to)]) rfl rfl (by kernel_rfl))) (gf0 rfl (fun a hf => e_insP (key := (from_, to)) (u := true) (b := false) 3 pk_240 underlying88 hf hm rfl rfl rfl rfl rfl) ?_)))))))))))
  rintro _ w hm
  refine gE (gS (gR (gM rfl (gY (yG rfl (y_nilptr rfl rfl)) (gF fo_90_2 rfl (gL hm 0 isAgg58 rfl (gM rfl (gg fun x0_1 h0_2 hx0_2 => ?_))))))))
  obtain ⟨b0_1, o0_1, c0_1, he⟩ := idx_form (hm.ow_rep 2 rfl) hx0_2
  subst he
  refine gI st_58 h0_2 (idx_lt hx0_2) rfl (gf0 rfl (fun a hf => e_setElem (x1 := true) (j := 0) (vs := [(.bool (true))]) 2 hf hm rfl hx0_2 rfl sizeOf4 rfl rfl rfl (one_cons rfl one_nil) rfl rfl) ?_)
  rintro _ w hm
  have hx0_3 := List.getElem?_set_self (a := true) (idx_lt hx0_2)
  exact gE (gS (gR (gA rfl (gE (gRt (gr1 results204 rfl ⟨v2p, (sV b0_1 o0_1 k_.open_.length c0_1), v4p, rfl, hm.pk [0, 1, 2, 3] rfl rfl⟩))))))

theorem pimpl_known__round_ok (w0 : World) (hz : Heap) (k_ : known) (bp0 : Nat) (v1p : Value) (h1p : GT.rep hz [v1p] k_.c.blocks) (v2p : Value) (v3p : Value) (v4p : Value) (hm0 : Mem w0 hz w0 [blk bp0 [(nV k_.c.params), (nV k_.c.regs), v1p, v2p, v3p, v4p] 90, ow [v2p] k_.regs, ow [v3p] k_.open_, owp v4p k_.ways]) :
    ConM Tryz.prog 135 [(pV bp0)] w0 (pimpl_known__round k_) fun r v w' => ∃ (x2 : Value) (x3 : Value) (x4 : Value), v = (.bool (r.1)) ∧ Mem w0 hz w' [blk bp0 [(nV r.2.c.params), (nV r.2.c.regs), v1p, x2, x3, x4] 90, ow [x2] r.2.regs, ow [x3] r.2.open_, owp x4 r.2.ways] := by
  unfold pimpl_known__round
  refine gcon func135 rfl fun r => ?_
  have hm := hm0
  refine gS (gR (gA rfl (gE (gS (gR (gA rfl (gE (gS (gS (gR (gM rfl (gY (yG rfl (y_nilptr rfl rfl)) (gF fo_90_0 rfl (gF fo_57_2 rfl (gL hm 0 isAgg55 rfl ?_)))))))))))))))
  obtain ⟨p0_1, c0_1, rfl, hl0_1⟩ := ro_slice h1p
  refine gY (yV st_55 rfl) (gM rfl (gE ?_))
  obtain ⟨p0_2, c0_2, rfl, hl0_2⟩ := ro_slice (hm.ow_rep 1 rfl)
  obtain ⟨p0_3, c0_3, rfl, hl0_3⟩ := ro_slice (hm.ow_rep 2 rfl)
  refine gBk (gNg (fun i1_1 xs1_1 a w => ∃ (v1_1 : Value) (v1_2 : Value) (v1_3 : Value), St 158 [(0, (pV bp0)), (3, (.bool (xs1_1.2.2.2.2.2))), (16, (.slice p0_1 k_.c.blocks.length c0_1)), (17, (nV ((k_.c.blocks.length : Int)))), (18, (nV i1_1))] w0 hz [blk bp0 [(nV xs1_1.1), (nV xs1_1.2.1), (.slice p0_1 k_.c.blocks.length c0_1), v1_1, v1_2, v1_3] 90, ow [v1_1] xs1_1.2.2.1, ow [v1_2] xs1_1.2.2.2.1, owp v1_3 xs1_1.2.2.2.2.1] a w) (fun a hf => ⟨(.slice p0_2 k_.regs.length c0_2), (.slice p0_3 k_.open_.length c0_3), v4p, hf.sb rfl, hm.pk [0, 1, 2, 3] rfl rfl⟩) ?_ ?_)
  ·
   repeat clear hm
   rintro _ _ i1_1 xs1_1 a w ⟨v1_1, v1_2, v1_3, hf, hm⟩ hi0_1 hi0_2 q0_1 _
   refine gv hf (gS (gR (gB rfl (gE (gS (go _ 19 rfl (decide_eq_true (by omega)) (gct rfl (gSk (gS (gJg (fun s1_1 a w => ∃ (v1_4 : Value) (v1_5 : Value) (v1_6 : Value), St 158 [(0, (pV bp0)), (3, (.bool (s1_1.2.2.2.2.2))), (16, (.slice p0_1 k_.c.blocks.length c0_1)), (17, (nV ((k_.c.blocks.length : Int)))), (18, (nV i1_1))] w0 hz [blk bp0 [(nV s1_1.1), (nV s1_1.2.1), (.slice p0_1 k_.c.blocks.length c0_1), v1_4, v1_5, v1_6] 90, ow [v1_4] s1_1.2.2.1, ow [v1_5] s1_1.2.2.2.1, owp v1_6 s1_1.2.2.2.2.1] a w) (fun s1_1 => ?_) ?_))))))))))
   ·
    refine gBk (gS (gR (gM rfl (gg fun x2_1 h2_1 hx2_2 => ?_))))
    obtain ⟨b2_1, o2_1, c2_1, he⟩ := idx_form' h1p hx2_2
    simp only [Value.slice.injEq, Option.some.injEq] at he; obtain ⟨rfl, _, rfl⟩ := he
    obtain ⟨v2_1, v2_2, v2_3, hc2_1, h2_2, h2_3, h2_4⟩ := rk_Block_ h1p hx2_2
    refine gI st_55 h2_1 (idx_lt hx2_2) rfl (gY (yn (hc2_1.mono hm.lez) isAgg104 sizeOf104 rfl) (gAl hm zeroValue104 rfl fun b2_2 w hm => gA rfl (gSN hm 0 sizeOf104 (one_cons (rep_one h2_2) (one_cons (rep_one h2_3) (one_cons rfl (one_cons rfl (one_cons (rep_one h2_4) one_nil))))) rfl fun w hm => gE (gS (gS (gR (gM rfl (gY (yG rfl (y_nilptr rfl rfl)) (gF fo_90_2 rfl (gL hm 1 isAgg58 rfl (gM rfl (gg fun x2_2 h2_5 hx2_4 => ?_))))))))))))
    obtain ⟨b2_3, o2_2, c2_2, he⟩ := idx_form (hm.ow_rep 3 rfl) hx2_4
    subst he
    refine gI st_58 h2_5 (idx_lt hx2_4) rfl (gY (yl isAgg4 ((flat_cells (cs := [(.bool (x2_2))]) (hm.ow_rep 3 rfl) hx2_4 rfl).cell (j := 0) rfl) rfl) (gN rfl (gE (gsn 30 rfl (fun h2_6 => ?_) fun h2_6 => ?_))))
    ·
     exact gct rfl (gXt (gHh (gZ fun a hf => ⟨v1_1, (sV b2_3 o2_2 xs1_1.2.2.2.1.length c2_2), v1_3, hf.sb rfl, hm.pk [1, 2, 3, 4] rfl rfl⟩)))
    refine gcf rfl (gSk (gS (gR (gM rfl (gY (yG rfl (y_nilptr rfl rfl)) (gF fo_90_0 rfl (gY (yn (cs := [(nV xs1_1.1), (nV xs1_1.2.1), (sV b2_1 o2_1 k_.c.blocks.length c0_1)]) (hm.blk_part (i := 0) 1 rfl rfl) isAgg57 sizeOf57 rfl) (gM rfl (gCg rfl call141 (impl_PredsOf_ok _ (⟨xs1_1.1, xs1_1.2.1, k_.c.blocks⟩ : Code_) (sV b2_1 o2_1 k_.c.blocks.length c0_1) (hm.now h1p) i1_1) ?_)))))))))
    rintro r2_1 hx2_5 v2_4 w ⟨_, rfl, hB⟩
    replace hm := hm.give hB; clear hB
    refine gA rfl (gE (gS (gS (gR (gF fo_104_0 rfl (gL hm 1 isAgg101 rfl ?_))))))
    obtain ⟨p2_1, c2_3, rfl, hl2_1⟩ := ro_slice h2_2
    refine gY (yV st_101 rfl) (gM rfl (gE ?_))
    obtain ⟨p2_2, c2_4, rfl, hl2_2⟩ := ro_slice (hm.ow_rep 3 rfl)
    obtain ⟨p2_3, c2_5, rfl, hl2_3⟩ := ro_slice (hm.ow_rep 0 rfl)
    refine gBk (gNg (fun i3_1 xs3_1 a w => ∃ (v3_1 : Value) (v3_2 : Value) (v3_3 : Value), St 158 [(0, (pV bp0)), (3, (.bool (xs3_1.2.2.2.2.2))), (4, (nV i1_1)), (5, (pV b2_2)), (6, (.slice p2_3 r2_1.length c2_5)), (16, (sV b2_1 o2_1 k_.c.blocks.length c0_1)), (17, (nV ((k_.c.blocks.length : Int)))), (18, (nV i1_1)), (38, (.slice p2_1 x2_1.phis.length c2_3)), (39, (nV ((x2_1.phis.length : Int)))), (40, (nV i3_1))] w0 hz [blk bp0 [(nV xs3_1.1), (nV xs3_1.2.1), (sV b2_1 o2_1 k_.c.blocks.length c0_1), v3_1, v3_2, v3_3] 90, ow [v3_1] xs3_1.2.2.1, ow [v3_2] xs3_1.2.2.2.1, owp v3_3 xs3_1.2.2.2.2.1, blk b2_2 [(.slice p2_1 x2_1.phis.length c2_3), v2_2, (nV x2_1.jump), (nV x2_1.on), v2_3] 104, ow [(.slice p2_3 r2_1.length c2_5)] r2_1] a w) (fun a hf => ⟨(.slice p2_2 xs1_1.2.2.1.length c2_4), (sV b2_3 o2_2 xs1_1.2.2.2.1.length c2_2), v1_3, hf.sb rfl, hm.pk [2, 3, 4, 5, 1, 0] rfl rfl⟩) ?_ ?_)
    ·
     repeat clear hm
     rintro _ _ i3_1 xs3_1 a w ⟨v3_1, v3_2, v3_3, hf, hm⟩ hi2_1 hi2_2 q2_1 _
     refine gv hf (gS (gR (gB rfl (gE (gS (go _ 41 rfl (decide_eq_true (by omega)) (gct rfl (gSk (gS (gBk (gS (gR (gg fun x3_1 h3_1 hx3_2 => ?_)))))))))))))
     obtain ⟨b3_1, o3_1, c3_1, he⟩ := idx_form' h2_2 hx3_2
     simp only [Value.slice.injEq, Option.some.injEq] at he; obtain ⟨rfl, _, rfl⟩ := he
     obtain ⟨v3_4, hc3_1, h3_2⟩ := rk_Phi_ h2_2 hx3_2
     refine gI st_101 h3_1 (idx_lt hx3_2) rfl (gY (yn (hc3_1.mono hm.lez) isAgg143 sizeOf143 rfl) (gAl hm zeroValue143 rfl fun b3_2 w hm => gSN hm 0 sizeOf143 (one_cons rfl (one_cons (rep_one h3_2) one_nil)) rfl fun w hm => gE (gJg (fun s3_1 a w => ∃ (v3_5 : Value) (v3_6 : Value) (v3_7 : Value), St 158 [(0, (pV bp0)), (3, (.bool (s3_1.2.2.2.2.2))), (4, (nV i1_1)), (5, (pV b2_2)), (6, (.slice p2_3 r2_1.length c2_5)), (16, (sV b2_1 o2_1 k_.c.blocks.length c0_1)), (17, (nV ((k_.c.blocks.length : Int)))), (18, (nV i1_1)), (38, (sV b3_1 o3_1 x2_1.phis.length c2_3)), (39, (nV ((x2_1.phis.length : Int)))), (40, (nV i3_1))] w0 hz [blk bp0 [(nV s3_1.1), (nV s3_1.2.1), (sV b2_1 o2_1 k_.c.blocks.length c0_1), v3_5, v3_6, v3_7] 90, ow [v3_5] s3_1.2.2.1, ow [v3_6] s3_1.2.2.2.1, owp v3_7 s3_1.2.2.2.2.1, blk b2_2 [(sV b3_1 o3_1 x2_1.phis.length c2_3), v2_2, (nV x2_1.jump), (nV x2_1.on), v2_3] 104, ow [(.slice p2_3 r2_1.length c2_5)] r2_1] a w) (fun s3_1 => ?_) ?_)))
     ·
      refine gW (.p 0 (.p 1 (.p 3 (.p 4 (.p 5 (.q 2 (.e 6 (.e 7 (.e 8 (.p 9 (.p 10 (.p 11 (.p 12 .fin)))) .nil) .nil) .nil))))))) [6, 7] [0, 1, 3, 4, 5, 9, 10, 11, 12] hm [0, 1, 2, 3, 4, 5, 6] [blk b3_2 [(nV x3_1.to), v3_4] 143, blk bp0 [(nV xs3_1.1), (nV xs3_1.2.1), (sV b2_1 o2_1 k_.c.blocks.length c0_1), v3_1, v3_2, v3_3] 90, ow [v3_1] xs3_1.2.2.1, ow [v3_2] xs3_1.2.2.2.1, owp v3_3 xs3_1.2.2.2.2.1, blk b2_2 [(sV b3_1 o3_1 x2_1.phis.length c2_3), v2_2, (nV x2_1.jump), (nV x2_1.on), v2_3] 104, ow [(.slice p2_3 r2_1.length c2_5)] r2_1] rfl mxo (by kernel_rfl) (fun _ _ _ h => h.2) fun w hm hS => tP rfl (fun w => yM rfl) (tP rfl (fun w => yF fo_143_0 rfl) (tP rfl (fun w => yM rfl) (tP rfl (fun w => yM rfl) (tP rfl (fun w => yM rfl) (tQ rfl hS (fun w hm => yL hm 0 isAgg3 rfl) (tO (tY rfl (yn (hm.blk_at 0 rfl) isAgg143 sizeOf143 rfl) (tAs hS (tO (gb fun r4_1 hx4_1 => tf rfl rfl (fun a hf => e_call hf rfl call202 rfl (pimpl_known__phi_ok _ (⟨(⟨xs3_1.1, xs3_1.2.1, k_.c.blocks⟩ : Code_), xs3_1.2.2.1, xs3_1.2.2.2.1, xs3_1.2.2.2.2.1⟩ : known) bp0 (sV b2_1 o2_1 k_.c.blocks.length c0_1) (hm.now h1p) v3_1 (hm.ow_rep 2 rfl) v3_2 (hm.ow_rep 3 rfl) v3_3 (hm.owp_rep 4 rfl) (hm.blk_cells 1 rfl).1 i1_1 r2_1 (.slice p2_3 r2_1.length c2_5) (hm.ow_rep 6 rfl) x3_1 v3_4 (hm.now h3_2) _ hx4_1)) ?_))))))))))
      rintro v4_1 w ⟨rfl, hB⟩
      replace hm := hm.below' hB; clear hB
      refine tAk hm [0, 1, 2, 3, 4, 5, 6] rfl fun hS => tO (gb fun r4_2 hx4_2 => ?_)
      obtain ⟨hz4_1, hle, hm1, hsub, hk4_1⟩ := hm.take2 (L1 := [blk bp0 [(nV xs3_1.1), (nV xs3_1.2.1), (sV b2_1 o2_1 k_.c.blocks.length c0_1), v3_1, v3_2, v3_3] 90, ow [v3_1] xs3_1.2.2.1, ow [v3_2] xs3_1.2.2.2.1, owp v3_3 xs3_1.2.2.2.2.1]) (L2 := [blk b3_2 [(nV x3_1.to), v3_4] 143, blk b2_2 [(sV b3_1 o3_1 x2_1.phis.length c2_3), v2_2, (nV x2_1.jump), (nV x2_1.on), v2_3] 104, ow [(.slice p2_3 r2_1.length c2_5)] r2_1]) [1, 2, 3, 4] [0, 5, 6] (by decide) rfl rfl
      refine tf rfl rfl (fun a hf => e_call hf rfl call201 rfl (pimpl_known__become_ok _ hz4_1 (⟨(⟨xs3_1.1, xs3_1.2.1, k_.c.blocks⟩ : Code_), xs3_1.2.2.1, xs3_1.2.2.2.1, xs3_1.2.2.2.2.1⟩ : known) bp0 (sV b2_1 o2_1 k_.c.blocks.length c0_1) (GT.mono hle h1p) v3_1 v3_2 v3_3 x3_1.to r4_1 hm1  _ hx4_2)) ?_
      rintro v4_2 w ⟨v4_3, v4_4, v4_5, rfl, hB⟩
      replace hm := hk4_1 _ _ hB; clear hB
      refine tAn rfl (tP rfl (fun w => yM rfl) (gs 53 rfl (fun h4_1 => ?_) fun h4_1 => ?_))
      ·
       exact tPo rfl rfl (tP rfl (fun w => yKt rfl) (tP rfl (fun w => yA rfl) (tE (gZ fun a hf => ⟨v4_3, v4_4, v4_5, hf.sb rfl, hm.pk [0, 1, 2, 3, 5, 6] rfl rfl⟩))))
      exact tP rfl (fun w => yM rfl) (tP rfl (fun w => yKf rfl) (tP rfl (fun w => yA rfl) (tE (gZ fun a hf => ⟨v4_3, v4_4, v4_5, hf.sb rfl, hm.pk [0, 1, 2, 3, 5, 6] rfl rfl⟩))))
     repeat clear hm
     rintro s3_1 a w ⟨v3_5, v3_6, v3_7, hf, hm⟩
     exact gv hf (gR (gP (by omega) (by omega) rfl (gM rfl (gE (gZe fun a hf => ⟨v3_5, v3_6, v3_7, hf.sb rfl, hm.pk [0, 1, 2, 3, 4, 5] rfl rfl⟩)))))
    repeat clear hm
    rintro i2_1 xs2_1 a w ⟨v2_6, v2_7, v2_8, hf, hm⟩ hi2_3 hi2_4
    refine gv hf (gS (gR (gB rfl (gE (gS (go _ 41 rfl (decide_eq_false (by omega)) (gcf rfl (gXt (gHh (gS (gS (gR (gF fo_104_1 rfl (gL hm 4 isAgg102 rfl ?_))))))))))))))
    obtain ⟨p2_4, c2_6, rfl, hl2_4⟩ := ro_slice h2_3
    refine gY (yV st_102 rfl) (gM rfl (gE ?_))
    obtain ⟨p2_5, c2_7, rfl, hl2_5⟩ := ro_slice (hm.ow_rep 1 rfl)
    obtain ⟨p2_6, c2_8, rfl, hl2_6⟩ := ro_slice (hm.ow_rep 2 rfl)
    refine gBk (gNg (fun i3_2 xs3_2 a w => ∃ (v3_8 : Value) (v3_9 : Value) (v3_10 : Value), St 158 [(0, (pV bp0)), (3, (.bool (xs3_2.2.2.2.2.2))), (4, (nV i1_1)), (5, (pV b2_2)), (16, (sV b2_1 o2_1 k_.c.blocks.length c0_1)), (17, (nV ((k_.c.blocks.length : Int)))), (18, (nV i1_1)), (58, (.slice p2_4 x2_1.ins.length c2_6)), (59, (nV ((x2_1.ins.length : Int)))), (60, (nV i3_2))] w0 hz [blk bp0 [(nV xs3_2.1), (nV xs3_2.2.1), (sV b2_1 o2_1 k_.c.blocks.length c0_1), v3_8, v3_9, v3_10] 90, ow [v3_8] xs3_2.2.2.1, ow [v3_9] xs3_2.2.2.2.1, owp v3_10 xs3_2.2.2.2.2.1, blk b2_2 [(.slice p2_1 x2_1.phis.length c2_3), (.slice p2_4 x2_1.ins.length c2_6), (nV x2_1.jump), (nV x2_1.on), v2_3] 104] a w) (fun a hf => ⟨(.slice p2_5 xs2_1.2.2.1.length c2_7), (.slice p2_6 xs2_1.2.2.2.1.length c2_8), v2_8, hf.sb rfl, hm.pk [0, 1, 2, 3, 4] rfl rfl⟩) ?_ ?_)
    ·
     repeat clear hm
     rintro _ _ i3_2 xs3_2 a w ⟨v3_8, v3_9, v3_10, hf, hm⟩ hi2_5 hi2_6 q2_2 _
     refine gv hf (gS (gR (gB rfl (gE (gS (go _ 61 rfl (decide_eq_true (by omega)) (gct rfl (gSk (gS (gJg (fun s3_2 a w => ∃ (v3_11 : Value) (v3_12 : Value) (v3_13 : Value), St 158 [(0, (pV bp0)), (3, (.bool (s3_2.2.2.2.2.2))), (4, (nV i1_1)), (5, (pV b2_2)), (16, (sV b2_1 o2_1 k_.c.blocks.length c0_1)), (17, (nV ((k_.c.blocks.length : Int)))), (18, (nV i1_1)), (58, (.slice p2_4 x2_1.ins.length c2_6)), (59, (nV ((x2_1.ins.length : Int)))), (60, (nV i3_2))] w0 hz [blk bp0 [(nV s3_2.1), (nV s3_2.2.1), (sV b2_1 o2_1 k_.c.blocks.length c0_1), v3_11, v3_12, v3_13] 90, ow [v3_11] s3_2.2.2.1, ow [v3_12] s3_2.2.2.2.1, owp v3_13 s3_2.2.2.2.2.1, blk b2_2 [(.slice p2_1 x2_1.phis.length c2_3), (.slice p2_4 x2_1.ins.length c2_6), (nV x2_1.jump), (nV x2_1.on), v2_3] 104] a w) (fun s3_2 => ?_) ?_))))))))))
     ·
      refine gBk (gS (gR (gg fun x4_1 h4_2 hx4_4 => ?_)))
      obtain ⟨b4_1, o4_1, c4_1, he⟩ := idx_form' h2_3 hx4_4
      simp only [Value.slice.injEq, Option.some.injEq] at he; obtain ⟨rfl, _, rfl⟩ := he
      obtain ⟨v4_6, hc4_1, h4_3⟩ := rk_Ins_ h2_3 hx4_4
      refine gI st_102 h4_2 (idx_lt hx4_4) rfl (gY (yn (hc4_1.mono hm.lez) isAgg106 sizeOf106 rfl) (gAl hm zeroValue106 rfl fun b4_2 w hm => gSN hm 0 sizeOf106 (one_cons rfl (one_cons rfl (one_cons (rep_one h4_3) (one_cons rfl one_nil)))) rfl fun w hm => gE (gS (gR (gY (yn (hm.blk_at 0 rfl) isAgg106 sizeOf106 rfl) (gC hm rfl call98 (impl_MadeBy_ok _ x4_1 v4_6 (hm.now h4_3)) fun r4_3 hx4_5 w hm => gA rfl (gE (gS (gR (gM rfl (gB rfl (gE (gJg (fun s4_1 a w => ∃ (v4_8 : Value) (v4_9 : Value) (v4_10 : Value), St 158 [(0, (pV bp0)), (3, (.bool (s4_1.2.2.2.2.2))), (4, (nV i1_1)), (5, (pV b2_2)), (16, (sV b2_1 o2_1 k_.c.blocks.length c0_1)), (17, (nV ((k_.c.blocks.length : Int)))), (18, (nV i1_1)), (58, (sV b4_1 o4_1 x2_1.ins.length c2_6)), (59, (nV ((x2_1.ins.length : Int)))), (60, (nV i3_2))] w0 hz [blk bp0 [(nV s4_1.1), (nV s4_1.2.1), (sV b2_1 o2_1 k_.c.blocks.length c0_1), v4_8, v4_9, v4_10] 90, ow [v4_8] s4_1.2.2.1, ow [v4_9] s4_1.2.2.2.1, owp v4_10 s4_1.2.2.2.2.1, blk b2_2 [(.slice p2_1 x2_1.phis.length c2_3), (sV b4_1 o4_1 x2_1.ins.length c2_6), (nV x2_1.jump), (nV x2_1.on), v2_3] 104] a w) (fun s4_1 => ?_) ?_)))))))))))))
      ·
       refine gsd 67 rfl (fun h5_1 => ?_) fun h5_1 => ?_
       ·
        refine gct rfl (gJg (fun s5_1 a w => ∃ (v5_1 : Value) (v5_2 : Value) (v5_3 : Value), St 158 [(0, (pV bp0)), (3, (.bool (s5_1.2.2.2.2.2))), (4, (nV i1_1)), (5, (pV b2_2)), (16, (sV b2_1 o2_1 k_.c.blocks.length c0_1)), (17, (nV ((k_.c.blocks.length : Int)))), (18, (nV i1_1)), (58, (sV b4_1 o4_1 x2_1.ins.length c2_6)), (59, (nV ((x2_1.ins.length : Int)))), (60, (nV i3_2))] w0 hz [blk bp0 [(nV s5_1.1), (nV s5_1.2.1), (sV b2_1 o2_1 k_.c.blocks.length c0_1), v5_1, v5_2, v5_3] 90, ow [v5_1] s5_1.2.2.1, ow [v5_2] s5_1.2.2.2.1, owp v5_3 s5_1.2.2.2.2.1, blk b2_2 [(.slice p2_1 x2_1.phis.length c2_3), (sV b4_1 o4_1 x2_1.ins.length c2_6), (nV x2_1.jump), (nV x2_1.on), v2_3] 104] a w) (fun s5_1 => ?_) ?_)
        ·
         refine gR (gM rfl (gM rfl (gM rfl (gY (yn (hm.blk_at 0 rfl) isAgg106 sizeOf106 rfl) (gC hm rfl call203 (pimpl_known__ins_ok _ (⟨(⟨xs3_2.1, xs3_2.2.1, k_.c.blocks⟩ : Code_), xs3_2.2.2.1, xs3_2.2.2.2.1, xs3_2.2.2.2.2.1⟩ : known) bp0 (sV b2_1 o2_1 k_.c.blocks.length c0_1) (hm.now h1p) v3_8 (hm.ow_rep 2 rfl) v3_9 (hm.ow_rep 3 rfl) v3_10 (hm.owp_rep 4 rfl) (hm.blk_cells 1 rfl).1 x4_1 v4_6 (hm.now h4_3)) fun r6_1 hx6_1 w hm => ?_)))))
         obtain ⟨hz6_1, hle, hm1, hsub, hk6_1⟩ := hm.take2 (L1 := [blk bp0 [(nV xs3_2.1), (nV xs3_2.2.1), (sV b2_1 o2_1 k_.c.blocks.length c0_1), v3_8, v3_9, v3_10] 90, ow [v3_8] xs3_2.2.2.1, ow [v3_9] xs3_2.2.2.2.1, owp v3_10 xs3_2.2.2.2.2.1]) (L2 := [blk b4_2 [(nV x4_1.op), (nV x4_1.to), v4_6, (nV x4_1.n_)] 106, blk b2_2 [(.slice p2_1 x2_1.phis.length c2_3), (sV b4_1 o4_1 x2_1.ins.length c2_6), (nV x2_1.jump), (nV x2_1.on), v2_3] 104]) [1, 2, 3, 4] [0, 5] (by decide) rfl rfl
         refine gCg rfl call201 (pimpl_known__become_ok _ hz6_1 (⟨(⟨xs3_2.1, xs3_2.2.1, k_.c.blocks⟩ : Code_), xs3_2.2.2.1, xs3_2.2.2.2.1, xs3_2.2.2.2.2.1⟩ : known) bp0 (sV b2_1 o2_1 k_.c.blocks.length c0_1) (GT.mono hle h1p) v3_8 v3_9 v3_10 r4_3 r6_1 hm1 ) ?_
         rintro r6_2 hx6_2 v6_2 w ⟨v6_3, v6_4, v6_5, rfl, hB⟩
         replace hm := hk6_1 _ _ hB; clear hB
         refine gM rfl (gs 74 rfl (fun h6_1 => ?_) fun h6_1 => ?_)
         ·
          exact gO rfl (gKt rfl (gA rfl (gE (gZ fun a hf => ⟨v6_3, v6_4, v6_5, hf.sb rfl, hm.pk [0, 1, 2, 3, 5] rfl rfl⟩))))
         exact gM rfl (gKf rfl (gA rfl (gE (gZ fun a hf => ⟨v6_3, v6_4, v6_5, hf.sb rfl, hm.pk [0, 1, 2, 3, 5] rfl rfl⟩))))
        repeat clear hm
        rintro s5_1 a w ⟨v5_1, v5_2, v5_3, hf, hm⟩
        exact gv hf (gZ fun a hf => ⟨v5_1, v5_2, v5_3, hf.sb rfl, hm.pk [0, 1, 2, 3, 4] rfl rfl⟩)
       exact gcf rfl (gSk (gZ fun a hf => ⟨v3_8, v3_9, v3_10, hf.sb rfl, hm.pk [1, 2, 3, 4, 5] rfl rfl⟩))
      repeat clear hm
      rintro s4_1 a w ⟨v4_8, v4_9, v4_10, hf, hm⟩
      exact gv hf (gZ fun a hf => ⟨v4_8, v4_9, v4_10, hf.sb rfl, hm.pk [0, 1, 2, 3, 4] rfl rfl⟩)
     repeat clear hm
     rintro s3_2 a w ⟨v3_11, v3_12, v3_13, hf, hm⟩
     exact gv hf (gR (gP (by omega) (by omega) rfl (gM rfl (gE (gZe fun a hf => ⟨v3_11, v3_12, v3_13, hf.sb rfl, hm.pk [0, 1, 2, 3, 4] rfl rfl⟩)))))
    repeat clear hm
    rintro i2_2 xs2_2 a w ⟨v2_9, v2_10, v2_11, hf, hm⟩ hi2_7 hi2_8
    refine gv hf (gS (gR (gB rfl (gE (gS (go _ 61 rfl (decide_eq_false (by omega)) (gcf rfl (gXt (gHh (gJg (fun s2_1 a w => ∃ (v2_12 : Value) (v2_13 : Value) (v2_14 : Value), St 158 [(0, (pV bp0)), (3, (.bool (s2_1.2.2.2.2.2))), (16, (sV b2_1 o2_1 k_.c.blocks.length c0_1)), (17, (nV ((k_.c.blocks.length : Int)))), (18, (nV i1_1))] w0 hz [blk bp0 [(nV s2_1.1), (nV s2_1.2.1), (sV b2_1 o2_1 k_.c.blocks.length c0_1), v2_12, v2_13, v2_14] 90, ow [v2_12] s2_1.2.2.1, ow [v2_13] s2_1.2.2.2.1, owp v2_14 s2_1.2.2.2.2.1] a w) (fun s2_1 => ?_) ?_))))))))))
    ·
     refine gBk (gS (gR (gF fo_104_2 rfl (gL hm 4 isAgg3 rfl (gB rfl (gA rfl (gE (gJg (fun s3_3 a w => ∃ (v3_14 : Value) (v3_15 : Value) (v3_16 : Value), St 158 [(0, (pV bp0)), (3, (.bool (s3_3.2.2.2.2.2))), (16, (sV b2_1 o2_1 k_.c.blocks.length c0_1)), (17, (nV ((k_.c.blocks.length : Int)))), (18, (nV i1_1))] w0 hz [blk bp0 [(nV s3_3.1), (nV s3_3.2.1), (sV b2_1 o2_1 k_.c.blocks.length c0_1), v3_14, v3_15, v3_16] 90, ow [v3_14] s3_3.2.2.1, ow [v3_15] s3_3.2.2.2.1, owp v3_16 s3_3.2.2.2.2.1] a w) (fun s3_3 => ?_) ?_))))))))
     ·
      refine gsd 78 rfl (fun h4_4 => ?_) fun h4_4 => ?_
      ·
       refine gct rfl (gJg (fun s4_2 a w => ∃ (v4_11 : Value) (v4_12 : Value) (v4_13 : Value), St 158 [(0, (pV bp0)), (3, (.bool (s4_2.2.2.2.2.2))), (16, (sV b2_1 o2_1 k_.c.blocks.length c0_1)), (17, (nV ((k_.c.blocks.length : Int)))), (18, (nV i1_1))] w0 hz [blk bp0 [(nV s4_2.1), (nV s4_2.2.1), (sV b2_1 o2_1 k_.c.blocks.length c0_1), v4_11, v4_12, v4_13] 90, ow [v4_11] s4_2.2.2.1, ow [v4_12] s4_2.2.2.2.1, owp v4_13 s4_2.2.2.2.2.1] a w) (fun s4_2 => ?_) ?_)
       ·
        refine gR (gM rfl (gM rfl (gF fo_104_4 rfl (gL hm 4 isAgg37 rfl (gg fun x5_1 h5_2 hx5_2 => ?_)))))
        obtain ⟨b5_1, o5_1, c5_1, he⟩ := idx_form h2_4 hx5_2
        subst he
        refine gI st_37 h5_2 (idx_lt hx5_2) rfl (gY (yl isAgg3 ((flat_cells (cs := [(nV x5_1)]) (hm.now h2_4) hx5_2 rfl).cell (j := 0) rfl) rfl) ?_)
        obtain ⟨hz5_1, hle, hm1, hsub, hk5_1⟩ := hm.take2 (L1 := [blk bp0 [(nV xs2_2.1), (nV xs2_2.2.1), (sV b2_1 o2_1 k_.c.blocks.length c0_1), v2_9, v2_10, v2_11] 90, ow [v2_9] xs2_2.2.2.1, ow [v2_10] xs2_2.2.2.2.1, owp v2_11 xs2_2.2.2.2.2.1]) (L2 := [blk b2_2 [(.slice p2_1 x2_1.phis.length c2_3), (.slice p2_4 x2_1.ins.length c2_6), (nV x2_1.jump), (nV x2_1.on), (sV b5_1 o5_1 x2_1.next_.length c5_1)] 104]) [0, 1, 2, 3] [4] (by decide) rfl rfl
        refine gCg rfl call204 (pimpl_known__way_ok _ hz5_1 (⟨(⟨xs2_2.1, xs2_2.2.1, k_.c.blocks⟩ : Code_), xs2_2.2.2.1, xs2_2.2.2.2.1, xs2_2.2.2.2.2.1⟩ : known) bp0 (sV b2_1 o2_1 k_.c.blocks.length c0_1) (GT.mono hle h1p) v2_9 v2_10 v2_11 i1_1 x5_1 hm1 ) ?_
        rintro r5_1 hx5_3 v5_4 w ⟨v5_5, v5_6, v5_7, rfl, hB⟩
        replace hm := hk5_1 _ _ hB; clear hB
        refine gM rfl (gs 89 rfl (fun h5_3 => ?_) fun h5_3 => ?_)
        ·
         exact gO rfl (gKt rfl (gA rfl (gE (gZ fun a hf => ⟨v5_5, v5_6, v5_7, hf.sb rfl, hm.pk [0, 1, 2, 3] rfl rfl⟩))))
        exact gM rfl (gKf rfl (gA rfl (gE (gZ fun a hf => ⟨v5_5, v5_6, v5_7, hf.sb rfl, hm.pk [0, 1, 2, 3] rfl rfl⟩))))
       repeat clear hm
       rintro s4_2 a w ⟨v4_11, v4_12, v4_13, hf, hm⟩
       exact gv hf (gZ fun a hf => ⟨v4_11, v4_12, v4_13, hf.sb rfl, hm.pk [0, 1, 2, 3] rfl rfl⟩)
      refine gcf rfl (gS (gJ hm (fun s4_3 => [(0, (pV bp0)), (3, (.bool (xs2_2.2.2.2.2.2))), (4, (nV i1_1)), (5, (pV b2_2)), (16, (sV b2_1 o2_1 k_.c.blocks.length c0_1)), (17, (nV ((k_.c.blocks.length : Int)))), (18, (nV i1_1)), (92, (.bool (s4_3)))]) (fun s4_3 => [blk bp0 [(nV xs2_2.1), (nV xs2_2.2.1), (sV b2_1 o2_1 k_.c.blocks.length c0_1), v2_9, v2_10, v2_11] 90, ow [v2_9] xs2_2.2.2.1, ow [v2_10] xs2_2.2.2.2.1, owp v2_11 xs2_2.2.2.2.2.1, blk b2_2 [(.slice p2_1 x2_1.phis.length c2_3), (.slice p2_4 x2_1.ins.length c2_6), (nV x2_1.jump), (nV x2_1.on), v2_3] 104]) (fun s4_3 => ?_) ?_))
      ·
       refine gW (.p 0 (.e 1 (.p 2 (.p 3 (.p 4 (.p 5 (.p 6 (.p 8 (.q 7 (.e 9 (.p 10 (.e 11 (.p 12 (.p 13 (.p 14 .fin))) .nil)) .nil)))))))) .nil)) [9] [0, 2, 3, 4, 5, 6, 8, 10, 12, 13, 14] hm [0, 1, 2, 3, 4] [blk bp0 [(nV xs2_2.1), (nV xs2_2.2.1), (sV b2_1 o2_1 k_.c.blocks.length c0_1), v2_9, v2_10, v2_11] 90, ow [v2_9] xs2_2.2.2.1, ow [v2_10] xs2_2.2.2.2.1, owp v2_11 xs2_2.2.2.2.2.1, blk b2_2 [(.slice p2_1 x2_1.phis.length c2_3), (.slice p2_4 x2_1.ins.length c2_6), (nV x2_1.jump), (nV x2_1.on), v2_3] 104] rfl mxo (by kernel_rfl) (fun _ _ _ h => h.2) fun w hm hS => tP rfl (fun w => yF fo_104_2 rfl) (tO (tY rfl (yL hm 4 isAgg3 rfl) (tAn rfl (tP rfl (fun w => yB rfl) (tP rfl (fun w => yM rfl) (gsd 96 rfl (fun h5_4 => ?_) fun h5_4 => ?_))))))
       ·
        refine tP rfl (fun w => yM rfl) (tP rfl (fun w => yG rfl (y_nilptr rfl rfl)) (tP rfl (fun w => yF fo_90_1 rfl) (tP rfl (fun w => yF fo_104_3 rfl) (tQ rfl hS (fun w hm => yL hm 0 isAgg37 rfl) (tO (tY rfl (yL hm 4 isAgg3 rfl) (tAs hS (gg fun x5_2 h5_5 hx5_5 => ?_))))))))
        obtain ⟨b5_2, o5_2, c5_2, he⟩ := idx_form (hm.ow_rep 1 rfl) hx5_5
        subst he
        exact tP rfl (fun w => yI st_37 h5_5 (idx_lt hx5_5) rfl) (tO (tY rfl (yl isAgg3 ((flat_cells (cs := [(nV x5_2)]) (hm.ow_rep 1 rfl) hx5_5 rfl).cell (j := 0) rfl) rfl) (tAn rfl (tP rfl (fun w => yB rfl) (tP rfl (fun w => yKt rfl) (tP rfl (fun w => yA rfl) (tE (gz hm [0, 1, 2, 3, 4] rfl))))))))
       exact tPo rfl rfl (tPo rfl rfl (tPo rfl rfl (tPo rfl rfl (tQo rfl hS rfl (tO (tEo rfl rfl (tAs hS (tPo rfl rfl (tO (tEo rfl rfl (tAn rfl (tPo rfl rfl (tP rfl (fun w => yKf rfl) (tP rfl (fun w => yA rfl) (tE (gz hm [0, 1, 2, 3, 4] rfl))))))))))))))))
      repeat clear hm
      intro s4_3 w hm
      refine gJg (fun s4_4 a w => ∃ (v4_14 : Value) (v4_15 : Value) (v4_16 : Value), St 158 [(0, (pV bp0)), (3, (.bool (s4_4.2.2.2.2.2))), (16, (sV b2_1 o2_1 k_.c.blocks.length c0_1)), (17, (nV ((k_.c.blocks.length : Int)))), (18, (nV i1_1))] w0 hz [blk bp0 [(nV s4_4.1), (nV s4_4.2.1), (sV b2_1 o2_1 k_.c.blocks.length c0_1), v4_14, v4_15, v4_16] 90, ow [v4_14] s4_4.2.2.1, ow [v4_15] s4_4.2.2.2.1, owp v4_16 s4_4.2.2.2.2.1] a w) (fun s4_4 => ?_) ?_
      ·
       refine gs 92 rfl (fun h5_6 => ?_) fun h5_6 => ?_
       ·
        refine gct rfl (gS (gS (gW (.p 0 (.p 1 (.p 2 (.p 4 (.q 3 (.e 5 (.p 6 (.e 7 (.p 8 .fin) .nil)) .nil)))))) [5] [0, 1, 2, 4, 6, 8] hm [0, 1, 2, 3, 4] [blk bp0 [(nV xs2_2.1), (nV xs2_2.2.1), (sV b2_1 o2_1 k_.c.blocks.length c0_1), v2_9, v2_10, v2_11] 90, ow [v2_9] xs2_2.2.2.1, ow [v2_10] xs2_2.2.2.2.1, owp v2_11 xs2_2.2.2.2.2.1, blk b2_2 [(.slice p2_1 x2_1.phis.length c2_3), (.slice p2_4 x2_1.ins.length c2_6), (nV x2_1.jump), (nV x2_1.on), v2_3] 104] rfl mxo (by kernel_rfl) (fun _ _ _ h => h.2) fun w hm hS => tP rfl (fun w => yM rfl) (tP rfl (fun w => yG rfl (y_nilptr rfl rfl)) (tP rfl (fun w => yF fo_90_1 rfl) (tP rfl (fun w => yF fo_104_3 rfl) (tQ rfl hS (fun w hm => yL hm 0 isAgg37 rfl) (tO (tY rfl (yL hm 4 isAgg3 rfl) (tAs hS (gg fun x5_3 h5_7 hx5_7 => ?_)))))))))))
        obtain ⟨b5_3, o5_3, c5_3, he⟩ := idx_form (hm.ow_rep 1 rfl) hx5_7
        subst he
        refine tP rfl (fun w => yI st_37 h5_7 (idx_lt hx5_7) rfl) (tO (tY rfl (yl isAgg3 ((flat_cells (cs := [(nV x5_3)]) (hm.ow_rep 1 rfl) hx5_7 rfl).cell (j := 0) rfl) rfl) (tAn rfl (tP rfl (fun w => yB rfl) (tE (gJg (fun s5_2 a w => ∃ (v5_8 : Value) (v5_9 : Value) (v5_10 : Value), St 158 [(0, (pV bp0)), (3, (.bool (s5_2.2.2.2.2.2))), (4, (nV i1_1)), (5, (pV b2_2)), (16, (sV b2_1 o2_1 k_.c.blocks.length c0_1)), (17, (nV ((k_.c.blocks.length : Int)))), (18, (nV i1_1))] w0 hz [blk bp0 [(nV s5_2.1), (nV s5_2.2.1), (sV b2_1 o2_1 k_.c.blocks.length c0_1), v5_8, v5_9, v5_10] 90, ow [v5_8] s5_2.2.2.1, ow [v5_9] s5_2.2.2.2.1, owp v5_10 s5_2.2.2.2.2.1, blk b2_2 [(.slice p2_1 x2_1.phis.length c2_3), (.slice p2_4 x2_1.ins.length c2_6), (nV x2_1.jump), (nV x2_1.on), v2_3] 104] a w) (fun s5_2 => ?_) ?_))))))
        ·
         refine gsd 115 rfl (fun h6_2 => ?_) fun h6_2 => ?_
         ·
          refine gct rfl (gJg (fun s6_1 a w => ∃ (v6_6 : Value) (v6_7 : Value) (v6_8 : Value), St 158 [(0, (pV bp0)), (3, (.bool (s6_1.2.2.2.2.2))), (4, (nV i1_1)), (5, (pV b2_2)), (16, (sV b2_1 o2_1 k_.c.blocks.length c0_1)), (17, (nV ((k_.c.blocks.length : Int)))), (18, (nV i1_1))] w0 hz [blk bp0 [(nV s6_1.1), (nV s6_1.2.1), (sV b2_1 o2_1 k_.c.blocks.length c0_1), v6_6, v6_7, v6_8] 90, ow [v6_6] s6_1.2.2.1, ow [v6_7] s6_1.2.2.2.1, owp v6_8 s6_1.2.2.2.2.1, blk b2_2 [(.slice p2_1 x2_1.phis.length c2_3), (.slice p2_4 x2_1.ins.length c2_6), (nV x2_1.jump), (nV x2_1.on), v2_3] 104] a w) (fun s6_1 => ?_) ?_)
          ·
           refine gR (gM rfl (gM rfl (gF fo_104_4 rfl (gL hm 4 isAgg37 rfl (gg fun x7_1 h7_1 hx7_2 => ?_)))))
           obtain ⟨b7_1, o7_1, c7_1, he⟩ := idx_form h2_4 hx7_2
           subst he
           refine gI st_37 h7_1 (idx_lt hx7_2) rfl (gY (yl isAgg3 ((flat_cells (cs := [(nV x7_1)]) (hm.now h2_4) hx7_2 rfl).cell (j := 0) rfl) rfl) ?_)
           obtain ⟨hz7_1, hle, hm1, hsub, hk7_1⟩ := hm.take2 (L1 := [blk bp0 [(nV xs2_2.1), (nV xs2_2.2.1), (sV b2_1 o2_1 k_.c.blocks.length c0_1), (sV b5_3 o5_3 xs2_2.2.2.1.length c5_3), v2_10, v2_11] 90, ow [(sV b5_3 o5_3 xs2_2.2.2.1.length c5_3)] xs2_2.2.2.1, ow [v2_10] xs2_2.2.2.2.1, owp v2_11 xs2_2.2.2.2.2.1]) (L2 := [blk b2_2 [(.slice p2_1 x2_1.phis.length c2_3), (.slice p2_4 x2_1.ins.length c2_6), (nV x2_1.jump), (nV x2_1.on), (sV b7_1 o7_1 x2_1.next_.length c7_1)] 104]) [0, 1, 2, 3] [4] (by decide) rfl rfl
           refine gCg rfl call204 (pimpl_known__way_ok _ hz7_1 (⟨(⟨xs2_2.1, xs2_2.2.1, k_.c.blocks⟩ : Code_), xs2_2.2.2.1, xs2_2.2.2.2.1, xs2_2.2.2.2.2.1⟩ : known) bp0 (sV b2_1 o2_1 k_.c.blocks.length c0_1) (GT.mono hle h1p) (sV b5_3 o5_3 xs2_2.2.2.1.length c5_3) v2_10 v2_11 i1_1 x7_1 hm1 ) ?_
           rintro r7_1 hx7_3 v7_1 w ⟨v7_2, v7_3, v7_4, rfl, hB⟩
           replace hm := hk7_1 _ _ hB; clear hB
           refine gM rfl (gs 123 rfl (fun h7_2 => ?_) fun h7_2 => ?_)
           ·
            exact gO rfl (gKt rfl (gA rfl (gE (gZ fun a hf => ⟨v7_2, v7_3, v7_4, hf.sb rfl, hm.pk [0, 1, 2, 3, 4] rfl rfl⟩))))
           exact gM rfl (gKf rfl (gA rfl (gE (gZ fun a hf => ⟨v7_2, v7_3, v7_4, hf.sb rfl, hm.pk [0, 1, 2, 3, 4] rfl rfl⟩))))
          repeat clear hm
          rintro s6_1 a w ⟨v6_6, v6_7, v6_8, hf, hm⟩
          exact gv hf (gZ fun a hf => ⟨v6_6, v6_7, v6_8, hf.sb rfl, hm.pk [0, 1, 2, 3, 4] rfl rfl⟩)
         exact gcf rfl (gSk (gZ fun a hf => ⟨(sV b5_3 o5_3 xs2_2.2.2.1.length c5_3), v2_10, v2_11, hf.sb rfl, hm.pk [0, 1, 2, 3, 4] rfl rfl⟩))
        repeat clear hm
        rintro s5_2 a w ⟨v5_8, v5_9, v5_10, hf, hm⟩
        refine gv hf (gS (gJ hm (fun s5_3 => [(0, (pV bp0)), (3, (.bool (s5_2.2.2.2.2.2))), (4, (nV i1_1)), (5, (pV b2_2)), (16, (sV b2_1 o2_1 k_.c.blocks.length c0_1)), (17, (nV ((k_.c.blocks.length : Int)))), (18, (nV i1_1)), (145, (.bool (s5_3)))]) (fun s5_3 => [blk bp0 [(nV s5_2.1), (nV s5_2.2.1), (sV b2_1 o2_1 k_.c.blocks.length c0_1), v5_8, v5_9, v5_10] 90, ow [v5_8] s5_2.2.2.1, ow [v5_9] s5_2.2.2.2.1, owp v5_10 s5_2.2.2.2.2.1, blk b2_2 [(.slice p2_1 x2_1.phis.length c2_3), (.slice p2_4 x2_1.ins.length c2_6), (nV x2_1.jump), (nV x2_1.on), v2_3] 104]) (fun s5_3 => ?_) ?_))
        ·
         refine gW (.p 0 (.p 1 (.p 2 (.p 4 (.q 3 (.e 5 (.p 6 (.e 7 (.p 8 (.p 9 (.p 10 (.p 11 (.p 12 (.p 14 (.q 13 (.e 15 (.p 16 (.e 17 (.p 18 (.p 19 .fin)) .nil)) .nil)))))))) .nil)) .nil)))))) [5, 15] [0, 1, 2, 4, 6, 8, 9, 10, 11, 12, 14, 16, 18, 19] hm [0, 1, 2, 3, 4] [blk bp0 [(nV s5_2.1), (nV s5_2.2.1), (sV b2_1 o2_1 k_.c.blocks.length c0_1), v5_8, v5_9, v5_10] 90, ow [v5_8] s5_2.2.2.1, ow [v5_9] s5_2.2.2.2.1, owp v5_10 s5_2.2.2.2.2.1, blk b2_2 [(.slice p2_1 x2_1.phis.length c2_3), (.slice p2_4 x2_1.ins.length c2_6), (nV x2_1.jump), (nV x2_1.on), v2_3] 104] rfl mxo (by kernel_rfl) (fun _ _ _ h => h.2) fun w hm hS => tP rfl (fun w => yM rfl) (tP rfl (fun w => yG rfl (y_nilptr rfl rfl)) (tP rfl (fun w => yF fo_90_1 rfl) (tP rfl (fun w => yF fo_104_3 rfl) (tQ rfl hS (fun w hm => yL hm 0 isAgg37 rfl) (tO (tY rfl (yL hm 4 isAgg3 rfl) (tAs hS (gg fun x6_1 h6_3 hx6_4 => ?_))))))))
         obtain ⟨b6_1, o6_1, c6_1, he⟩ := idx_form (hm.ow_rep 1 rfl) hx6_4
         subst he
         refine tP rfl (fun w => yI st_37 h6_3 (idx_lt hx6_4) rfl) (tO (tY rfl (yl isAgg3 ((flat_cells (cs := [(nV x6_1)]) (hm.ow_rep 1 rfl) hx6_4 rfl).cell (j := 0) rfl) rfl) (tAn rfl (tP rfl (fun w => yB rfl) (tP rfl (fun w => yM rfl) (gsd 135 rfl (fun h6_4 => ?_) fun h6_4 => ?_))))))
         ·
          exact tPo rfl rfl (tPo rfl rfl (tPo rfl rfl (tPo rfl rfl (tQo rfl hS rfl (tO (tEo rfl rfl (tAs hS (tPo rfl rfl (tO (tEo rfl rfl (tAn rfl (tPo rfl rfl (tP rfl (fun w => yKt rfl) (tE (gz hm [0, 1, 2, 3, 4] rfl)))))))))))))))
         exact tP rfl (fun w => yM rfl) (tP rfl (fun w => yG rfl (y_nilptr rfl rfl)) (tP rfl (fun w => yF fo_90_1 rfl) (tP rfl (fun w => yF fo_104_3 rfl) (tQ rfl hS (fun w hm => yL hm 0 isAgg37 rfl) (tO (tY rfl (yL hm 4 isAgg3 rfl) (tAs hS (tP rfl (fun w => yI st_37 h6_3 (idx_lt hx6_4) rfl) (tO (tY rfl (yl isAgg3 ((flat_cells (cs := [(nV x6_1)]) (hm.ow_rep 1 rfl) hx6_4 rfl).cell (j := 0) rfl) rfl) (tAn rfl (tP rfl (fun w => yB rfl) (tP rfl (fun w => yKf rfl) (tE (gz hm [0, 1, 2, 3, 4] rfl)))))))))))))))
        repeat clear hm
        intro s5_3 w hm
        refine gJg (fun s5_4 a w => ∃ (v5_11 : Value) (v5_12 : Value) (v5_13 : Value), St 158 [(0, (pV bp0)), (3, (.bool (s5_4.2.2.2.2.2))), (16, (sV b2_1 o2_1 k_.c.blocks.length c0_1)), (17, (nV ((k_.c.blocks.length : Int)))), (18, (nV i1_1))] w0 hz [blk bp0 [(nV s5_4.1), (nV s5_4.2.1), (sV b2_1 o2_1 k_.c.blocks.length c0_1), v5_11, v5_12, v5_13] 90, ow [v5_11] s5_4.2.2.1, ow [v5_12] s5_4.2.2.2.1, owp v5_13 s5_4.2.2.2.2.1] a w) (fun s5_4 => ?_) ?_
        ·
         refine gs 145 rfl (fun h6_5 => ?_) fun h6_5 => ?_
         ·
          refine gct rfl (gJg (fun s6_2 a w => ∃ (v6_9 : Value) (v6_10 : Value) (v6_11 : Value), St 158 [(0, (pV bp0)), (3, (.bool (s6_2.2.2.2.2.2))), (16, (sV b2_1 o2_1 k_.c.blocks.length c0_1)), (17, (nV ((k_.c.blocks.length : Int)))), (18, (nV i1_1))] w0 hz [blk bp0 [(nV s6_2.1), (nV s6_2.2.1), (sV b2_1 o2_1 k_.c.blocks.length c0_1), v6_9, v6_10, v6_11] 90, ow [v6_9] s6_2.2.2.1, ow [v6_10] s6_2.2.2.2.1, owp v6_11 s6_2.2.2.2.2.1] a w) (fun s6_2 => ?_) ?_)
          ·
           refine gR (gM rfl (gM rfl (gF fo_104_4 rfl (gL hm 4 isAgg37 rfl (gg fun x7_2 h7_3 hx7_5 => ?_)))))
           obtain ⟨b7_2, o7_2, c7_2, he⟩ := idx_form h2_4 hx7_5
           subst he
           refine gI st_37 h7_3 (idx_lt hx7_5) rfl (gY (yl isAgg3 ((flat_cells (cs := [(nV x7_2)]) (hm.now h2_4) hx7_5 rfl).cell (j := 0) rfl) rfl) ?_)
           obtain ⟨hz7_3, hle, hm1, hsub, hk7_2⟩ := hm.take2 (L1 := [blk bp0 [(nV s5_2.1), (nV s5_2.2.1), (sV b2_1 o2_1 k_.c.blocks.length c0_1), v5_8, v5_9, v5_10] 90, ow [v5_8] s5_2.2.2.1, ow [v5_9] s5_2.2.2.2.1, owp v5_10 s5_2.2.2.2.2.1]) (L2 := [blk b2_2 [(.slice p2_1 x2_1.phis.length c2_3), (.slice p2_4 x2_1.ins.length c2_6), (nV x2_1.jump), (nV x2_1.on), (sV b7_2 o7_2 x2_1.next_.length c7_2)] 104]) [0, 1, 2, 3] [4] (by decide) rfl rfl
           refine gCg rfl call204 (pimpl_known__way_ok _ hz7_3 (⟨(⟨s5_2.1, s5_2.2.1, k_.c.blocks⟩ : Code_), s5_2.2.2.1, s5_2.2.2.2.1, s5_2.2.2.2.2.1⟩ : known) bp0 (sV b2_1 o2_1 k_.c.blocks.length c0_1) (GT.mono hle h1p) v5_8 v5_9 v5_10 i1_1 x7_2 hm1 ) ?_
           rintro r7_2 hx7_6 v7_5 w ⟨v7_6, v7_7, v7_8, rfl, hB⟩
           replace hm := hk7_2 _ _ hB; clear hB
           refine gM rfl (gs 153 rfl (fun h7_4 => ?_) fun h7_4 => ?_)
           ·
            exact gO rfl (gKt rfl (gA rfl (gE (gZ fun a hf => ⟨v7_6, v7_7, v7_8, hf.sb rfl, hm.pk [0, 1, 2, 3] rfl rfl⟩))))
           exact gM rfl (gKf rfl (gA rfl (gE (gZ fun a hf => ⟨v7_6, v7_7, v7_8, hf.sb rfl, hm.pk [0, 1, 2, 3] rfl rfl⟩))))
          repeat clear hm
          rintro s6_2 a w ⟨v6_9, v6_10, v6_11, hf, hm⟩
          exact gv hf (gZ fun a hf => ⟨v6_9, v6_10, v6_11, hf.sb rfl, hm.pk [0, 1, 2, 3] rfl rfl⟩)
         exact gcf rfl (gSk (gZ fun a hf => ⟨v5_8, v5_9, v5_10, hf.sb rfl, hm.pk [0, 1, 2, 3] rfl rfl⟩))
        repeat clear hm
        rintro s5_4 a w ⟨v5_11, v5_12, v5_13, hf, hm⟩
        exact gv hf (gZ fun a hf => ⟨v5_11, v5_12, v5_13, hf.sb rfl, hm.pk [0, 1, 2, 3] rfl rfl⟩)
       exact gcf rfl (gSk (gZ fun a hf => ⟨v2_9, v2_10, v2_11, hf.sb rfl, hm.pk [0, 1, 2, 3] rfl rfl⟩))
      repeat clear hm
      rintro s4_4 a w ⟨v4_14, v4_15, v4_16, hf, hm⟩
      exact gv hf (gZ fun a hf => ⟨v4_14, v4_15, v4_16, hf.sb rfl, hm.pk [0, 1, 2, 3] rfl rfl⟩)
     repeat clear hm
     rintro s3_3 a w ⟨v3_14, v3_15, v3_16, hf, hm⟩
     exact gv hf (gZ fun a hf => ⟨v3_14, v3_15, v3_16, hf.sb rfl, hm.pk [0, 1, 2, 3] rfl rfl⟩)
    repeat clear hm
    rintro s2_1 a w ⟨v2_12, v2_13, v2_14, hf, hm⟩
    exact gv hf (gZ fun a hf => ⟨v2_12, v2_13, v2_14, hf.sb rfl, hm.pk [0, 1, 2, 3] rfl rfl⟩)
   repeat clear hm
   rintro s1_1 a w ⟨v1_4, v1_5, v1_6, hf, hm⟩
   exact gv hf (gR (gP (by omega) (by omega) rfl (gM rfl (gE (gZe fun a hf => ⟨v1_4, v1_5, v1_6, hf.sb rfl, hm.pk [0, 1, 2, 3] rfl rfl⟩)))))
  repeat clear hm
  rintro i0_1 xs0_1 a w ⟨v0_1, v0_2, v0_3, hf, hm⟩ hi0_3 hi0_4
  exact gv hf (gS (gR (gB rfl (gE (gS (go _ 19 rfl (decide_eq_false (by omega)) (gcf rfl (gXt (gHh (gS (gR (gM rfl (gA rfl (gE (gRt (gr1 results135 rfl ⟨v0_1, v0_2, v0_3, rfl, hm.pk [0, 1, 2, 3] rfl rfl⟩))))))))))))))))

theorem impl_knownOf_ok (w0 : World) (hz : Heap) (hle0 : Heap.le hz (hp w0)) (c_ : Code_) (v1 : Value) (h1 : GT.rep hz [v1] c_.blocks) :
    ConM Tryz.prog 84 [(.agg #[(nV c_.params), (nV c_.regs), v1])] w0 (impl_knownOf c_) fun r v w' => ∃ (b1 : Nat) (x2 : Value) (x3 : Value) (x4 : Value) (x5 : Value) (hz2 : Heap), v = (pV b1) ∧ Heap.le hz hz2 ∧ GT.rep hz2 [x2] r.c.blocks ∧ Mem w0 hz2 w' [junk w0 hz, blk b1 [(nV r.c.params), (nV r.c.regs), x2, x3, x4, x5] 90, ow [x3] r.regs, ow [x4] r.open_, owp x5 r.ways] := by
  unfold impl_knownOf
  refine gcon func84 rfl fun r => ?_
  have hm := Mem.startA hle0
  refine gS (gR (gBx hm rfl fun b0_1 w hm => gA rfl (gE (gS (gJg (fun s0_1 a w => ∃ (b0_2 : Nat) (v0_1 : Value) (v0_2 : Value) (v0_3 : Value), St 37 [(1, (pV b0_1)), (3, (pV b0_2))] w0 hz [blk b0_1 [(nV c_.params), (nV c_.regs), v1] 57, blk b0_2 [(nV c_.params), (nV c_.regs), v1, v0_1, v0_2, v0_3] 90, ow [v0_1] s0_1.1, ow [v0_2] s0_1.2, owp v0_3 (MapP.mk0 : MapP Bool), junk w0 hz] a w) (fun s0_1 => ?_) ?_)))))
  ·
   refine gW (.p 2 (.p 5 (.q 0 (.q 3 (.q 6 (.p 7 (.e 1 (.e 4 (.e 8 (.e 9 (.p 10 (.e 11 (.p 12 .fin) .nil)) .nil) (.e 9 (.e 8 (.p 10 (.e 11 (.p 12 .fin) .nil)) .nil) .nil)) (.e 8 (.e 4 (.e 9 (.p 10 (.e 11 (.p 12 .fin) .nil)) .nil) (.e 9 (.e 4 (.p 10 (.e 11 (.p 12 .fin) .nil)) .nil) .nil)) (.e 9 (.e 4 (.e 8 (.p 10 (.e 11 (.p 12 .fin) .nil)) .nil) (.e 8 (.e 4 (.p 10 (.e 11 (.p 12 .fin) .nil)) .nil) .nil)) .nil))) (.e 8 (.e 1 (.e 4 (.e 9 (.p 10 (.e 11 (.p 12 .fin) .nil)) .nil) (.e 9 (.e 4 (.p 10 (.e 11 (.p 12 .fin) .nil)) .nil) .nil)) (.e 9 (.e 1 (.e 4 (.p 10 (.e 11 (.p 12 .fin) .nil)) .nil) .nil) .nil)) (.e 9 (.e 1 (.e 4 (.e 8 (.p 10 (.e 11 (.p 12 .fin) .nil)) .nil) (.e 8 (.e 4 (.p 10 (.e 11 (.p 12 .fin) .nil)) .nil) .nil)) (.e 8 (.e 1 (.e 4 (.p 10 (.e 11 (.p 12 .fin) .nil)) .nil) .nil) .nil)) .nil))))))))) [0, 1, 3, 4, 6, 8, 9] [2, 5, 7, 10, 12] hm [0, 1] [blk b0_1 [(nV c_.params), (nV c_.regs), v1] 57, junk w0 hz] rfl mxo (by kernel_rfl) (fun _ _ _ h => h.2) fun w hm hS => tP rfl (fun w => yF fo_57_1 rfl) (tP rfl (fun w => yF fo_57_2 rfl) (tQ rfl hS (fun w hm => yn (hm.blk_at 0 rfl) isAgg57 sizeOf57 rfl) (tQ rfl hS (fun w hm => yL hm 0 isAgg3 rfl) (tQ rfl hS (fun w hm => yL hm 0 isAgg55 rfl) ?_))))
   obtain ⟨p1_1, c1_1, rfl, hl1_1⟩ := ro_slice h1
   refine tP rfl (fun w => yV st_55 rfl) (gb fun pb1_1 hpb1_1 => gb fun pb1_2 hpb1_2 => tJg (.e 1 (.e 4 (.e 8 (.e 9 (.p 10 (.e 11 .fin .nil)) .nil) (.e 9 (.e 8 (.p 10 (.e 11 .fin .nil)) .nil) .nil)) (.e 8 (.e 4 (.e 9 (.p 10 (.e 11 .fin .nil)) .nil) (.e 9 (.e 4 (.p 10 (.e 11 .fin .nil)) .nil) .nil)) (.e 9 (.e 4 (.e 8 (.p 10 (.e 11 .fin .nil)) .nil) (.e 8 (.e 4 (.p 10 (.e 11 .fin .nil)) .nil) .nil)) .nil))) (.e 8 (.e 1 (.e 4 (.e 9 (.p 10 (.e 11 .fin .nil)) .nil) (.e 9 (.e 4 (.p 10 (.e 11 .fin .nil)) .nil) .nil)) (.e 9 (.e 1 (.e 4 (.p 10 (.e 11 .fin .nil)) .nil) .nil) .nil)) (.e 9 (.e 1 (.e 4 (.e 8 (.p 10 (.e 11 .fin .nil)) .nil) (.e 8 (.e 4 (.p 10 (.e 11 .fin .nil)) .nil) .nil)) (.e 8 (.e 1 (.e 4 (.p 10 (.e 11 .fin .nil)) .nil) .nil) .nil)) .nil))) (.p 12 .fin) rfl (fun s1_1 a w => ∃ (b1_1 : Nat) (v1_1 : Value) (v1_2 : Value) (v1_3 : Value), St 37 [(1, (pV b0_1)), (16, (pV b1_1))] w0 hz [blk b0_1 [(nV c_.params), (nV c_.regs), (.slice p1_1 c_.blocks.length c1_1)] 57, blk b1_1 [(nV c_.params), (nV c_.regs), (.slice p1_1 c_.blocks.length c1_1), v1_1, v1_2, v1_3] 90, ow [v1_1] pb1_1, ow [v1_2] pb1_2, owp v1_3 (MapP.mk0 : MapP Bool), junk w0 hz] a w) (fun s1_1 => ?_) ?_)
   ·
    refine tMo ?_ ?_
    ·
     refine tf rfl rfl (fun a hf => e_build (vs := #[(0, (nV (-2)))]) (cs := [(nV (-2))]) et_37 hf hm rfl rfl (by kernel_rfl) rfl rfl) ?_
     rintro _ w ⟨b2_1, rfl, hm⟩
     replace hm := hm.lit (xs := ([-2] : List Int)) 0 rfl rfl rfl rfl
     refine tAk hm [1, 2] rfl fun hS => tMo ?_ ?_
     ·
      refine tf rfl rfl (fun a hf => e_call hf rfl call134 rfl (slices_Repeat_S_int_int_ok _ ([-2] : List Int) (sV b2_1 0 1 1) (hm.ow_rep 0 rfl) c_.regs _ hpb1_1)) ?_
      rintro v2_1 w ⟨_, rfl, hB⟩
      replace hm := hm.give hB; clear hB
      refine tAk hm [2, 3] rfl fun hS => tMo ?_ ?_
      ·
       obtain ⟨⟨h2_11, h2_12⟩, h2_1e⟩ := makeM_some.1 hpb1_2
       refine tf rfl rfl (fun a hf => e_make (x0 := (false : Bool)) et_58 (fun _ => (Flat.own_iff.2 rfl)) hf hm rfl rfl rfl h2_11 (Int.le_refl _) h2_12) ?_
       rintro v2_3 w hm
       rw [h2_1e] at hm
       have h2_1l : (pb1_2.length : Int) = (c_.blocks.length : Int) := by rw [← h2_1e]; simp only [List.length_replicate]; omega
       refine tAk hm [3, 4] rfl fun hS => tO (tf rfl rfl (fun a hf => e_mkP (β := Bool) hm rfl) ?_)
       rintro v2_4 w hm
       refine tAk hm [4, 5] rfl fun hS => ?_
       obtain ⟨p2_1, c2_1, rfl, hl2_1⟩ := ro_slice (hm.ow_rep 2 rfl)
       obtain ⟨p2_2, c2_2, rfl, hl2_2⟩ := ro_slice (hm.ow_rep 1 rfl)
       obtain ⟨m2_1, he⟩ := owp_form hm 0 rfl
       subst he
       refine tP rfl (fun w => yG rfl (y_build (vs := [(0, (.agg #[(nV c_.params), (nV c_.regs), (.slice p1_1 c_.blocks.length c1_1)])), (1, (.slice p2_1 pb1_1.length c2_1)), (2, (.slice p2_2 pb1_2.length c2_2)), (3, (.map (some m2_1)))]) (cs := #[(nV c_.params), (nV c_.regs), (.slice p1_1 c_.blocks.length c1_1), (.slice p2_1 pb1_1.length c2_1), (.slice p2_2 pb1_2.length c2_2), (.map (some m2_1))]) rfl rfl (by kernel_rfl))) (tO (tf rfl rfl (fun a hf => e_box hf hm rfl rfl rfl) ?_))
       rintro _ w ⟨b2_2, rfl, hm⟩
       exact tAn rfl (tE (gZ fun a hf => ⟨b2_2, (.slice p2_1 pb1_1.length c2_1), (.slice p2_2 pb1_2.length c2_2), (.map (some m2_1)), hf.sb rfl, hm.pk [5, 0, 3, 2, 1, 6] rfl rfl⟩))
      refine tO (tf rfl rfl (fun a hf => e_mkP (β := Bool) hm rfl) ?_)
      rintro v2_5 w hm
      refine tAk hm [3, 4] rfl fun hS => tO ?_
      obtain ⟨⟨h2_21, h2_22⟩, h2_2e⟩ := makeM_some.1 hpb1_2
      refine tf rfl rfl (fun a hf => e_make (x0 := (false : Bool)) et_58 (fun _ => (Flat.own_iff.2 rfl)) hf hm rfl rfl rfl h2_21 (Int.le_refl _) h2_22) ?_
      rintro v2_6 w hm
      rw [h2_2e] at hm
      have h2_2l : (pb1_2.length : Int) = (c_.blocks.length : Int) := by rw [← h2_2e]; simp only [List.length_replicate]; omega
      refine tAk hm [4, 5] rfl fun hS => ?_
      obtain ⟨p2_3, c2_3, rfl, hl2_3⟩ := ro_slice (hm.ow_rep 2 rfl)
      obtain ⟨p2_4, c2_4, rfl, hl2_4⟩ := ro_slice (hm.ow_rep 0 rfl)
      obtain ⟨m2_2, he⟩ := owp_form hm 1 rfl
      subst he
      refine tP rfl (fun w => yG rfl (y_build (vs := [(0, (.agg #[(nV c_.params), (nV c_.regs), (.slice p1_1 c_.blocks.length c1_1)])), (1, (.slice p2_3 pb1_1.length c2_3)), (2, (.slice p2_4 pb1_2.length c2_4)), (3, (.map (some m2_2)))]) (cs := #[(nV c_.params), (nV c_.regs), (.slice p1_1 c_.blocks.length c1_1), (.slice p2_3 pb1_1.length c2_3), (.slice p2_4 pb1_2.length c2_4), (.map (some m2_2))]) rfl rfl (by kernel_rfl))) (tO (tf rfl rfl (fun a hf => e_box hf hm rfl rfl rfl) ?_))
      rintro _ w ⟨b2_3, rfl, hm⟩
      exact tAn rfl (tE (gZ fun a hf => ⟨b2_3, (.slice p2_3 pb1_1.length c2_3), (.slice p2_4 pb1_2.length c2_4), (.map (some m2_2)), hf.sb rfl, hm.pk [5, 0, 3, 1, 2, 6] rfl rfl⟩))
     refine tMo ?_ ?_
     ·
      obtain ⟨⟨h2_31, h2_32⟩, h2_3e⟩ := makeM_some.1 hpb1_2
      refine tf rfl rfl (fun a hf => e_make (x0 := (false : Bool)) et_58 (fun _ => (Flat.own_iff.2 rfl)) hf hm rfl rfl rfl h2_31 (Int.le_refl _) h2_32) ?_
      rintro v2_7 w hm
      rw [h2_3e] at hm
      have h2_3l : (pb1_2.length : Int) = (c_.blocks.length : Int) := by rw [← h2_3e]; simp only [List.length_replicate]; omega
      refine tAk hm [2, 3] rfl fun hS => tMo ?_ ?_
      ·
       refine tf rfl rfl (fun a hf => e_call hf rfl call134 rfl (slices_Repeat_S_int_int_ok _ ([-2] : List Int) (sV b2_1 0 1 1) (hm.ow_rep 1 rfl) c_.regs _ hpb1_1)) ?_
       rintro v2_8 w ⟨_, rfl, hB⟩
       replace hm := hm.give hB; clear hB
       refine tAk hm [3, 4] rfl fun hS => tO (tf rfl rfl (fun a hf => e_mkP (β := Bool) hm rfl) ?_)
       rintro v2_10 w hm
       refine tAk hm [4, 5] rfl fun hS => ?_
       obtain ⟨p2_5, c2_5, rfl, hl2_5⟩ := ro_slice (hm.ow_rep 1 rfl)
       obtain ⟨p2_6, c2_6, rfl, hl2_6⟩ := ro_slice (hm.ow_rep 2 rfl)
       obtain ⟨m2_3, he⟩ := owp_form hm 0 rfl
       subst he
       refine tP rfl (fun w => yG rfl (y_build (vs := [(0, (.agg #[(nV c_.params), (nV c_.regs), (.slice p1_1 c_.blocks.length c1_1)])), (1, (.slice p2_5 pb1_1.length c2_5)), (2, (.slice p2_6 pb1_2.length c2_6)), (3, (.map (some m2_3)))]) (cs := #[(nV c_.params), (nV c_.regs), (.slice p1_1 c_.blocks.length c1_1), (.slice p2_5 pb1_1.length c2_5), (.slice p2_6 pb1_2.length c2_6), (.map (some m2_3))]) rfl rfl (by kernel_rfl))) (tO (tf rfl rfl (fun a hf => e_box hf hm rfl rfl rfl) ?_))
       rintro _ w ⟨b2_4, rfl, hm⟩
       exact tAn rfl (tE (gZ fun a hf => ⟨b2_4, (.slice p2_5 pb1_1.length c2_5), (.slice p2_6 pb1_2.length c2_6), (.map (some m2_3)), hf.sb rfl, hm.pk [5, 0, 2, 3, 1, 6] rfl rfl⟩))
      refine tO (tf rfl rfl (fun a hf => e_mkP (β := Bool) hm rfl) ?_)
      rintro v2_11 w hm
      refine tAk hm [3, 4] rfl fun hS => tO (tf rfl rfl (fun a hf => e_call hf rfl call134 rfl (slices_Repeat_S_int_int_ok _ ([-2] : List Int) (sV b2_1 0 1 1) (hm.ow_rep 2 rfl) c_.regs _ hpb1_1)) ?_)
      rintro v2_12 w ⟨_, rfl, hB⟩
      replace hm := hm.give hB; clear hB
      refine tAk hm [4, 5] rfl fun hS => ?_
      obtain ⟨p2_7, c2_7, rfl, hl2_7⟩ := ro_slice (hm.ow_rep 0 rfl)
      obtain ⟨p2_8, c2_8, rfl, hl2_8⟩ := ro_slice (hm.ow_rep 2 rfl)
      obtain ⟨m2_4, he⟩ := owp_form hm 1 rfl
      subst he
      refine tP rfl (fun w => yG rfl (y_build (vs := [(0, (.agg #[(nV c_.params), (nV c_.regs), (.slice p1_1 c_.blocks.length c1_1)])), (1, (.slice p2_7 pb1_1.length c2_7)), (2, (.slice p2_8 pb1_2.length c2_8)), (3, (.map (some m2_4)))]) (cs := #[(nV c_.params), (nV c_.regs), (.slice p1_1 c_.blocks.length c1_1), (.slice p2_7 pb1_1.length c2_7), (.slice p2_8 pb1_2.length c2_8), (.map (some m2_4))]) rfl rfl (by kernel_rfl))) (tO (tf rfl rfl (fun a hf => e_box hf hm rfl rfl rfl) ?_))
      rintro _ w ⟨b2_5, rfl, hm⟩
      exact tAn rfl (tE (gZ fun a hf => ⟨b2_5, (.slice p2_7 pb1_1.length c2_7), (.slice p2_8 pb1_2.length c2_8), (.map (some m2_4)), hf.sb rfl, hm.pk [5, 0, 1, 3, 2, 6] rfl rfl⟩))
     refine tO (tf rfl rfl (fun a hf => e_mkP (β := Bool) hm rfl) ?_)
     rintro v2_14 w hm
     refine tAk hm [2, 3] rfl fun hS => tMo ?_ ?_
     ·
      refine tf rfl rfl (fun a hf => e_call hf rfl call134 rfl (slices_Repeat_S_int_int_ok _ ([-2] : List Int) (sV b2_1 0 1 1) (hm.ow_rep 1 rfl) c_.regs _ hpb1_1)) ?_
      rintro v2_15 w ⟨_, rfl, hB⟩
      replace hm := hm.give hB; clear hB
      refine tAk hm [3, 4] rfl fun hS => tO ?_
      obtain ⟨⟨h2_41, h2_42⟩, h2_4e⟩ := makeM_some.1 hpb1_2
      refine tf rfl rfl (fun a hf => e_make (x0 := (false : Bool)) et_58 (fun _ => (Flat.own_iff.2 rfl)) hf hm rfl rfl rfl h2_41 (Int.le_refl _) h2_42) ?_
      rintro v2_17 w hm
      rw [h2_4e] at hm
      have h2_4l : (pb1_2.length : Int) = (c_.blocks.length : Int) := by rw [← h2_4e]; simp only [List.length_replicate]; omega
      refine tAk hm [4, 5] rfl fun hS => ?_
      obtain ⟨p2_9, c2_9, rfl, hl2_9⟩ := ro_slice (hm.ow_rep 1 rfl)
      obtain ⟨p2_10, c2_10, rfl, hl2_10⟩ := ro_slice (hm.ow_rep 0 rfl)
      obtain ⟨m2_5, he⟩ := owp_form hm 2 rfl
      subst he
      refine tP rfl (fun w => yG rfl (y_build (vs := [(0, (.agg #[(nV c_.params), (nV c_.regs), (.slice p1_1 c_.blocks.length c1_1)])), (1, (.slice p2_9 pb1_1.length c2_9)), (2, (.slice p2_10 pb1_2.length c2_10)), (3, (.map (some m2_5)))]) (cs := #[(nV c_.params), (nV c_.regs), (.slice p1_1 c_.blocks.length c1_1), (.slice p2_9 pb1_1.length c2_9), (.slice p2_10 pb1_2.length c2_10), (.map (some m2_5))]) rfl rfl (by kernel_rfl))) (tO (tf rfl rfl (fun a hf => e_box hf hm rfl rfl rfl) ?_))
      rintro _ w ⟨b2_6, rfl, hm⟩
      exact tAn rfl (tE (gZ fun a hf => ⟨b2_6, (.slice p2_9 pb1_1.length c2_9), (.slice p2_10 pb1_2.length c2_10), (.map (some m2_5)), hf.sb rfl, hm.pk [5, 0, 2, 1, 3, 6] rfl rfl⟩))
     refine tO ?_
     obtain ⟨⟨h2_51, h2_52⟩, h2_5e⟩ := makeM_some.1 hpb1_2
     refine tf rfl rfl (fun a hf => e_make (x0 := (false : Bool)) et_58 (fun _ => (Flat.own_iff.2 rfl)) hf hm rfl rfl rfl h2_51 (Int.le_refl _) h2_52) ?_
     rintro v2_18 w hm
     rw [h2_5e] at hm
     have h2_5l : (pb1_2.length : Int) = (c_.blocks.length : Int) := by rw [← h2_5e]; simp only [List.length_replicate]; omega
     refine tAk hm [3, 4] rfl fun hS => tO (tf rfl rfl (fun a hf => e_call hf rfl call134 rfl (slices_Repeat_S_int_int_ok _ ([-2] : List Int) (sV b2_1 0 1 1) (hm.ow_rep 2 rfl) c_.regs _ hpb1_1)) ?_)
     rintro v2_19 w ⟨_, rfl, hB⟩
     replace hm := hm.give hB; clear hB
     refine tAk hm [4, 5] rfl fun hS => ?_
     obtain ⟨p2_11, c2_11, rfl, hl2_11⟩ := ro_slice (hm.ow_rep 0 rfl)
     obtain ⟨p2_12, c2_12, rfl, hl2_12⟩ := ro_slice (hm.ow_rep 1 rfl)
     obtain ⟨m2_6, he⟩ := owp_form hm 2 rfl
     subst he
     refine tP rfl (fun w => yG rfl (y_build (vs := [(0, (.agg #[(nV c_.params), (nV c_.regs), (.slice p1_1 c_.blocks.length c1_1)])), (1, (.slice p2_11 pb1_1.length c2_11)), (2, (.slice p2_12 pb1_2.length c2_12)), (3, (.map (some m2_6)))]) (cs := #[(nV c_.params), (nV c_.regs), (.slice p1_1 c_.blocks.length c1_1), (.slice p2_11 pb1_1.length c2_11), (.slice p2_12 pb1_2.length c2_12), (.map (some m2_6))]) rfl rfl (by kernel_rfl))) (tO (tf rfl rfl (fun a hf => e_box hf hm rfl rfl rfl) ?_))
     rintro _ w ⟨b2_7, rfl, hm⟩
     exact tAn rfl (tE (gZ fun a hf => ⟨b2_7, (.slice p2_11 pb1_1.length c2_11), (.slice p2_12 pb1_2.length c2_12), (.map (some m2_6)), hf.sb rfl, hm.pk [5, 0, 1, 2, 3, 6] rfl rfl⟩))
    refine tMo ?_ ?_
    ·
     obtain ⟨⟨h2_61, h2_62⟩, h2_6e⟩ := makeM_some.1 hpb1_2
     refine tf rfl rfl (fun a hf => e_make (x0 := (false : Bool)) et_58 (fun _ => (Flat.own_iff.2 rfl)) hf hm rfl rfl rfl h2_61 (Int.le_refl _) h2_62) ?_
     rintro v2_21 w hm
     rw [h2_6e] at hm
     have h2_6l : (pb1_2.length : Int) = (c_.blocks.length : Int) := by rw [← h2_6e]; simp only [List.length_replicate]; omega
     refine tAk hm [1, 2] rfl fun hS => tMo ?_ ?_
     ·
      refine tf rfl rfl (fun a hf => e_build (vs := #[(0, (nV (-2)))]) (cs := [(nV (-2))]) et_37 hf hm rfl rfl (by kernel_rfl) rfl rfl) ?_
      rintro _ w ⟨b2_8, rfl, hm⟩
      replace hm := hm.lit (xs := ([-2] : List Int)) 0 rfl rfl rfl rfl
      refine tAk hm [2, 3] rfl fun hS => tMo ?_ ?_
      ·
       refine tf rfl rfl (fun a hf => e_call hf rfl call134 rfl (slices_Repeat_S_int_int_ok _ ([-2] : List Int) (sV b2_8 0 1 1) (hm.ow_rep 0 rfl) c_.regs _ hpb1_1)) ?_
       rintro v2_22 w ⟨_, rfl, hB⟩
       replace hm := hm.give hB; clear hB
       refine tAk hm [3, 4] rfl fun hS => tO (tf rfl rfl (fun a hf => e_mkP (β := Bool) hm rfl) ?_)
       rintro v2_24 w hm
       refine tAk hm [4, 5] rfl fun hS => ?_
       obtain ⟨p2_13, c2_13, rfl, hl2_13⟩ := ro_slice (hm.ow_rep 1 rfl)
       obtain ⟨p2_14, c2_14, rfl, hl2_14⟩ := ro_slice (hm.ow_rep 3 rfl)
       obtain ⟨m2_7, he⟩ := owp_form hm 0 rfl
       subst he
       refine tP rfl (fun w => yG rfl (y_build (vs := [(0, (.agg #[(nV c_.params), (nV c_.regs), (.slice p1_1 c_.blocks.length c1_1)])), (1, (.slice p2_13 pb1_1.length c2_13)), (2, (.slice p2_14 pb1_2.length c2_14)), (3, (.map (some m2_7)))]) (cs := #[(nV c_.params), (nV c_.regs), (.slice p1_1 c_.blocks.length c1_1), (.slice p2_13 pb1_1.length c2_13), (.slice p2_14 pb1_2.length c2_14), (.map (some m2_7))]) rfl rfl (by kernel_rfl))) (tO (tf rfl rfl (fun a hf => e_box hf hm rfl rfl rfl) ?_))
       rintro _ w ⟨b2_9, rfl, hm⟩
       exact tAn rfl (tE (gZ fun a hf => ⟨b2_9, (.slice p2_13 pb1_1.length c2_13), (.slice p2_14 pb1_2.length c2_14), (.map (some m2_7)), hf.sb rfl, hm.pk [5, 0, 2, 4, 1, 6] rfl rfl⟩))
      refine tO (tf rfl rfl (fun a hf => e_mkP (β := Bool) hm rfl) ?_)
      rintro v2_25 w hm
      refine tAk hm [3, 4] rfl fun hS => tO (tf rfl rfl (fun a hf => e_call hf rfl call134 rfl (slices_Repeat_S_int_int_ok _ ([-2] : List Int) (sV b2_8 0 1 1) (hm.ow_rep 1 rfl) c_.regs _ hpb1_1)) ?_)
      rintro v2_26 w ⟨_, rfl, hB⟩
      replace hm := hm.give hB; clear hB
      refine tAk hm [4, 5] rfl fun hS => ?_
      obtain ⟨p2_15, c2_15, rfl, hl2_15⟩ := ro_slice (hm.ow_rep 0 rfl)
      obtain ⟨p2_16, c2_16, rfl, hl2_16⟩ := ro_slice (hm.ow_rep 3 rfl)
      obtain ⟨m2_8, he⟩ := owp_form hm 1 rfl
      subst he
      refine tP rfl (fun w => yG rfl (y_build (vs := [(0, (.agg #[(nV c_.params), (nV c_.regs), (.slice p1_1 c_.blocks.length c1_1)])), (1, (.slice p2_15 pb1_1.length c2_15)), (2, (.slice p2_16 pb1_2.length c2_16)), (3, (.map (some m2_8)))]) (cs := #[(nV c_.params), (nV c_.regs), (.slice p1_1 c_.blocks.length c1_1), (.slice p2_15 pb1_1.length c2_15), (.slice p2_16 pb1_2.length c2_16), (.map (some m2_8))]) rfl rfl (by kernel_rfl))) (tO (tf rfl rfl (fun a hf => e_box hf hm rfl rfl rfl) ?_))
      rintro _ w ⟨b2_10, rfl, hm⟩
      exact tAn rfl (tE (gZ fun a hf => ⟨b2_10, (.slice p2_15 pb1_1.length c2_15), (.slice p2_16 pb1_2.length c2_16), (.map (some m2_8)), hf.sb rfl, hm.pk [5, 0, 1, 4, 2, 6] rfl rfl⟩))
     refine tO (tf rfl rfl (fun a hf => e_mkP (β := Bool) hm rfl) ?_)
     rintro v2_28 w hm
     refine tAk hm [2, 3] rfl fun hS => tO (tf rfl rfl (fun a hf => e_build (vs := #[(0, (nV (-2)))]) (cs := [(nV (-2))]) et_37 hf hm rfl rfl (by kernel_rfl) rfl rfl) ?_)
     rintro _ w ⟨b2_11, rfl, hm⟩
     replace hm := hm.lit (xs := ([-2] : List Int)) 0 rfl rfl rfl rfl
     refine tAk hm [3, 4] rfl fun hS => tO (tf rfl rfl (fun a hf => e_call hf rfl call134 rfl (slices_Repeat_S_int_int_ok _ ([-2] : List Int) (sV b2_11 0 1 1) (hm.ow_rep 0 rfl) c_.regs _ hpb1_1)) ?_)
     rintro v2_29 w ⟨_, rfl, hB⟩
     replace hm := hm.give hB; clear hB
     refine tAk hm [4, 5] rfl fun hS => ?_
     obtain ⟨p2_17, c2_17, rfl, hl2_17⟩ := ro_slice (hm.ow_rep 0 rfl)
     obtain ⟨p2_18, c2_18, rfl, hl2_18⟩ := ro_slice (hm.ow_rep 3 rfl)
     obtain ⟨m2_9, he⟩ := owp_form hm 2 rfl
     subst he
     refine tP rfl (fun w => yG rfl (y_build (vs := [(0, (.agg #[(nV c_.params), (nV c_.regs), (.slice p1_1 c_.blocks.length c1_1)])), (1, (.slice p2_17 pb1_1.length c2_17)), (2, (.slice p2_18 pb1_2.length c2_18)), (3, (.map (some m2_9)))]) (cs := #[(nV c_.params), (nV c_.regs), (.slice p1_1 c_.blocks.length c1_1), (.slice p2_17 pb1_1.length c2_17), (.slice p2_18 pb1_2.length c2_18), (.map (some m2_9))]) rfl rfl (by kernel_rfl))) (tO (tf rfl rfl (fun a hf => e_box hf hm rfl rfl rfl) ?_))
     rintro _ w ⟨b2_12, rfl, hm⟩
     exact tAn rfl (tE (gZ fun a hf => ⟨b2_12, (.slice p2_17 pb1_1.length c2_17), (.slice p2_18 pb1_2.length c2_18), (.map (some m2_9)), hf.sb rfl, hm.pk [5, 0, 1, 4, 3, 6] rfl rfl⟩))
    refine tO (tf rfl rfl (fun a hf => e_mkP (β := Bool) hm rfl) ?_)
    rintro v2_31 w hm
    refine tAk hm [1, 2] rfl fun hS => tMo ?_ ?_
    ·
     refine tf rfl rfl (fun a hf => e_build (vs := #[(0, (nV (-2)))]) (cs := [(nV (-2))]) et_37 hf hm rfl rfl (by kernel_rfl) rfl rfl) ?_
     rintro _ w ⟨b2_13, rfl, hm⟩
     replace hm := hm.lit (xs := ([-2] : List Int)) 0 rfl rfl rfl rfl
     refine tAk hm [2, 3] rfl fun hS => tMo ?_ ?_
     ·
      refine tf rfl rfl (fun a hf => e_call hf rfl call134 rfl (slices_Repeat_S_int_int_ok _ ([-2] : List Int) (sV b2_13 0 1 1) (hm.ow_rep 0 rfl) c_.regs _ hpb1_1)) ?_
      rintro v2_32 w ⟨_, rfl, hB⟩
      replace hm := hm.give hB; clear hB
      refine tAk hm [3, 4] rfl fun hS => tO ?_
      obtain ⟨⟨h2_71, h2_72⟩, h2_7e⟩ := makeM_some.1 hpb1_2
      refine tf rfl rfl (fun a hf => e_make (x0 := (false : Bool)) et_58 (fun _ => (Flat.own_iff.2 rfl)) hf hm rfl rfl rfl h2_71 (Int.le_refl _) h2_72) ?_
      rintro v2_34 w hm
      rw [h2_7e] at hm
      have h2_7l : (pb1_2.length : Int) = (c_.blocks.length : Int) := by rw [← h2_7e]; simp only [List.length_replicate]; omega
      refine tAk hm [4, 5] rfl fun hS => ?_
      obtain ⟨p2_19, c2_19, rfl, hl2_19⟩ := ro_slice (hm.ow_rep 1 rfl)
      obtain ⟨p2_20, c2_20, rfl, hl2_20⟩ := ro_slice (hm.ow_rep 0 rfl)
      obtain ⟨m2_10, he⟩ := owp_form hm 3 rfl
      subst he
      refine tP rfl (fun w => yG rfl (y_build (vs := [(0, (.agg #[(nV c_.params), (nV c_.regs), (.slice p1_1 c_.blocks.length c1_1)])), (1, (.slice p2_19 pb1_1.length c2_19)), (2, (.slice p2_20 pb1_2.length c2_20)), (3, (.map (some m2_10)))]) (cs := #[(nV c_.params), (nV c_.regs), (.slice p1_1 c_.blocks.length c1_1), (.slice p2_19 pb1_1.length c2_19), (.slice p2_20 pb1_2.length c2_20), (.map (some m2_10))]) rfl rfl (by kernel_rfl))) (tO (tf rfl rfl (fun a hf => e_box hf hm rfl rfl rfl) ?_))
      rintro _ w ⟨b2_14, rfl, hm⟩
      exact tAn rfl (tE (gZ fun a hf => ⟨b2_14, (.slice p2_19 pb1_1.length c2_19), (.slice p2_20 pb1_2.length c2_20), (.map (some m2_10)), hf.sb rfl, hm.pk [5, 0, 2, 1, 4, 6] rfl rfl⟩))
     refine tO ?_
     obtain ⟨⟨h2_81, h2_82⟩, h2_8e⟩ := makeM_some.1 hpb1_2
     refine tf rfl rfl (fun a hf => e_make (x0 := (false : Bool)) et_58 (fun _ => (Flat.own_iff.2 rfl)) hf hm rfl rfl rfl h2_81 (Int.le_refl _) h2_82) ?_
     rintro v2_35 w hm
     rw [h2_8e] at hm
     have h2_8l : (pb1_2.length : Int) = (c_.blocks.length : Int) := by rw [← h2_8e]; simp only [List.length_replicate]; omega
     refine tAk hm [3, 4] rfl fun hS => tO (tf rfl rfl (fun a hf => e_call hf rfl call134 rfl (slices_Repeat_S_int_int_ok _ ([-2] : List Int) (sV b2_13 0 1 1) (hm.ow_rep 1 rfl) c_.regs _ hpb1_1)) ?_)
     rintro v2_36 w ⟨_, rfl, hB⟩
     replace hm := hm.give hB; clear hB
     refine tAk hm [4, 5] rfl fun hS => ?_
     obtain ⟨p2_21, c2_21, rfl, hl2_21⟩ := ro_slice (hm.ow_rep 0 rfl)
     obtain ⟨p2_22, c2_22, rfl, hl2_22⟩ := ro_slice (hm.ow_rep 1 rfl)
     obtain ⟨m2_11, he⟩ := owp_form hm 3 rfl
     subst he
     refine tP rfl (fun w => yG rfl (y_build (vs := [(0, (.agg #[(nV c_.params), (nV c_.regs), (.slice p1_1 c_.blocks.length c1_1)])), (1, (.slice p2_21 pb1_1.length c2_21)), (2, (.slice p2_22 pb1_2.length c2_22)), (3, (.map (some m2_11)))]) (cs := #[(nV c_.params), (nV c_.regs), (.slice p1_1 c_.blocks.length c1_1), (.slice p2_21 pb1_1.length c2_21), (.slice p2_22 pb1_2.length c2_22), (.map (some m2_11))]) rfl rfl (by kernel_rfl))) (tO (tf rfl rfl (fun a hf => e_box hf hm rfl rfl rfl) ?_))
     rintro _ w ⟨b2_15, rfl, hm⟩
     exact tAn rfl (tE (gZ fun a hf => ⟨b2_15, (.slice p2_21 pb1_1.length c2_21), (.slice p2_22 pb1_2.length c2_22), (.map (some m2_11)), hf.sb rfl, hm.pk [5, 0, 1, 2, 4, 6] rfl rfl⟩))
    refine tO ?_
    obtain ⟨⟨h2_91, h2_92⟩, h2_9e⟩ := makeM_some.1 hpb1_2
    refine tf rfl rfl (fun a hf => e_make (x0 := (false : Bool)) et_58 (fun _ => (Flat.own_iff.2 rfl)) hf hm rfl rfl rfl h2_91 (Int.le_refl _) h2_92) ?_
    rintro v2_38 w hm
    rw [h2_9e] at hm
    have h2_9l : (pb1_2.length : Int) = (c_.blocks.length : Int) := by rw [← h2_9e]; simp only [List.length_replicate]; omega
    refine tAk hm [2, 3] rfl fun hS => tO (tf rfl rfl (fun a hf => e_build (vs := #[(0, (nV (-2)))]) (cs := [(nV (-2))]) et_37 hf hm rfl rfl (by kernel_rfl) rfl rfl) ?_)
    rintro _ w ⟨b2_16, rfl, hm⟩
    replace hm := hm.lit (xs := ([-2] : List Int)) 0 rfl rfl rfl rfl
    refine tAk hm [3, 4] rfl fun hS => tO (tf rfl rfl (fun a hf => e_call hf rfl call134 rfl (slices_Repeat_S_int_int_ok _ ([-2] : List Int) (sV b2_16 0 1 1) (hm.ow_rep 0 rfl) c_.regs _ hpb1_1)) ?_)
    rintro v2_39 w ⟨_, rfl, hB⟩
    replace hm := hm.give hB; clear hB
    refine tAk hm [4, 5] rfl fun hS => ?_
    obtain ⟨p2_23, c2_23, rfl, hl2_23⟩ := ro_slice (hm.ow_rep 0 rfl)
    obtain ⟨p2_24, c2_24, rfl, hl2_24⟩ := ro_slice (hm.ow_rep 2 rfl)
    obtain ⟨m2_12, he⟩ := owp_form hm 3 rfl
    subst he
    refine tP rfl (fun w => yG rfl (y_build (vs := [(0, (.agg #[(nV c_.params), (nV c_.regs), (.slice p1_1 c_.blocks.length c1_1)])), (1, (.slice p2_23 pb1_1.length c2_23)), (2, (.slice p2_24 pb1_2.length c2_24)), (3, (.map (some m2_12)))]) (cs := #[(nV c_.params), (nV c_.regs), (.slice p1_1 c_.blocks.length c1_1), (.slice p2_23 pb1_1.length c2_23), (.slice p2_24 pb1_2.length c2_24), (.map (some m2_12))]) rfl rfl (by kernel_rfl))) (tO (tf rfl rfl (fun a hf => e_box hf hm rfl rfl rfl) ?_))
    rintro _ w ⟨b2_17, rfl, hm⟩
    exact tAn rfl (tE (gZ fun a hf => ⟨b2_17, (.slice p2_23 pb1_1.length c2_23), (.slice p2_24 pb1_2.length c2_24), (.map (some m2_12)), hf.sb rfl, hm.pk [5, 0, 1, 3, 4, 6] rfl rfl⟩))
   repeat clear hm
   rintro s1_1 a w ⟨b1_1, v1_1, v1_2, v1_3, hf, hm⟩
   exact gv hf (tP rfl (fun w => yA rfl) (tE (gZ fun a hf => ⟨b1_1, v1_1, v1_2, v1_3, hf.sb rfl, hm.pk [0, 1, 2, 3, 4, 5] rfl rfl⟩)))
  repeat clear hm
  rintro s0_1 a w ⟨b0_2, v0_1, v0_2, v0_3, hf, hm⟩
  refine gv hf (gS (gS (gR (gF fo_57_0 rfl (gL hm 0 isAgg3 rfl (gM rfl (gE ?_)))))))
  obtain ⟨p0_1, c0_1, rfl, hl0_1⟩ := ro_slice (hm.ow_rep 2 rfl)
  obtain ⟨p0_2, c0_2, rfl, hl0_2⟩ := ro_slice (hm.ow_rep 3 rfl)
  refine gBk (gb fun _ hfit0_1 => ?_)
  replace hfit0_1 := fitI_some.1 hfit0_1
  refine gNf hm (fun i1_1 xs1_1 => [(3, (pV b0_2)), (18, (nV c_.params)), (19, (nV i1_1))]) (fun i1_1 xs1_1 => [blk b0_2 [(nV c_.params), (nV c_.regs), v1, (.slice p0_1 s0_1.1.length c0_1), (.slice p0_2 s0_1.2.length c0_2), v0_3] 90, ow [(.slice p0_1 s0_1.1.length c0_1)] xs1_1, ow [(.slice p0_2 s0_1.2.length c0_2)] s0_1.2, owp v0_3 (MapP.mk0 : MapP Bool), junk w0 hz]) [1, 2, 3, 4, 5] rfl ?_ ?_
  ·
   repeat clear hm
   intro _ _ i1_1 xs1_1 w hm hi0_1 hi0_2 q0_1 _
   refine gS (gR (gB rfl (gE (gS (go _ 20 rfl (decide_eq_true (by omega)) (gct rfl (gSk (gS (gBk (gS (gR (gM rfl (gA rfl (gE (gR (gM rfl (gY (yG rfl (y_nilptr rfl rfl)) (gF fo_90_1 rfl (gL hm 0 isAgg37 rfl (gM rfl (gg fun x1_1 h1_1 hx1_2 => ?_)))))))))))))))))))))
   obtain ⟨b1_2, o1_1, c1_2, he⟩ := idx_form (hm.ow_rep 1 rfl) hx1_2
   simp only [Value.slice.injEq, Option.some.injEq] at he; obtain ⟨rfl, _, rfl⟩ := he
   have hL1_1 := rep_slice_len (hm.ow_rep 1 rfl)
   refine gI st_37 h1_1 (idx_lt2 hx1_2 hL1_1) rfl (gf0 rfl (fun a hf => e_setElem (x1 := -1) (j := 0) (vs := [(nV (-1))]) 1 hf hm rfl hx1_2 rfl sizeOf3 rfl rfl rfl (one_cons rfl one_nil) rfl rfl) ?_)
   rintro _ w hm
   have hx1_3 := List.getElem?_set_self (a := -1) (idx_lt hx1_2)
   exact gE (gR (gP (by omega) (by omega) rfl (gM rfl (gE (gze hm [0, 1, 2, 3, 4] rfl)))))
  repeat clear hm
  intro i0_1 xs0_1 w hm hi0_3 hi0_4
  refine gS (gR (gB rfl (gE (gS (go _ 20 rfl (decide_eq_false (by omega)) (gcf rfl (gXt (gHh (gS (gR (gM rfl (gY (yG rfl (y_nilptr rfl rfl)) (gF fo_90_2 rfl (gL hm 0 isAgg58 rfl (gg fun x0_1 h0_1 hx0_2 => ?_)))))))))))))))
  obtain ⟨b0_3, o0_1, c0_3, he⟩ := idx_form (hm.ow_rep 2 rfl) hx0_2
  simp only [Value.slice.injEq, Option.some.injEq] at he; obtain ⟨rfl, _, rfl⟩ := he
  refine gI st_58 h0_1 (idx_lt hx0_2) rfl (gf0 rfl (fun a hf => e_setElem (x1 := true) (j := 0) (vs := [(.bool (true))]) 2 hf hm rfl hx0_2 rfl sizeOf4 rfl rfl rfl (one_cons rfl one_nil) rfl rfl) ?_)
  rintro _ w hm
  have hx0_3 := List.getElem?_set_self (a := true) (idx_lt hx0_2)
  refine gE (gS (gJg (fun s0_2 a w => ∃ (v0_4 : Value) (v0_5 : Value) (v0_6 : Value), St 37 [(3, (pV b0_2))] w0 hz [blk b0_2 [(nV s0_2.1), (nV s0_2.2.1), v1, v0_4, v0_5, v0_6] 90, ow [v0_4] s0_2.2.2.1, ow [v0_5] s0_2.2.2.2.1, owp v0_6 s0_2.2.2.2.2, junk w0 hz] a w) (fun s0_2 => ?_) ?_))
  ·
   refine gBk (gMg (fun xs2_1 a w => ∃ (v2_41 : Value) (v2_42 : Value) (v2_43 : Value), St 37 [(3, (pV b0_2))] w0 hz [blk b0_2 [(nV xs2_1.1), (nV xs2_1.2.1), v1, v2_41, v2_42, v2_43] 90, ow [v2_41] xs2_1.2.2.1, ow [v2_42] xs2_1.2.2.2.1, owp v2_43 xs2_1.2.2.2.2, junk w0 hz] a w) (fun a hf => ⟨(.slice p0_1 s0_1.1.length c0_1), (sV b0_3 o0_1 s0_1.2.length c0_2), v0_3, hf.sb rfl, hm.pk [0, 1, 2, 3, 4] rfl rfl⟩) ?_)
   repeat clear hm
   rintro r1_1 hq1_2 xs2_1 a w ⟨v2_41, v2_42, v2_43, hf, hm⟩ q1_1 ho1_1
   refine gv hf (gS (gS (gR (gM rfl ?_))))
   obtain ⟨hz2_12, hle, hm1, hsub, hk2_1⟩ := hm.take2 (L1 := [blk b0_2 [(nV xs2_1.1), (nV xs2_1.2.1), v1, v2_41, v2_42, v2_43] 90, ow [v2_41] xs2_1.2.2.1, ow [v2_42] xs2_1.2.2.2.1, owp v2_43 xs2_1.2.2.2.2]) (L2 := [junk w0 hz]) [0, 1, 2, 3] [4] (by decide) rfl rfl
   refine gCg rfl call135 (pimpl_known__round_ok _ hz2_12 (⟨(⟨xs2_1.1, xs2_1.2.1, c_.blocks⟩ : Code_), xs2_1.2.2.1, xs2_1.2.2.2.1, xs2_1.2.2.2.2⟩ : known) b0_2 v1 (GT.mono hle h1) v2_41 v2_42 v2_43 hm1 ) ?_
   rintro r2_1 hx2_1 v2_44 w ⟨v2_45, v2_46, v2_47, rfl, hB⟩
   replace hm := hk2_1 _ _ hB; clear hB
   refine gE (gs 35 rfl (fun h2_10 => ?_) fun h2_10 => ?_)
   ·
    exact gct rfl (gSk (gBk (gSk (gZe fun a hf => ⟨v2_45, v2_46, v2_47, hf.sb rfl, hm.pk [0, 1, 2, 3, 4] rfl rfl⟩))))
   exact gcf rfl (gXt (gHh (gLp ho1_1 hq1_2 (gZ fun a hf => ⟨v2_45, v2_46, v2_47, hf.sb rfl, hm.pk [0, 1, 2, 3, 4] rfl rfl⟩))))
  repeat clear hm
  rintro s0_2 a w ⟨v0_4, v0_5, v0_6, hf, hm⟩
  exact gv hf (gS (gR (gM rfl (gA rfl (gE (gRt (gr1 results84 rfl ⟨b0_2, v1, v0_4, v0_5, v0_6, hz, rfl, (Heap.le_refl _), h1, hm.pk [4, 0, 1, 2, 3] rfl rfl⟩)))))))

theorem laws_eqIntS_ok (w0 : World) (a_ : List Int) (v1 : Value) (h1 : GT.rep (hp w0) [v1] a_) (b_ : List Int) (v2 : Value) (h2 : GT.rep (hp w0) [v2] b_) :
    ConM Tryz.prog 26 [v1, v2] w0 (laws_eqIntS a_ b_) fun r v w' => v = (.bool (r)) ∧ Below w0.heap.size w0 w' := by
  unfold laws_eqIntS
  refine gcon func26 rfl fun r => ?_
  have hm := Mem.start w0
  refine gS (gR (gA rfl (gE (gS (gS (gR (gM rfl ?_)))))))
  obtain ⟨p0_1, c0_1, rfl, hl0_1⟩ := ro_slice h1
  refine gY (yV st_37 rfl) (gM rfl ?_)
  obtain ⟨p0_2, c0_2, rfl, hl0_2⟩ := ro_slice h2
  refine gY (yV st_37 rfl) (gB rfl (gE (gsd 10 rfl (fun h0_1 => ?_) fun h0_1 => ?_)))
  ·
   exact gct rfl (gS (gR (gA rfl (gE (gRt (gr1 results26 rfl ⟨rfl, hm.below⟩))))))
  refine gcf rfl (gSk (gS (gS (gR (gA rfl (gE (gBk (gNf hm (fun i1_1 xs1_1 => [(0, (.slice p0_1 a_.length c0_1)), (1, (.slice p0_2 b_.length c0_2)), (5, (nV i1_1))]) (fun i1_1 xs1_1 => []) [] rfl ?_ ?_))))))))
  ·
   repeat clear hm
   intro r0_1 hq0_1 i1_1 xs1_1 w hm hi0_1 hi0_2 q0_1 ho0_1
   refine gS (gS (gR (gM rfl (gM rfl (gY (yV st_37 rfl) (gB rfl (gE (go _ 14 rfl (decide_eq_true (by omega)) (gct rfl (gSk (gS (gBk (gS (gW (.p 0 (.p 1 (.p 2 (.p 4 (.p 5 (.p 6 (.q 3 (.e 7 (.p 8 .fin) .nil)))))))) [7] [0, 1, 2, 4, 5, 6, 8] hm [] [] rfl mxo (by kernel_rfl) (fun _ _ _ h => h.2) fun w hm hS => tP rfl (fun w => yM rfl) (tP rfl (fun w => yM rfl) (gg fun x1_1 h1_1 hx1_2 => ?_))))))))))))))))
   obtain ⟨b1_1, o1_1, c1_1, he⟩ := idx_form h1 hx1_2
   simp only [Value.slice.injEq, Option.some.injEq] at he; obtain ⟨rfl, _, rfl⟩ := he
   refine tP rfl (fun w => yI st_37 h1_1 (idx_lt hx1_2) rfl) (tP rfl (fun w => yM rfl) (tP rfl (fun w => yM rfl) (gg fun x1_2 h1_2 hx1_4 => ?_)))
   obtain ⟨b1_2, o1_2, c1_2, he⟩ := idx_form h2 hx1_4
   simp only [Value.slice.injEq, Option.some.injEq] at he; obtain ⟨rfl, _, rfl⟩ := he
   refine tP rfl (fun w => yI st_37 h1_2 (idx_lt hx1_4) rfl) (tQ rfl hS (fun w hm => yl isAgg3 ((flat_cells (cs := [(nV x1_1)]) (hm.now h1) hx1_2 rfl).cell (j := 0) rfl) rfl) (tO (tY rfl (yl isAgg3 ((flat_cells (cs := [(nV x1_2)]) (hm.now h2) hx1_4 rfl).cell (j := 0) rfl) rfl) (tAs hS (tP rfl (fun w => yB rfl) (tE (gsd 25 rfl (fun h1_3 => ?_) fun h1_3 => ?_)))))))
   ·
    exact gct rfl (gS (gR (gA rfl (gE (gRt (gLr ho0_1 hq0_1 (gr1 results26 rfl ⟨rfl, hm.below⟩)))))))
   exact gcf rfl (gSk (gR (gM rfl (gP (by omega) (by omega) rfl (gA rfl (gE (gze hm [] rfl)))))))
  repeat clear hm
  intro i0_1 xs0_1 w hm hi0_3 hi0_4
  exact gS (gS (gR (gM rfl (gM rfl (gY (yV st_37 rfl) (gB rfl (gE (go _ 14 rfl (decide_eq_false (by omega)) (gcf rfl (gXt (gHh (gS (gR (gA rfl (gE (gRt (gr1 results26 rfl ⟨rfl, hm.below⟩)))))))))))))))))

theorem laws_eqPhi_ok (w0 : World) (a_ : Phi_) (v1 : Value) (h1 : GT.rep (hp w0) [v1] a_.args) (b_ : Phi_) (v2 : Value) (h2 : GT.rep (hp w0) [v2] b_.args) :
    ConM Tryz.prog 306 [(.agg #[(nV a_.to), v1]), (.agg #[(nV b_.to), v2])] w0 (laws_eqPhi a_ b_) fun r v w' => v = (.bool (r)) ∧ Below w0.heap.size w0 w' := by
  unfold laws_eqPhi
  refine gcon func306 rfl fun r => ?_
  have hm := Mem.start w0
  refine gS (gR (gBx hm rfl fun b0_1 w hm => gBx hm rfl fun b0_2 w hm => gA rfl (gE (gS (gS (gR (gF fo_143_0 rfl (gL hm 1 isAgg3 rfl (gF fo_143_0 rfl (gL hm 0 isAgg3 rfl (gB rfl (gE (gsd 9 rfl (fun h0_1 => ?_) fun h0_1 => ?_)))))))))))))
  ·
   exact gct rfl (gS (gR (gA rfl (gE (gRt (gr1 results306 rfl ⟨rfl, hm.below⟩))))))
  refine gcf rfl (gSk (gS (gS (gR (gF fo_143_1 rfl (gL hm 1 isAgg37 rfl (gF fo_143_1 rfl (gL hm 0 isAgg37 rfl (gC hm rfl call26 (laws_eqIntS_ok _ a_.args v1 (hm.now h1) b_.args v2 (hm.now h2)) fun r0_1 hx0_1 w hm => gN rfl (gE (gsn 15 rfl (fun h0_2 => ?_) fun h0_2 => ?_)))))))))))
  ·
   exact gct rfl (gS (gR (gA rfl (gE (gRt (gr1 results306 rfl ⟨rfl, hm.below⟩))))))
  exact gcf rfl (gSk (gS (gR (gA rfl (gE (gRt (gr1 results306 rfl ⟨rfl, hm.below⟩)))))))

theorem laws_eqPhiS_ok (w0 : World) (a_ : List Phi_) (v1 : Value) (h1 : GT.rep (hp w0) [v1] a_) (b_ : List Phi_) (v2 : Value) (h2 : GT.rep (hp w0) [v2] b_) :
    ConM Tryz.prog 277 [v1, v2] w0 (laws_eqPhiS a_ b_) fun r v w' => v = (.bool (r)) ∧ Below w0.heap.size w0 w' := by
  unfold laws_eqPhiS
  refine gcon func277 rfl fun r => ?_
  have hm := Mem.start w0
  refine gS (gR (gA rfl (gE (gS (gS (gR (gM rfl ?_)))))))
  obtain ⟨p0_1, c0_1, rfl, hl0_1⟩ := ro_slice h1
  refine gY (yV st_101 rfl) (gM rfl ?_)
  obtain ⟨p0_2, c0_2, rfl, hl0_2⟩ := ro_slice h2
  refine gY (yV st_101 rfl) (gB rfl (gE (gsd 10 rfl (fun h0_1 => ?_) fun h0_1 => ?_)))
  ·
   exact gct rfl (gS (gR (gA rfl (gE (gRt (gr1 results277 rfl ⟨rfl, hm.below⟩))))))
  refine gcf rfl (gSk (gS (gS (gR (gA rfl (gE (gBk (gNf hm (fun i1_1 xs1_1 => [(0, (.slice p0_1 a_.length c0_1)), (1, (.slice p0_2 b_.length c0_2)), (5, (nV i1_1))]) (fun i1_1 xs1_1 => []) [] rfl ?_ ?_))))))))
  ·
   repeat clear hm
   intro r0_1 hq0_1 i1_1 xs1_1 w hm hi0_1 hi0_2 q0_1 ho0_1
   refine gS (gS (gR (gM rfl (gM rfl (gY (yV st_101 rfl) (gB rfl (gE (go _ 14 rfl (decide_eq_true (by omega)) (gct rfl (gSk (gS (gBk (gS (gW (.p 0 (.p 1 (.p 2 (.p 4 (.p 5 (.p 6 (.q 3 (.e 7 (.e 8 (.p 9 .fin) .nil) .nil)))))))) [7] [0, 1, 2, 4, 5, 6, 9] hm [] [] rfl mxo (by kernel_rfl) (fun _ _ _ h => h.2) fun w hm hS => tP rfl (fun w => yM rfl) (tP rfl (fun w => yM rfl) (gg fun x1_1 h1_1 hx1_2 => ?_))))))))))))))))
   obtain ⟨b1_1, o1_1, c1_1, he⟩ := idx_form' h1 hx1_2
   simp only [Value.slice.injEq, Option.some.injEq] at he; obtain ⟨rfl, _, rfl⟩ := he
   obtain ⟨v1_1, hc1_1, h1_2⟩ := rk_Phi_ h1 hx1_2
   refine tP rfl (fun w => yI st_101 h1_1 (idx_lt hx1_2) rfl) (tP rfl (fun w => yM rfl) (tP rfl (fun w => yM rfl) (gg fun x1_2 h1_3 hx1_4 => ?_)))
   obtain ⟨b1_2, o1_2, c1_2, he⟩ := idx_form' h2 hx1_4
   simp only [Value.slice.injEq, Option.some.injEq] at he; obtain ⟨rfl, _, rfl⟩ := he
   obtain ⟨v1_2, hc1_2, h1_4⟩ := rk_Phi_ h2 hx1_4
   refine tP rfl (fun w => yI st_101 h1_3 (idx_lt hx1_4) rfl) (tQ rfl hS (fun w hm => yn (hc1_1.mono hm.lez) isAgg143 sizeOf143 rfl) (tO (tY rfl (yn (hc1_2.mono hm.lez) isAgg143 sizeOf143 rfl) (tAs hS (tO (gb fun r1_1 hx1_5 => tf rfl rfl (fun a hf => e_call hf rfl call306 rfl (laws_eqPhi_ok _ x1_1 v1_1 (hm.now h1_2) x1_2 v1_2 (hm.now h1_4) _ hx1_5)) ?_))))))
   rintro v1_3 w ⟨rfl, hB⟩
   replace hm := hm.below' hB; clear hB
   refine tAn rfl (tP rfl (fun w => yN rfl) (tE (gsn 26 rfl (fun h1_5 => ?_) fun h1_5 => ?_)))
   ·
    exact gct rfl (gS (gR (gA rfl (gE (gRt (gLr ho0_1 hq0_1 (gr1 results277 rfl ⟨rfl, hm.below⟩)))))))
   exact gcf rfl (gSk (gR (gM rfl (gP (by omega) (by omega) rfl (gA rfl (gE (gze hm [] rfl)))))))
  repeat clear hm
  intro i0_1 xs0_1 w hm hi0_3 hi0_4
  exact gS (gS (gR (gM rfl (gM rfl (gY (yV st_101 rfl) (gB rfl (gE (go _ 14 rfl (decide_eq_false (by omega)) (gcf rfl (gXt (gHh (gS (gR (gA rfl (gE (gRt (gr1 results277 rfl ⟨rfl, hm.below⟩)))))))))))))))))

theorem laws_eqIns_ok (w0 : World) (a_ : Ins_) (v1 : Value) (h1 : GT.rep (hp w0) [v1] a_.args) (b_ : Ins_) (v2 : Value) (h2 : GT.rep (hp w0) [v2] b_.args) :
    ConM Tryz.prog 307 [(.agg #[(nV a_.op), (nV a_.to), v1, (nV a_.n_)]), (.agg #[(nV b_.op), (nV b_.to), v2, (nV b_.n_)])] w0 (laws_eqIns a_ b_) fun r v w' => v = (.bool (r)) ∧ Below w0.heap.size w0 w' := by
  unfold laws_eqIns
  refine gcon func307 rfl fun r => ?_
  have hm := Mem.start w0
  refine gS (gR (gBx hm rfl fun b0_1 w hm => gBx hm rfl fun b0_2 w hm => gA rfl (gE (gS (gS (gR (gF fo_106_0 rfl (gL hm 1 isAgg3 rfl (gF fo_106_0 rfl (gL hm 0 isAgg3 rfl (gB rfl (gE (gsd 9 rfl (fun h0_1 => ?_) fun h0_1 => ?_)))))))))))))
  ·
   exact gct rfl (gS (gR (gA rfl (gE (gRt (gr1 results307 rfl ⟨rfl, hm.below⟩))))))
  refine gcf rfl (gSk (gS (gS (gR (gF fo_106_1 rfl (gL hm 1 isAgg3 rfl (gF fo_106_1 rfl (gL hm 0 isAgg3 rfl (gB rfl (gE (gsd 14 rfl (fun h0_2 => ?_) fun h0_2 => ?_)))))))))))
  ·
   exact gct rfl (gS (gR (gA rfl (gE (gRt (gr1 results307 rfl ⟨rfl, hm.below⟩))))))
  refine gcf rfl (gSk (gS (gS (gR (gF fo_106_2 rfl (gL hm 1 isAgg37 rfl (gF fo_106_2 rfl (gL hm 0 isAgg37 rfl (gC hm rfl call26 (laws_eqIntS_ok _ a_.args v1 (hm.now h1) b_.args v2 (hm.now h2)) fun r0_1 hx0_1 w hm => gN rfl (gE (gsn 20 rfl (fun h0_3 => ?_) fun h0_3 => ?_)))))))))))
  ·
   exact gct rfl (gS (gR (gA rfl (gE (gRt (gr1 results307 rfl ⟨rfl, hm.below⟩))))))
  refine gcf rfl (gSk (gS (gS (gR (gF fo_106_3 rfl (gL hm 1 isAgg3 rfl (gF fo_106_3 rfl (gL hm 0 isAgg3 rfl (gB rfl (gE (gsd 25 rfl (fun h0_4 => ?_) fun h0_4 => ?_)))))))))))
  ·
   exact gct rfl (gS (gR (gA rfl (gE (gRt (gr1 results307 rfl ⟨rfl, hm.below⟩))))))
  exact gcf rfl (gSk (gS (gR (gA rfl (gE (gRt (gr1 results307 rfl ⟨rfl, hm.below⟩)))))))

theorem laws_eqInsS_ok (w0 : World) (a_ : List Ins_) (v1 : Value) (h1 : GT.rep (hp w0) [v1] a_) (b_ : List Ins_) (v2 : Value) (h2 : GT.rep (hp w0) [v2] b_) :
    ConM Tryz.prog 278 [v1, v2] w0 (laws_eqInsS a_ b_) fun r v w' => v = (.bool (r)) ∧ Below w0.heap.size w0 w' := by
  unfold laws_eqInsS
  refine gcon func278 rfl fun r => ?_
  have hm := Mem.start w0
  refine gS (gR (gA rfl (gE (gS (gS (gR (gM rfl ?_)))))))
  obtain ⟨p0_1, c0_1, rfl, hl0_1⟩ := ro_slice h1
  refine gY (yV st_102 rfl) (gM rfl ?_)
  obtain ⟨p0_2, c0_2, rfl, hl0_2⟩ := ro_slice h2
  refine gY (yV st_102 rfl) (gB rfl (gE (gsd 10 rfl (fun h0_1 => ?_) fun h0_1 => ?_)))
  ·
   exact gct rfl (gS (gR (gA rfl (gE (gRt (gr1 results278 rfl ⟨rfl, hm.below⟩))))))
  refine gcf rfl (gSk (gS (gS (gR (gA rfl (gE (gBk (gNf hm (fun i1_1 xs1_1 => [(0, (.slice p0_1 a_.length c0_1)), (1, (.slice p0_2 b_.length c0_2)), (5, (nV i1_1))]) (fun i1_1 xs1_1 => []) [] rfl ?_ ?_))))))))
  ·
   repeat clear hm
   intro r0_1 hq0_1 i1_1 xs1_1 w hm hi0_1 hi0_2 q0_1 ho0_1
   refine gS (gS (gR (gM rfl (gM rfl (gY (yV st_102 rfl) (gB rfl (gE (go _ 14 rfl (decide_eq_true (by omega)) (gct rfl (gSk (gS (gBk (gS (gW (.p 0 (.p 1 (.p 2 (.p 4 (.p 5 (.p 6 (.q 3 (.e 7 (.e 8 (.p 9 .fin) .nil) .nil)))))))) [7] [0, 1, 2, 4, 5, 6, 9] hm [] [] rfl mxo (by kernel_rfl) (fun _ _ _ h => h.2) fun w hm hS => tP rfl (fun w => yM rfl) (tP rfl (fun w => yM rfl) (gg fun x1_1 h1_1 hx1_2 => ?_))))))))))))))))
   obtain ⟨b1_1, o1_1, c1_1, he⟩ := idx_form' h1 hx1_2
   simp only [Value.slice.injEq, Option.some.injEq] at he; obtain ⟨rfl, _, rfl⟩ := he
   obtain ⟨v1_1, hc1_1, h1_2⟩ := rk_Ins_ h1 hx1_2
   refine tP rfl (fun w => yI st_102 h1_1 (idx_lt hx1_2) rfl) (tP rfl (fun w => yM rfl) (tP rfl (fun w => yM rfl) (gg fun x1_2 h1_3 hx1_4 => ?_)))
   obtain ⟨b1_2, o1_2, c1_2, he⟩ := idx_form' h2 hx1_4
   simp only [Value.slice.injEq, Option.some.injEq] at he; obtain ⟨rfl, _, rfl⟩ := he
   obtain ⟨v1_2, hc1_2, h1_4⟩ := rk_Ins_ h2 hx1_4
   refine tP rfl (fun w => yI st_102 h1_3 (idx_lt hx1_4) rfl) (tQ rfl hS (fun w hm => yn (hc1_1.mono hm.lez) isAgg106 sizeOf106 rfl) (tO (tY rfl (yn (hc1_2.mono hm.lez) isAgg106 sizeOf106 rfl) (tAs hS (tO (gb fun r1_1 hx1_5 => tf rfl rfl (fun a hf => e_call hf rfl call307 rfl (laws_eqIns_ok _ x1_1 v1_1 (hm.now h1_2) x1_2 v1_2 (hm.now h1_4) _ hx1_5)) ?_))))))
   rintro v1_3 w ⟨rfl, hB⟩
   replace hm := hm.below' hB; clear hB
   refine tAn rfl (tP rfl (fun w => yN rfl) (tE (gsn 26 rfl (fun h1_5 => ?_) fun h1_5 => ?_)))
   ·
    exact gct rfl (gS (gR (gA rfl (gE (gRt (gLr ho0_1 hq0_1 (gr1 results278 rfl ⟨rfl, hm.below⟩)))))))
   exact gcf rfl (gSk (gR (gM rfl (gP (by omega) (by omega) rfl (gA rfl (gE (gze hm [] rfl)))))))
  repeat clear hm
  intro i0_1 xs0_1 w hm hi0_3 hi0_4
  exact gS (gS (gR (gM rfl (gM rfl (gY (yV st_102 rfl) (gB rfl (gE (go _ 14 rfl (decide_eq_false (by omega)) (gcf rfl (gXt (gHh (gS (gR (gA rfl (gE (gRt (gr1 results278 rfl ⟨rfl, hm.below⟩)))))))))))))))))

theorem laws_eqBlock_ok (w0 : World) (a_ : Block_) (v1 : Value) (h1 : GT.rep (hp w0) [v1] a_.phis) (v2 : Value) (h2 : GT.rep (hp w0) [v2] a_.ins) (v3 : Value) (h3 : GT.rep (hp w0) [v3] a_.next_) (b_ : Block_) (v4 : Value) (h4 : GT.rep (hp w0) [v4] b_.phis) (v5 : Value) (h5 : GT.rep (hp w0) [v5] b_.ins) (v6 : Value) (h6 : GT.rep (hp w0) [v6] b_.next_) :
    ConM Tryz.prog 220 [(.agg #[v1, v2, (nV a_.jump), (nV a_.on), v3]), (.agg #[v4, v5, (nV b_.jump), (nV b_.on), v6])] w0 (laws_eqBlock a_ b_) fun r v w' => v = (.bool (r)) ∧ Below w0.heap.size w0 w' := by
  unfold laws_eqBlock
  refine gcon func220 rfl fun r => ?_
  have hm := Mem.start w0
  refine gS (gR (gBx hm rfl fun b0_1 w hm => gBx hm rfl fun b0_2 w hm => gA rfl (gE (gS (gS (gR (gF fo_104_0 rfl (gL hm 1 isAgg101 rfl (gF fo_104_0 rfl (gL hm 0 isAgg101 rfl (gC hm rfl call277 (laws_eqPhiS_ok _ a_.phis v1 (hm.now h1) b_.phis v4 (hm.now h4)) fun r0_1 hx0_1 w hm => gN rfl (gE (gsn 10 rfl (fun h0_1 => ?_) fun h0_1 => ?_)))))))))))))
  ·
   exact gct rfl (gS (gR (gA rfl (gE (gRt (gr1 results220 rfl ⟨rfl, hm.below⟩))))))
  refine gcf rfl (gSk (gS (gS (gR (gF fo_104_1 rfl (gL hm 1 isAgg102 rfl (gF fo_104_1 rfl (gL hm 0 isAgg102 rfl (gC hm rfl call278 (laws_eqInsS_ok _ a_.ins v2 (hm.now h2) b_.ins v5 (hm.now h5)) fun r0_2 hx0_2 w hm => gN rfl (gE (gsn 16 rfl (fun h0_2 => ?_) fun h0_2 => ?_)))))))))))
  ·
   exact gct rfl (gS (gR (gA rfl (gE (gRt (gr1 results220 rfl ⟨rfl, hm.below⟩))))))
  refine gcf rfl (gSk (gS (gS (gR (gF fo_104_2 rfl (gL hm 1 isAgg3 rfl (gF fo_104_2 rfl (gL hm 0 isAgg3 rfl (gB rfl (gE (gsd 21 rfl (fun h0_3 => ?_) fun h0_3 => ?_)))))))))))
  ·
   exact gct rfl (gS (gR (gA rfl (gE (gRt (gr1 results220 rfl ⟨rfl, hm.below⟩))))))
  refine gcf rfl (gSk (gS (gS (gR (gF fo_104_3 rfl (gL hm 1 isAgg3 rfl (gF fo_104_3 rfl (gL hm 0 isAgg3 rfl (gB rfl (gE (gsd 26 rfl (fun h0_4 => ?_) fun h0_4 => ?_)))))))))))
  ·
   exact gct rfl (gS (gR (gA rfl (gE (gRt (gr1 results220 rfl ⟨rfl, hm.below⟩))))))
  refine gcf rfl (gSk (gS (gS (gR (gF fo_104_4 rfl (gL hm 1 isAgg37 rfl (gF fo_104_4 rfl (gL hm 0 isAgg37 rfl (gC hm rfl call26 (laws_eqIntS_ok _ a_.next_ v3 (hm.now h3) b_.next_ v6 (hm.now h6)) fun r0_3 hx0_3 w hm => gN rfl (gE (gsn 32 rfl (fun h0_5 => ?_) fun h0_5 => ?_)))))))))))
  ·
   exact gct rfl (gS (gR (gA rfl (gE (gRt (gr1 results220 rfl ⟨rfl, hm.below⟩))))))
  exact gcf rfl (gSk (gS (gR (gA rfl (gE (gRt (gr1 results220 rfl ⟨rfl, hm.below⟩)))))))

theorem laws_eqBlockS_ok (w0 : World) (a_ : List Block_) (v1 : Value) (h1 : GT.rep (hp w0) [v1] a_) (b_ : List Block_) (v2 : Value) (h2 : GT.rep (hp w0) [v2] b_) :
    ConM Tryz.prog 148 [v1, v2] w0 (laws_eqBlockS a_ b_) fun r v w' => v = (.bool (r)) ∧ Below w0.heap.size w0 w' := by
  unfold laws_eqBlockS
  refine gcon func148 rfl fun r => ?_
  have hm := Mem.start w0
  refine gS (gR (gA rfl (gE (gS (gS (gR (gM rfl ?_)))))))
  obtain ⟨p0_1, c0_1, rfl, hl0_1⟩ := ro_slice h1
  refine gY (yV st_55 rfl) (gM rfl ?_)
  obtain ⟨p0_2, c0_2, rfl, hl0_2⟩ := ro_slice h2
  refine gY (yV st_55 rfl) (gB rfl (gE (gsd 10 rfl (fun h0_1 => ?_) fun h0_1 => ?_)))
  ·
   exact gct rfl (gS (gR (gA rfl (gE (gRt (gr1 results148 rfl ⟨rfl, hm.below⟩))))))
  refine gcf rfl (gSk (gS (gS (gR (gA rfl (gE (gBk (gNf hm (fun i1_1 xs1_1 => [(0, (.slice p0_1 a_.length c0_1)), (1, (.slice p0_2 b_.length c0_2)), (5, (nV i1_1))]) (fun i1_1 xs1_1 => []) [] rfl ?_ ?_))))))))
  ·
   repeat clear hm
   intro r0_1 hq0_1 i1_1 xs1_1 w hm hi0_1 hi0_2 q0_1 ho0_1
   refine gS (gS (gR (gM rfl (gM rfl (gY (yV st_55 rfl) (gB rfl (gE (go _ 14 rfl (decide_eq_true (by omega)) (gct rfl (gSk (gS (gBk (gS (gW (.p 0 (.p 1 (.p 2 (.p 4 (.p 5 (.p 6 (.q 3 (.e 7 (.e 8 (.p 9 .fin) .nil) .nil)))))))) [7] [0, 1, 2, 4, 5, 6, 9] hm [] [] rfl mxo (by kernel_rfl) (fun _ _ _ h => h.2) fun w hm hS => tP rfl (fun w => yM rfl) (tP rfl (fun w => yM rfl) (gg fun x1_1 h1_1 hx1_2 => ?_))))))))))))))))
   obtain ⟨b1_1, o1_1, c1_1, he⟩ := idx_form' h1 hx1_2
   simp only [Value.slice.injEq, Option.some.injEq] at he; obtain ⟨rfl, _, rfl⟩ := he
   obtain ⟨v1_1, v1_2, v1_3, hc1_1, h1_2, h1_3, h1_4⟩ := rk_Block_ h1 hx1_2
   refine tP rfl (fun w => yI st_55 h1_1 (idx_lt hx1_2) rfl) (tP rfl (fun w => yM rfl) (tP rfl (fun w => yM rfl) (gg fun x1_2 h1_5 hx1_4 => ?_)))
   obtain ⟨b1_2, o1_2, c1_2, he⟩ := idx_form' h2 hx1_4
   simp only [Value.slice.injEq, Option.some.injEq] at he; obtain ⟨rfl, _, rfl⟩ := he
   obtain ⟨v1_4, v1_5, v1_6, hc1_2, h1_6, h1_7, h1_8⟩ := rk_Block_ h2 hx1_4
   refine tP rfl (fun w => yI st_55 h1_5 (idx_lt hx1_4) rfl) (tQ rfl hS (fun w hm => yn (hc1_1.mono hm.lez) isAgg104 sizeOf104 rfl) (tO (tY rfl (yn (hc1_2.mono hm.lez) isAgg104 sizeOf104 rfl) (tAs hS (tO (gb fun r1_1 hx1_5 => tf rfl rfl (fun a hf => e_call hf rfl call220 rfl (laws_eqBlock_ok _ x1_1 v1_1 (hm.now h1_2) v1_2 (hm.now h1_3) v1_3 (hm.now h1_4) x1_2 v1_4 (hm.now h1_6) v1_5 (hm.now h1_7) v1_6 (hm.now h1_8) _ hx1_5)) ?_))))))
   rintro v1_7 w ⟨rfl, hB⟩
   replace hm := hm.below' hB; clear hB
   refine tAn rfl (tP rfl (fun w => yN rfl) (tE (gsn 26 rfl (fun h1_9 => ?_) fun h1_9 => ?_)))
   ·
    exact gct rfl (gS (gR (gA rfl (gE (gRt (gLr ho0_1 hq0_1 (gr1 results148 rfl ⟨rfl, hm.below⟩)))))))
   exact gcf rfl (gSk (gR (gM rfl (gP (by omega) (by omega) rfl (gA rfl (gE (gze hm [] rfl)))))))
  repeat clear hm
  intro i0_1 xs0_1 w hm hi0_3 hi0_4
  exact gS (gS (gR (gM rfl (gM rfl (gY (yV st_55 rfl) (gB rfl (gE (go _ 14 rfl (decide_eq_false (by omega)) (gcf rfl (gXt (gHh (gS (gR (gA rfl (gE (gRt (gr1 results148 rfl ⟨rfl, hm.below⟩)))))))))))))))))

theorem laws_eqCode_ok (w0 : World) (a_ : Code_) (v1 : Value) (h1 : GT.rep (hp w0) [v1] a_.blocks) (b_ : Code_) (v2 : Value) (h2 : GT.rep (hp w0) [v2] b_.blocks) :
    ConM Tryz.prog 101 [(.agg #[(nV a_.params), (nV a_.regs), v1]), (.agg #[(nV b_.params), (nV b_.regs), v2])] w0 (laws_eqCode a_ b_) fun r v w' => v = (.bool (r)) ∧ Below w0.heap.size w0 w' := by
  unfold laws_eqCode
  refine gcon func101 rfl fun r => ?_
  have hm := Mem.start w0
  refine gS (gR (gBx hm rfl fun b0_1 w hm => gBx hm rfl fun b0_2 w hm => gA rfl (gE (gS (gS (gR (gF fo_57_0 rfl (gL hm 1 isAgg3 rfl (gF fo_57_0 rfl (gL hm 0 isAgg3 rfl (gB rfl (gE (gsd 9 rfl (fun h0_1 => ?_) fun h0_1 => ?_)))))))))))))
  ·
   exact gct rfl (gS (gR (gA rfl (gE (gRt (gr1 results101 rfl ⟨rfl, hm.below⟩))))))
  refine gcf rfl (gSk (gS (gS (gR (gF fo_57_1 rfl (gL hm 1 isAgg3 rfl (gF fo_57_1 rfl (gL hm 0 isAgg3 rfl (gB rfl (gE (gsd 14 rfl (fun h0_2 => ?_) fun h0_2 => ?_)))))))))))
  ·
   exact gct rfl (gS (gR (gA rfl (gE (gRt (gr1 results101 rfl ⟨rfl, hm.below⟩))))))
  refine gcf rfl (gSk (gS (gS (gR (gF fo_57_2 rfl (gL hm 1 isAgg55 rfl (gF fo_57_2 rfl (gL hm 0 isAgg55 rfl (gC hm rfl call148 (laws_eqBlockS_ok _ a_.blocks v1 (hm.now h1) b_.blocks v2 (hm.now h2)) fun r0_1 hx0_1 w hm => gN rfl (gE (gsn 20 rfl (fun h0_3 => ?_) fun h0_3 => ?_)))))))))))
  ·
   exact gct rfl (gS (gR (gA rfl (gE (gRt (gr1 results101 rfl ⟨rfl, hm.below⟩))))))
  exact gcf rfl (gSk (gS (gR (gA rfl (gE (gRt (gr1 results101 rfl ⟨rfl, hm.below⟩)))))))

theorem laws_eqCodeS_ok (w0 : World) (a_ : List Code_) (v1 : Value) (h1 : GT.rep (hp w0) [v1] a_) (b_ : List Code_) (v2 : Value) (h2 : GT.rep (hp w0) [v2] b_) :
    ConM Tryz.prog 55 [v1, v2] w0 (laws_eqCodeS a_ b_) fun r v w' => v = (.bool (r)) ∧ Below w0.heap.size w0 w' := by
  unfold laws_eqCodeS
  refine gcon func55 rfl fun r => ?_
  have hm := Mem.start w0
  refine gS (gR (gA rfl (gE (gS (gS (gR (gM rfl ?_)))))))
  obtain ⟨p0_1, c0_1, rfl, hl0_1⟩ := ro_slice h1
  refine gY (yV st_28 rfl) (gM rfl ?_)
  obtain ⟨p0_2, c0_2, rfl, hl0_2⟩ := ro_slice h2
  refine gY (yV st_28 rfl) (gB rfl (gE (gsd 10 rfl (fun h0_1 => ?_) fun h0_1 => ?_)))
  ·
   exact gct rfl (gS (gR (gA rfl (gE (gRt (gr1 results55 rfl ⟨rfl, hm.below⟩))))))
  refine gcf rfl (gSk (gS (gS (gR (gA rfl (gE (gBk (gNf hm (fun i1_1 xs1_1 => [(0, (.slice p0_1 a_.length c0_1)), (1, (.slice p0_2 b_.length c0_2)), (5, (nV i1_1))]) (fun i1_1 xs1_1 => []) [] rfl ?_ ?_))))))))
  ·
   repeat clear hm
   intro r0_1 hq0_1 i1_1 xs1_1 w hm hi0_1 hi0_2 q0_1 ho0_1
   refine gS (gS (gR (gM rfl (gM rfl (gY (yV st_28 rfl) (gB rfl (gE (go _ 14 rfl (decide_eq_true (by omega)) (gct rfl (gSk (gS (gBk (gS (gW (.p 0 (.p 1 (.p 2 (.p 4 (.p 5 (.p 6 (.q 3 (.e 7 (.e 8 (.p 9 .fin) .nil) .nil)))))))) [7] [0, 1, 2, 4, 5, 6, 9] hm [] [] rfl mxo (by kernel_rfl) (fun _ _ _ h => h.2) fun w hm hS => tP rfl (fun w => yM rfl) (tP rfl (fun w => yM rfl) (gg fun x1_1 h1_1 hx1_2 => ?_))))))))))))))))
   obtain ⟨b1_1, o1_1, c1_1, he⟩ := idx_form' h1 hx1_2
   simp only [Value.slice.injEq, Option.some.injEq] at he; obtain ⟨rfl, _, rfl⟩ := he
   obtain ⟨v1_1, hc1_1, h1_2⟩ := rk_Code_ h1 hx1_2
   refine tP rfl (fun w => yI st_28 h1_1 (idx_lt hx1_2) rfl) (tP rfl (fun w => yM rfl) (tP rfl (fun w => yM rfl) (gg fun x1_2 h1_3 hx1_4 => ?_)))
   obtain ⟨b1_2, o1_2, c1_2, he⟩ := idx_form' h2 hx1_4
   simp only [Value.slice.injEq, Option.some.injEq] at he; obtain ⟨rfl, _, rfl⟩ := he
   obtain ⟨v1_2, hc1_2, h1_4⟩ := rk_Code_ h2 hx1_4
   refine tP rfl (fun w => yI st_28 h1_3 (idx_lt hx1_4) rfl) (tQ rfl hS (fun w hm => yn (hc1_1.mono hm.lez) isAgg57 sizeOf57 rfl) (tO (tY rfl (yn (hc1_2.mono hm.lez) isAgg57 sizeOf57 rfl) (tAs hS (tO (gb fun r1_1 hx1_5 => tf rfl rfl (fun a hf => e_call hf rfl call101 rfl (laws_eqCode_ok _ x1_1 v1_1 (hm.now h1_2) x1_2 v1_2 (hm.now h1_4) _ hx1_5)) ?_))))))
   rintro v1_3 w ⟨rfl, hB⟩
   replace hm := hm.below' hB; clear hB
   refine tAn rfl (tP rfl (fun w => yN rfl) (tE (gsn 26 rfl (fun h1_5 => ?_) fun h1_5 => ?_)))
   ·
    exact gct rfl (gS (gR (gA rfl (gE (gRt (gLr ho0_1 hq0_1 (gr1 results55 rfl ⟨rfl, hm.below⟩)))))))
   exact gcf rfl (gSk (gR (gM rfl (gP (by omega) (by omega) rfl (gA rfl (gE (gze hm [] rfl)))))))
  repeat clear hm
  intro i0_1 xs0_1 w hm hi0_3 hi0_4
  exact gS (gS (gR (gM rfl (gM rfl (gY (yV st_28 rfl) (gB rfl (gE (go _ 14 rfl (decide_eq_false (by omega)) (gcf rfl (gXt (gHh (gS (gR (gA rfl (gE (gRt (gr1 results55 rfl ⟨rfl, hm.below⟩)))))))))))))))))

theorem laws_eqUnit_ok (w0 : World) (a_ : Unit_) (v1 : Value) (h1 : GT.rep (hp w0) [v1] a_.codes) (b_ : Unit_) (v2 : Value) (h2 : GT.rep (hp w0) [v2] b_.codes) :
    ConM Tryz.prog 19 [(.agg #[v1]), (.agg #[v2])] w0 (laws_eqUnit a_ b_) fun r v w' => v = (.bool (r)) ∧ Below w0.heap.size w0 w' := by
  unfold laws_eqUnit
  refine gcon func19 rfl fun r => ?_
  have hm := Mem.start w0
  refine gS (gR (gBx hm rfl fun b0_1 w hm => gBx hm rfl fun b0_2 w hm => gA rfl (gE (gS (gS (gR (gF fo_30_0 rfl (gL hm 1 isAgg28 rfl (gF fo_30_0 rfl (gL hm 0 isAgg28 rfl (gC hm rfl call55 (laws_eqCodeS_ok _ a_.codes v1 (hm.now h1) b_.codes v2 (hm.now h2)) fun r0_1 hx0_1 w hm => gN rfl (gE (gsn 10 rfl (fun h0_1 => ?_) fun h0_1 => ?_)))))))))))))
  ·
   exact gct rfl (gS (gR (gA rfl (gE (gRt (gr1 results19 rfl ⟨rfl, hm.below⟩))))))
  exact gcf rfl (gSk (gS (gR (gA rfl (gE (gRt (gr1 results19 rfl ⟨rfl, hm.below⟩)))))))

theorem spec_l15Has_ok (w0 : World) (u : Unit_) (v1 : Value) (h1 : GT.rep (hp w0) [v1] u.codes) (k_ : Int) :
    ConM Tryz.prog 85 [(.agg #[v1]), (nV k_)] w0 (spec_l15Has u k_) fun r v w' => v = (.bool (r)) ∧ Below w0.heap.size w0 w' := by
  unfold spec_l15Has
  refine gcon func85 rfl fun r => ?_
  have hm := Mem.start w0
  refine gS (gR (gBx hm rfl fun b0_1 w hm => gA rfl (gE (gS (gJ hm (fun s0_1 => [(4, (.bool (s0_1)))]) (fun s0_1 => []) (fun s0_1 => ?_) ?_)))))
  ·
   refine gR (gY (yn (hm.blk_at 0 rfl) isAgg30 sizeOf30 rfl) (gC hm rfl call80 (spec_IsSingle_ok _ u v1 (hm.now h1)) fun r1_1 hx1_1 w hm => gM rfl (gs 7 rfl (fun h1_1 => ?_) fun h1_1 => ?_)))
   ·
    refine gM rfl (gF fo_30_0 rfl (gL hm 0 isAgg28 rfl ?_))
    obtain ⟨p1_1, c1_1, rfl, hl1_1⟩ := ro_slice h1
    exact gY (yV st_28 rfl) (gY (yS (by omega) (by omega) rfl) (gC hm rfl call61 (spec_l1In_ok _ k_ 0 (((u.codes.length : Int)) - 1)) fun r1_2 hx1_2 w hm => gKt rfl (gA rfl (gE (gz hm [] rfl)))))
   exact gO rfl (gO rfl (gO rfl (gO rfl (gO rfl (gO rfl (gKf rfl (gA rfl (gE (gz hm [] rfl)))))))))
  repeat clear hm
  intro s0_1 w hm
  exact gRt (gr1 results85 rfl ⟨rfl, hm.below⟩)

theorem impl_singleAt_ok (w0 : World) (u : Unit_) (v1 : Value) (h1 : GT.rep (hp w0) [v1] u.codes) (k_ : Int) :
    ConM Tryz.prog 86 [(.agg #[v1]), (nV k_)] w0 (impl_singleAt u k_) fun r v w' => v = (.bool (r)) ∧ Below w0.heap.size w0 w' := by
  unfold impl_singleAt
  refine gcon func86 rfl fun r => ?_
  have hm := Mem.start w0
  refine gS (gR (gBx hm rfl fun b0_1 w hm => gA rfl (gE (gS (gJ hm (fun s0_1 => [(4, (.bool (s0_1)))]) (fun s0_1 => []) (fun s0_1 => ?_) ?_)))))
  ·
   refine gR (gY (yn (hm.blk_at 0 rfl) isAgg30 sizeOf30 rfl) (gC hm rfl call83 (impl_IsSingle_ok _ u v1 (hm.now h1)) fun r1_1 hx1_1 w hm => gM rfl (gs 7 rfl (fun h1_1 => ?_) fun h1_1 => ?_)))
   ·
    refine gM rfl (gF fo_30_0 rfl (gL hm 0 isAgg28 rfl ?_))
    obtain ⟨p1_1, c1_1, rfl, hl1_1⟩ := ro_slice h1
    exact gY (yV st_28 rfl) (gY (yS (by omega) (by omega) rfl) (gC hm rfl call63 (impl_within_ok _ k_ 0 (((u.codes.length : Int)) - 1)) fun r1_2 hx1_2 w hm => gKt rfl (gA rfl (gE (gz hm [] rfl)))))
   exact gO rfl (gO rfl (gO rfl (gO rfl (gO rfl (gO rfl (gKf rfl (gA rfl (gE (gz hm [] rfl)))))))))
  repeat clear hm
  intro s0_1 w hm
  exact gRt (gr1 results86 rfl ⟨rfl, hm.below⟩)

end Go.Proofs.YtpllkdbmgcmklaaGreat
