/- A part of the proof of FnExactDropUnreachedSaid. -/
import Derived.Test.YtjkdjdicpfjifaaGreatDuWalksB
namespace Go.Proofs.YtjkdjdicpfjifaaGreat
open Go Go.Wk Go.RowKit
set_option maxRecDepth 4000
set_option maxHeartbeats 4000000

open Tryz
theorem impl_visits_ok (w0 : World) (c_ : Code_) (v1 : Value) (h1 : GT.rep (hp w0) [v1] c_.blocks) :
    ConM Tryz.prog 62 [(.agg #[(nV c_.params), (nV c_.regs), v1])] w0 (impl_visits c_) fun r v w' => ∃ (x1 : Value), v = x1 ∧ Mem w0 (hp w0) w' [ow [x1] r] := by
  unfold impl_visits
  refine gcon func62 rfl fun r => ?_
  have hm := Mem.start w0
  refine gS (gR (gBx hm rfl fun b0_1 w hm => gA rfl (gE (gS (gR (gAl hm zeroValue47 rfl fun b0_2 w hm => gE (gS (gR (gF fo_45_2 rfl (gL hm 1 isAgg43 rfl ?_))))))))))
  obtain ⟨p0_1, c0_1, rfl, hl0_1⟩ := ro_slice h1
  refine gY (yV st_43 rfl) (gb fun ys0_1 hx0_1 => ?_)
  obtain ⟨⟨h0_11, h0_12⟩, h0_1e⟩ := makeM_some.1 hx0_1
  refine gf rfl (fun a hf => e_make (x0 := (false : Bool)) et_113 (fun _ => (Flat.own_iff.2 rfl)) hf hm rfl rfl rfl h0_11 (Int.le_refl _) h0_12) ?_
  rintro v0_1 w hm
  rw [h0_1e] at hm
  have h0_1l : (ys0_1.length : Int) = (c_.blocks.length : Int) := by rw [← h0_1e]; simp only [List.length_replicate]; omega
  refine gAl hm zeroValue113 rfl fun b0_3 w hm => gS1 hm 0 sizeOf113 (rep_one (hm.ow_rep 1 rfl)) rfl fun w hm => gE (gS (gR (gAl hm zeroValue114 rfl fun b0_4 w hm => gE (gS (gR (gY (yU rfl) (gS1 hm 0 sizeOf114 rfl rfl fun w hm => gE (gS (gR (gL hm 0 isAgg114 rfl ?_))))))))))
  replace hm := hm.nilow (α := Int)
  obtain ⟨hz0_1, hle, hm1, hsub, hk0_1⟩ := hm.take2 (L1 := [blk b0_3 [v0_1] 113, ow [v0_1] ys0_1, blk b0_2 [(.slice none 0 0)] 47, ow [(.slice none 0 0)] ([] : List Int)]) (L2 := [blk b0_4 [(.func (.func 113) #[] #[(pV b0_3), (pV b0_1), (pV b0_4), (pV b0_2)])] 114, blk b0_1 [(nV c_.params), (nV c_.regs), (.slice p0_1 c_.blocks.length c0_1)] 45]) [2, 3, 4, 0] [1, 5] (by decide) rfl rfl
  refine gb fun r0_1 hx0_2 => gf rfl (fun a hf => e_callv hf rfl rfl rfl ⟨113, [(pV b0_3), (pV b0_1), (pV b0_4), (pV b0_2)], rfl, call113, impl_visits_1_ok _ hz0_1 0 ys0_1 b0_3 v0_1 c_ b0_1 (.slice p0_1 c_.blocks.length c0_1) (GT.mono hle h1) (fz_blk (hsub 1 _ rfl)) b0_4 ([] : List Int) b0_2 (.slice none 0 0) (fz_blk (hsub 0 _ rfl)) hm1  _ hx0_2⟩) ?_
  rintro v0_2 w ⟨v0_3, v0_4, rfl, hB⟩
  replace hm := hk0_1 _ _ hB; clear hB
  exact gE (gS (gR (gL hm 1 isAgg47 rfl (gA rfl (gE (gRt (gr1 results62 rfl ⟨v0_4, rfl, hm.pk [3] rfl rfl⟩)))))))

theorem impl_phisOf_ok (w0 : World) (c_ : Code_) (v1 : Value) (h1 : GT.rep (hp w0) [v1] c_.blocks) :
    ConM Tryz.prog 56 [(.agg #[(nV c_.params), (nV c_.regs), v1])] w0 (impl_phisOf c_) fun r v w' => ∃ (x1 : Value), v = x1 ∧ Mem w0 (hp w0) w' [ow [x1] r] := by
  unfold impl_phisOf
  refine gcon func56 rfl fun r => ?_
  have hm := Mem.start w0
  refine gS (gR (gBx hm rfl fun b0_1 w hm => gA rfl (gE (gS (gR (gF fo_45_2 rfl (gL hm 0 isAgg43 rfl ?_)))))))
  obtain ⟨p0_1, c0_1, rfl, hl0_1⟩ := ro_slice h1
  refine gY (yV st_43 rfl) (gb fun ys0_1 hx0_1 => ?_)
  obtain ⟨⟨h0_11, h0_12⟩, h0_1e⟩ := makeM_some.1 hx0_1
  refine gf rfl (fun a hf => e_make (x0 := ([] : List (MapS Int))) et_64 (fun _ => (own_list.2 (.inl ⟨rfl, rfl⟩))) hf hm rfl rfl rfl h0_11 (Int.le_refl _) h0_12) ?_
  rintro v0_1 w hm
  rw [h0_1e] at hm
  have h0_1l : (ys0_1.length : Int) = (c_.blocks.length : Int) := by rw [← h0_1e]; simp only [List.length_replicate]; omega
  refine gA rfl (gE (gS (gS (gR (gF fo_45_2 rfl (gL hm 1 isAgg43 rfl (gY (yV st_43 rfl) (gM rfl (gE ?_)))))))))
  obtain ⟨p0_2, c0_2, rfl, hl0_2⟩ := ro_slice (hm.ow_rep 0 rfl)
  refine gBk (gNf hm (fun i1_1 xs1_1 => [(1, (pV b0_1)), (3, (.slice p0_2 ys0_1.length c0_2)), (17, (.slice p0_1 c_.blocks.length c0_1)), (18, (nV ((c_.blocks.length : Int)))), (19, (nV i1_1))]) (fun i1_1 xs1_1 => [blk b0_1 [(nV c_.params), (nV c_.regs), (.slice p0_1 c_.blocks.length c0_1)] 45, ow [(.slice p0_2 ys0_1.length c0_2)] xs1_1]) [1, 0] rfl ?_ ?_)
  ·
   repeat clear hm
   intro _ _ i1_1 xs1_1 w hm hi0_1 hi0_2 q0_1 _
   refine gS (gR (gB rfl (gE (gS (go _ 20 rfl (decide_eq_true (by omega)) (gct rfl (gSk (gS (gBk (gS (gR (gM rfl (gg fun x1_1 h1_1 hx1_2 => ?_)))))))))))))
   obtain ⟨b1_1, o1_1, c1_1, he⟩ := idx_form' h1 hx1_2
   simp only [Value.slice.injEq, Option.some.injEq] at he; obtain ⟨rfl, _, rfl⟩ := he
   obtain ⟨v1_1, v1_2, v1_3, hc1_1, h1_2, h1_3, h1_4⟩ := rk_Block_ h1 hx1_2
   refine gI st_43 h1_1 (idx_lt hx1_2) rfl (gY (yn (hc1_1.mono hm.lez) isAgg61 sizeOf61 rfl) (gAl hm zeroValue61 rfl fun b1_2 w hm => gA rfl (gSN hm 0 sizeOf61 (one_cons (rep_one h1_2) (one_cons (rep_one h1_3) (one_cons rfl (one_cons rfl (one_cons (rep_one h1_4) one_nil))))) rfl fun w hm => gE (gS (gR (gY (yn (hm.blk_at 1 rfl) isAgg45 sizeOf45 rfl) (gM rfl (gCg rfl call65 (impl_PredsOf_ok _ c_ (sV b1_1 o1_1 c_.blocks.length c0_1) (hm.now h1) i1_1) ?_))))))))
   rintro r1_1 hx1_3 v1_4 w ⟨_, rfl, hB⟩
   replace hm := hm.give hB; clear hB
   refine gA rfl (gE (gS (gR (gF fo_61_0 rfl (gL hm 1 isAgg58 rfl ?_)))))
   obtain ⟨p1_1, c1_2, rfl, hl1_1⟩ := ro_slice h1_2
   refine gY (yV st_58 rfl) (gM rfl (gE ?_))
   obtain ⟨p1_2, c1_3, rfl, hl1_2⟩ := ro_slice (hm.ow_rep 0 rfl)
   refine gBk (gNf hm (fun i2_1 xs2_1 => [(1, (pV b0_1)), (3, (.slice p0_2 ys0_1.length c0_2)), (4, (nV i1_1)), (6, (.slice p1_2 r1_1.length c1_3)), (17, (sV b1_1 o1_1 c_.blocks.length c0_1)), (18, (nV ((c_.blocks.length : Int)))), (19, (nV i1_1)), (28, (.slice p1_1 x1_1.phis.length c1_2)), (29, (nV ((x1_1.phis.length : Int)))), (30, (nV i2_1))]) (fun i2_1 xs2_1 => [blk b0_1 [(nV c_.params), (nV c_.regs), (sV b1_1 o1_1 c_.blocks.length c0_1)] 45, ow [(.slice p0_2 ys0_1.length c0_2)] xs2_1, ow [(.slice p1_2 r1_1.length c1_3)] r1_1]) [2, 3, 0] rfl ?_ ?_)
   ·
    repeat clear hm
    intro _ _ i2_1 xs2_1 w hm hi1_1 hi1_2 q1_1 _
    refine gS (gR (gB rfl (gE (gS (go _ 31 rfl (decide_eq_true (by omega)) (gct rfl (gSk (gS (gBk (gS (gR (gg fun x2_1 h2_1 hx2_2 => ?_))))))))))))
    obtain ⟨b2_1, o2_1, c2_1, he⟩ := idx_form' h1_2 hx2_2
    simp only [Value.slice.injEq, Option.some.injEq] at he; obtain ⟨rfl, _, rfl⟩ := he
    obtain ⟨v2_1, hc2_1, h2_2⟩ := rk_Phi_ h1_2 hx2_2
    refine gI st_58 h2_1 (idx_lt hx2_2) rfl (gY (yn (hc2_1.mono hm.lez) isAgg86 sizeOf86 rfl) (gAl hm zeroValue86 rfl fun b2_2 w hm => gSN hm 0 sizeOf86 (one_cons rfl (one_cons (rep_one h2_2) one_nil)) rfl fun w hm => gE (gS (gR (gf rfl (fun a hf => e_mkM (β := Int) hm rfl) ?_)))))
    rintro v2_2 w hm
    refine gA rfl (gE (gS (gS (gR (gM rfl (gY (yV st_47 rfl) (gM rfl (gE (gBk (gNf hm (fun i3_1 xs3_1 => [(1, (pV b0_1)), (3, (.slice p0_2 ys0_1.length c0_2)), (4, (nV i1_1)), (6, (.slice p1_2 r1_1.length c1_3)), (8, (pV b2_2)), (9, v2_2), (17, (sV b1_1 o1_1 c_.blocks.length c0_1)), (18, (nV ((c_.blocks.length : Int)))), (19, (nV i1_1)), (28, (sV b2_1 o2_1 x1_1.phis.length c1_2)), (29, (nV ((x1_1.phis.length : Int)))), (30, (nV i2_1)), (35, (.slice p1_2 r1_1.length c1_3)), (36, (nV ((r1_1.length : Int)))), (37, (nV i3_1))]) (fun i3_1 xs3_1 => [blk b0_1 [(nV c_.params), (nV c_.regs), (sV b1_1 o1_1 c_.blocks.length c0_1)] 45, ow [(.slice p0_2 ys0_1.length c0_2)] xs2_1, ow [(.slice p1_2 r1_1.length c1_3)] r1_1, blk b2_2 [(nV x2_1.to), v2_1] 86, owm v2_2 xs3_1]) [2, 3, 4, 1, 0] rfl ?_ ?_))))))))))
    ·
     repeat clear hm
     intro _ _ i3_1 xs3_1 w hm hi2_1 hi2_2 q2_1 _
     refine gS (gR (gB rfl (gE (gS (go _ 38 rfl (decide_eq_true (by omega)) (gct rfl (gSk (gS (gBk (gS (gR (gM rfl (gg fun x3_1 h3_1 hx3_2 => ?_)))))))))))))
     obtain ⟨b3_1, o3_1, c3_1, he⟩ := idx_form (hm.ow_rep 2 rfl) hx3_2
     simp only [Value.slice.injEq, Option.some.injEq] at he; obtain ⟨rfl, _, rfl⟩ := he
     refine gI st_47 h3_1 (idx_lt hx3_2) rfl (gY (yl isAgg3 ((flat_cells (cs := [(nV x3_1)]) (hm.ow_rep 2 rfl) hx3_2 rfl).cell (j := 0) rfl) rfl) (gA rfl (gA rfl (gE (gR (gM rfl (gM rfl (gF fo_86_1 rfl (gL hm 3 isAgg47 rfl (gM rfl (gg fun x3_2 h3_2 hx3_4 => ?_)))))))))))
     obtain ⟨b3_2, o3_2, c3_2, he⟩ := idx_form h2_2 hx3_4
     subst he
     refine gI st_47 h3_2 (idx_lt hx3_4) rfl (gY (yl isAgg3 ((flat_cells (cs := [(nV x3_2)]) (hm.now h2_2) hx3_4 rfl).cell (j := 0) rfl) rfl) (gf0 rfl (fun a hf => e_insM (β := Int) (key := x3_1) (u := x3_2) (b := false) 4 underlying3 underlying69 hf hm rfl rfl rfl rfl rfl) ?_))
     rintro _ w hm
     exact gE (gR (gP (by omega) (by omega) rfl (gM rfl (gE (gze hm [0, 1, 2, 3, 4] rfl)))))
    repeat clear hm
    intro i2_2 xs2_2 w hm hi2_3 hi2_4
    refine gS (gR (gB rfl (gE (gS (go _ 38 rfl (decide_eq_false (by omega)) (gcf rfl (gXt (gHh (gR (gM rfl (gM rfl (gM rfl (gM rfl (gg fun x2_2 h2_3 hx2_4 => ?_))))))))))))))
    obtain ⟨b2_3, o2_2, c2_2, he⟩ := idx_form' (hm.ow_rep 1 rfl) hx2_4
    simp only [Value.slice.injEq, Option.some.injEq] at he; obtain ⟨rfl, _, rfl⟩ := he
    obtain ⟨_, _, hc2_2, hr2_1⟩ := ro_get' (hm.ow_rep 1 rfl) hx2_4
    have h2_4 := hr2_1
    obtain ⟨v2_3, rfl, -⟩ := id h2_4
    replace h2_4 : GT.rep (hp _) [v2_3] x2_2 := h2_4
    replace hc2_2 : CellsAt (hp _) b2_3 (o2_2 + (i1_1).toNat * 1) [v2_3] := hc2_2
    have hL2_1 := rep_slice_len (hm.ow_rep 1 rfl)
    refine gI st_64 h2_3 (idx_lt2 hx2_4 hL2_1) rfl ?_
    obtain ⟨_, hc2_3, hm⟩ := hm.openE 1 rfl hx2_4
    have hr2_2 := hm.ow_rep 0 rfl
    have h2_5 := hr2_2
    obtain ⟨v2_4, rfl, -⟩ := id h2_5
    replace h2_5 : GT.rep (hp _) [v2_4] x2_2 := h2_5
    clear hc2_3 h2_5
    replace hm : Mem w0 (hp w0) _ [ow [v2_4] (x2_2 : List (MapS Int)), blk b0_1 [(nV c_.params), (nV c_.regs), (sV b1_1 o1_1 c_.blocks.length c0_1)] 45, holeE b2_3 o2_2 ys0_1.length c0_2 (xs2_1 : List (List (MapS Int))) (i1_1).toNat [v2_4], ow [(.slice p1_2 r1_1.length c1_3)] r1_1, blk b2_2 [(nV x2_1.to), v2_1] 86, owm v2_2 xs2_2] := hm
    replace hm := hm.pk (L' := [ow [v2_4] x2_2, blk b0_1 [(nV c_.params), (nV c_.regs), (sV b1_1 o1_1 c_.blocks.length c0_1)] 45, holeE b2_3 o2_2 ys0_1.length c0_2 (xs2_1 : List (List (MapS Int))) (i1_1).toNat [v2_4], ow [(.slice p1_2 r1_1.length c1_3)] r1_1, blk b2_2 [(nV x2_1.to), v2_1] 86, owm v2_2 xs2_2]) [0, 1, 2, 3, 4, 5] rfl rfl
    refine gY (yl isAgg68 ((hm.holeE_at 2 rfl).cell (j := 0) rfl) rfl) (gM rfl ?_)
    obtain ⟨m2_1, he⟩ := owm_form hm 5 rfl
    subst he
    refine gf rfl (fun a hf => e_build (vs := #[(0, (.map (some m2_1)))]) (cs := [(.map (some m2_1))]) et_68 hf hm rfl rfl (by kernel_rfl) rfl rfl) ?_
    rintro _ w ⟨b2_4, rfl, hm⟩
    replace hm := hm.els_nil (α := MapS Int)
    have hcl2_1 := owm_cells hm 7 rfl
    replace hm := hm.imp (c' := ow [(.map (some m2_1))] (xs2_2 : MapS Int)) 7 rfl (fun F h0 => own_owm h0)
    replace hm := hm.imp (c' := ow [(.map (some m2_1))] (xs2_2 : MapS Int)) 7 rfl (fun F h0 => h0)
    replace hm := (hm.els_cons 0 7 (by decide) rfl rfl).pk (L' := [els [(.map (some m2_1))] ([xs2_2] : List (MapS Int)), blk b2_4 [(.map (some m2_1))] 69, ow [v2_4] x2_2, blk b0_1 [(nV c_.params), (nV c_.regs), (sV b1_1 o1_1 c_.blocks.length c0_1)] 45, holeE b2_3 o2_2 ys0_1.length c0_2 (xs2_1 : List (List (MapS Int))) (i1_1).toNat [v2_4], ow [(.slice p1_2 r1_1.length c1_3)] r1_1, blk b2_2 [(nV x2_1.to), v2_1] 86]) [0, 1, 2, 3, 4, 5, 6] rfl rfl
    replace hm := (hm.lit_els 1 0 (by decide) rfl rfl rfl rfl).pk (L' := [ow [(sV b2_4 0 1 1)] ([xs2_2] : List (MapS Int)), ow [v2_4] x2_2, blk b0_1 [(nV c_.params), (nV c_.regs), (sV b1_1 o1_1 c_.blocks.length c0_1)] 45, holeE b2_3 o2_2 ys0_1.length c0_2 (xs2_1 : List (List (MapS Int))) (i1_1).toNat [v2_4], ow [(.slice p1_2 r1_1.length c1_3)] r1_1, blk b2_2 [(nV x2_1.to), v2_1] 86]) [1, 2, 3, 4, 5, 6] rfl rfl
    refine gb fun ys2_1 hx2_5 => ?_
    obtain ⟨h2_6, h2_6e⟩ := appM_some.1 hx2_5
    replace hm := (hm.both 1 0 (by decide) rfl rfl).pk (L' := [both (ow [v2_4] x2_2) (ow [(sV b2_4 0 1 1)] ([xs2_2] : List (MapS Int))), blk b0_1 [(nV c_.params), (nV c_.regs), (sV b1_1 o1_1 c_.blocks.length c0_1)] 45, holeE b2_3 o2_2 ys0_1.length c0_2 (xs2_1 : List (List (MapS Int))) (i1_1).toNat [v2_4], ow [(.slice p1_2 r1_1.length c1_3)] r1_1, blk b2_2 [(nV x2_1.to), v2_1] 86]) [1, 2, 3, 4, 5] rfl rfl
    refine gf rfl (fun a hf => e_appendD (xs := x2_2) (ys := ([xs2_2] : List (MapS Int))) 0 et_68 hf hm rfl rfl rfl rfl h2_6) ?_
    rintro v2_5 w hm
    rw [h2_6e] at hm
    have hL2_2 := hm.holeE_len 2 rfl
    refine gI st_64 h2_3 (idx_lt2 hx2_4 hL2_2) rfl ?_
    have h12_1 : ∀ u ∈ ([v2_5] : List Value), u.oneCell' = true := (one_cons (rep_one (hm.ow_rep 0 rfl)) one_nil)
    refine gf0 rfl (fun a hf => e_storeH (j := 0) (vs := [v2_5]) 2 hf hm rfl rfl rfl sizeOf68 rfl rfl (cells_one (h12_1 _ (List.mem_singleton.2 rfl))) h12_1 rfl) ?_
    rintro _ w hm
    replace hm : Mem w0 (hp w0) _ [ow [v2_5] ys2_1, blk b0_1 [(nV c_.params), (nV c_.regs), (sV b1_1 o1_1 c_.blocks.length c0_1)] 45, holeE b2_3 o2_2 ys0_1.length c0_2 (xs2_1 : List (List (MapS Int))) (i1_1).toNat [v2_5], ow [(.slice p1_2 r1_1.length c1_3)] r1_1, blk b2_2 [(nV x2_1.to), v2_1] 86] := hm
    refine gE ?_
    replace hm := hm.imp (c' := ow [v2_5] (ys2_1 : List (MapS Int))) 0 rfl (fun F h0 => h0)
    replace hm := (hm.shutE (y := (ys2_1 : List (MapS Int))) 2 0 (by decide) rfl rfl).pk (L' := [blk b0_1 [(nV c_.params), (nV c_.regs), (sV b1_1 o1_1 c_.blocks.length c0_1)] 45, ow [(sV b2_3 o2_2 ys0_1.length c0_2)] (xs2_1.set (i1_1).toNat ys2_1), ow [(.slice p1_2 r1_1.length c1_3)] r1_1, blk b2_2 [(nV x2_1.to), v2_1] 86]) [1, 2, 3, 4] rfl rfl
    have hx2_6 := List.getElem?_set_self (a := (ys2_1 : List (MapS Int))) (idx_lt hx2_4)
    exact gR (gP (by omega) (by omega) rfl (gM rfl (gE (gze hm [0, 1, 2] rfl))))
   repeat clear hm
   intro i1_2 xs1_2 w hm hi1_3 hi1_4
   exact gS (gR (gB rfl (gE (gS (go _ 31 rfl (decide_eq_false (by omega)) (gcf rfl (gXt (gHh (gR (gP (by omega) (by omega) rfl (gM rfl (gE (gze hm [0, 1] rfl)))))))))))))
  repeat clear hm
  intro i0_1 xs0_1 w hm hi0_3 hi0_4
  exact gS (gR (gB rfl (gE (gS (go _ 20 rfl (decide_eq_false (by omega)) (gcf rfl (gXt (gHh (gS (gR (gM rfl (gA rfl (gE (gRt (gr1 results56 rfl ⟨(.slice p0_2 ys0_1.length c0_2), rfl, hm.pk [1] rfl rfl⟩)))))))))))))))

theorem impl_settle_1_ok (w0 : World) (p_ : Int) (c0_ : MapS Int) (v1 : Value) (h1 : GT.rep (hp w0) [v1] c0_) (bf0 : Nat) (hbf0 : w0.heap[bf0]? = some (.cells ([v1] : List Value).toArray 69 (0, 0))) :
    ConM Tryz.prog 103 [(nV p_), (pV bf0)] w0 (impl_settle_1 p_ c0_) fun r v w' => v = (nV r) ∧ Below w0.heap.size w0 w' := by
  unfold impl_settle_1
  refine gcon func103 rfl fun r => ?_
  have hm := Mem.start w0
  exact gS (gR (gA rfl (gE (gS (gR (gY (yl isAgg69 (hm.old_cell hbf0 rfl) rfl) (gM rfl (gY (yG rfl (y_lookI (key := p_) (m := (c0_ : MapS Int)) underlying3 underlying69 zeroValue3 (hm.now h1) rfl rfl rfl)) (gA rfl (gE (gRt (gr1 results103 rfl ⟨rfl, hm.below⟩))))))))))))

theorem impl_mapped_int_int_ok (w0 : World) (list : List Int) (v1 : Value) (h1 : GT.rep (hp w0) [v1] list) (f : Int → Option Int) (fv1 : Value) (hfn1 : ∀ (w : World) (y0 : Int) (r : Int), Below w0.heap.size w0 w → f y0 = some r → FnOk Tryz.prog fv1 [(nV y0)] w (fun v w' => v = (nV r) ∧ Below w.heap.size w w')) :
    ConM Tryz.prog 102 [v1, fv1] w0 (impl_mapped_int_int list f) fun r v w' => ∃ (x1 : Value), v = x1 ∧ Mem w0 (hp w0) w' [ow [x1] r] := by
  unfold impl_mapped_int_int
  refine gcon func102 rfl fun r => ?_
  have hm := Mem.start w0
  refine gS (gR (gA rfl (gE (gS (gR (gA rfl (gE (gS (gS (gR (gM rfl ?_)))))))))))
  obtain ⟨p0_1, c0_1, rfl, hl0_1⟩ := ro_slice h1
  refine gY (yV st_47 rfl) (gM rfl (gE (gBk ?_)))
  replace hm := hm.nilow (α := Int)
  refine gNg (fun i1_1 xs1_1 a w => ∃ (v1_1 : Value), St 22 [(1, fv1), (5, v1_1), (8, (.slice p0_1 list.length c0_1)), (9, (nV ((list.length : Int)))), (10, (nV i1_1))] w0 (hp w0) [ow [v1_1] xs1_1] a w) (fun a hf => ⟨(.slice none 0 0), hf.sb rfl, hm.pk [0] rfl rfl⟩) ?_ ?_
  ·
   repeat clear hm
   rintro _ _ i1_1 xs1_1 a w ⟨v1_1, hf, hm⟩ hi0_1 hi0_2 q0_1 _
   refine gv hf (gS (gR (gB rfl (gE (gS (go _ 11 rfl (decide_eq_true (by omega)) (gct rfl (gSk (gS (gBk (gS (gR (gg fun x1_1 h1_1 hx1_2 => ?_)))))))))))))
   obtain ⟨b1_1, o1_1, c1_1, he⟩ := idx_form h1 hx1_2
   simp only [Value.slice.injEq, Option.some.injEq] at he; obtain ⟨rfl, _, rfl⟩ := he
   refine gI st_47 h1_1 (idx_lt hx1_2) rfl (gY (yl isAgg3 ((flat_cells (cs := [(nV x1_1)]) (hm.now h1) hx1_2 rfl).cell (j := 0) rfl) rfl) (gA rfl (gE (gR (gM rfl (gM rfl (gM rfl (gb fun r1_1 hx1_3 => gf rfl (fun a hf => e_callv hf rfl rfl rfl (hfn1 _ x1_1 _ hm.below hx1_3)) ?_))))))))
   rintro v1_2 w ⟨rfl, hB⟩
   replace hm := hm.below' hB; clear hB
   refine gf rfl (fun a hf => e_build (vs := #[(0, (nV r1_1))]) (cs := [(nV r1_1)]) et_47 hf hm rfl rfl (by kernel_rfl) rfl rfl) ?_
   rintro _ w ⟨b1_2, rfl, hm⟩
   replace hm := hm.lit (xs := ([r1_1] : List Int)) 0 rfl rfl rfl rfl
   refine gb fun ys1_1 hx1_4 => ?_
   obtain ⟨h1_2, h1_2e⟩ := appM_some.1 hx1_4
   refine gf rfl (fun a hf => e_append 1 et_47 hf hm rfl (hm.ow_rep 0 rfl) rfl rfl rfl h1_2) ?_
   rintro v1_3 w hm
   rw [h1_2e] at hm
   exact gA rfl (gE (gR (gP (by omega) (by omega) rfl (gM rfl (gE (gZe fun a hf => ⟨v1_3, hf.sb rfl, hm.pk [1] rfl rfl⟩))))))
  repeat clear hm
  rintro i0_1 xs0_1 a w ⟨v0_1, hf, hm⟩ hi0_3 hi0_4
  exact gv hf (gS (gR (gB rfl (gE (gS (go _ 11 rfl (decide_eq_false (by omega)) (gcf rfl (gXt (gHh (gS (gR (gM rfl (gA rfl (gE (gRt (gr1 results102 rfl ⟨v0_1, rfl, hm.pk [0] rfl rfl⟩))))))))))))))))

theorem impl_settle_ok (w0 : World) (hz : Heap) (c_ : Code_) (bp0 : Nat) (v1p : Value) (phis : List (List (MapS Int))) (v1 : Value) (h1 : GT.rep hz [v1] phis) (hm0 : Mem w0 hz w0 [blk bp0 [(nV c_.params), (nV c_.regs), v1p] 45, ow [v1p] c_.blocks]) :
    ConM Tryz.prog 58 [(pV bp0), v1] w0 (impl_settle c_ phis) fun r v w' => ∃ (x1 : Value), v = (.tuple #[]) ∧ Mem w0 hz w' [blk bp0 [(nV r.params), (nV r.regs), x1] 45, ow [x1] r.blocks] := by
  unfold impl_settle
  refine gcon func58 rfl fun r => ?_
  have hm := hm0
  refine gS (gR (gM rfl (gY (yG rfl (y_nilptr rfl rfl)) (gF fo_45_2 rfl (gL hm 0 isAgg43 rfl ?_)))))
  obtain ⟨p0_1, c0_1, rfl, hl0_1⟩ := ro_slice (hm.ow_rep 1 rfl)
  refine gY (yV st_43 rfl) (gM rfl (gE (gBk (gNf hm (fun i1_1 xs1_1 => [(0, (pV bp0)), (1, v1), (12, (nV ((c_.blocks.length : Int)))), (13, (nV i1_1))]) (fun i1_1 xs1_1 => [blk bp0 [(nV c_.params), (nV c_.regs), (.slice p0_1 c_.blocks.length c0_1)] 45, ow [(.slice p0_1 c_.blocks.length c0_1)] xs1_1]) [0, 1] rfl ?_ ?_))))
  ·
   repeat clear hm
   intro _ _ i1_1 xs1_1 w hm hi0_1 hi0_2 q0_1 _
   refine gS (gR (gB rfl (gE (gS (go _ 14 rfl (decide_eq_true (by omega)) (gct rfl (gSk (gS (gBk (gS (gR (gM rfl (gA rfl (gE (gS (gR (gM rfl (gY (yG rfl (y_nilptr rfl rfl)) (gY (yn (hm.blk_at 0 rfl) isAgg45 sizeOf45 rfl) (gM rfl (gCg rfl call65 (impl_PredsOf_ok _ (⟨c_.params, c_.regs, xs1_1⟩ : Code_) (.slice p0_1 c_.blocks.length c0_1) (hm.ow_rep 1 rfl) i1_1) ?_)))))))))))))))))))))
   rintro r1_1 hx1_1 v1_1 w ⟨_, rfl, hB⟩
   replace hm := hm.give hB; clear hB
   refine gA rfl (gE (gS (gR (gM rfl (gM rfl (gg fun x1_1 h1_1 hx1_3 => ?_))))))
   obtain ⟨b1_1, o1_1, c1_1, he⟩ := idx_form' h1 hx1_3
   subst he
   obtain ⟨_, _, hc1_1, hr1_1⟩ := ro_get' h1 hx1_3
   have h1_2 := hr1_1
   obtain ⟨v1_3, rfl, -⟩ := id h1_2
   replace h1_2 : GT.rep hz [v1_3] x1_1 := h1_2
   replace hc1_1 : CellsAt hz b1_1 (o1_1 + (i1_1).toNat * 1) [v1_3] := hc1_1
   refine gI st_64 h1_1 (idx_lt hx1_3) rfl (gY (yl isAgg68 ((hc1_1.mono hm.lez).cell (j := 0) rfl) rfl) ?_)
   obtain ⟨p1_1, c1_2, rfl, hl1_1⟩ := ro_slice h1_2
   refine gY (yV st_68 rfl) (gM rfl (gE ?_))
   obtain ⟨p1_2, c1_3, rfl, hl1_2⟩ := ro_slice (hm.ow_rep 0 rfl)
   refine gBk (gNf hm (fun i2_1 xs2_1 => [(0, (pV bp0)), (1, (sV b1_1 o1_1 phis.length c1_1)), (4, (nV i1_1)), (5, (.slice p1_2 r1_1.length c1_3)), (12, (nV ((c_.blocks.length : Int)))), (13, (nV i1_1)), (24, (.slice p1_1 x1_1.length c1_2)), (25, (nV ((x1_1.length : Int)))), (26, (nV i2_1))]) (fun i2_1 xs2_1 => [blk bp0 [(nV c_.params), (nV c_.regs), (.slice p0_1 c_.blocks.length c0_1)] 45, ow [(.slice p0_1 c_.blocks.length c0_1)] xs2_1, ow [(.slice p1_2 r1_1.length c1_3)] r1_1]) [1, 2, 0] rfl ?_ ?_)
   ·
    repeat clear hm
    intro _ _ i2_1 xs2_1 w hm hi1_1 hi1_2 q1_1 _
    refine gS (gR (gB rfl (gE (gS (go _ 27 rfl (decide_eq_true (by omega)) (gct rfl (gSk (gS (gBk (gS (gR (gM rfl (gg fun x2_1 h2_1 hx2_2 => ?_)))))))))))))
    obtain ⟨b2_1, o2_1, c2_1, he⟩ := idx_form' h1_2 hx2_2
    simp only [Value.slice.injEq, Option.some.injEq] at he; obtain ⟨rfl, _, rfl⟩ := he
    obtain ⟨_, _, hc2_1, hr2_1⟩ := ro_get' h1_2 hx2_2
    have h2_2 := hr2_1
    obtain ⟨v2_1, rfl, -⟩ := id h2_2
    replace h2_2 : GT.rep hz [v2_1] x2_1 := h2_2
    replace hc2_1 : CellsAt hz b2_1 (o2_1 + (i2_1).toNat * 1) [v2_1] := hc2_1
    refine gI st_68 h2_1 (idx_lt hx2_2) rfl (gY (yl isAgg69 ((hc2_1.mono hm.lez).cell (j := 0) rfl) rfl) (gAl hm zeroValue69 rfl fun b2_2 w hm => gA rfl (gS1 hm 0 sizeOf69 (rep_oneM h2_2) rfl fun w hm => gE (gJ hm (fun s2_1 => [(0, (pV bp0)), (1, (sV b1_1 o1_1 phis.length c1_1)), (4, (nV i1_1)), (5, (.slice p1_2 r1_1.length c1_3)), (12, (nV ((c_.blocks.length : Int)))), (13, (nV i1_1)), (24, (sV b2_1 o2_1 x1_1.length c1_2)), (25, (nV ((x1_1.length : Int)))), (26, (nV i2_1))]) (fun s2_1 => [blk bp0 [(nV c_.params), (nV c_.regs), (.slice p0_1 c_.blocks.length c0_1)] 45, ow [(.slice p0_1 c_.blocks.length c0_1)] s2_1, ow [(.slice p1_2 r1_1.length c1_3)] r1_1]) (fun s2_1 => ?_) ?_))))
    ·
     refine gW (.p 0 (.p 1 (.p 2 (.p 4 (.p 8 (.p 9 (.p 10 (.q 3 (.p 5 (.p 6 (.e 7 (.e 11 (.p 12 (.p 13 (.e 14 .fin .nil))) .nil) (.e 11 (.e 7 (.p 12 (.p 13 (.e 14 .fin .nil))) .nil) .nil)))))))))))) [11] [0, 1, 2, 4, 5, 6, 8, 9, 10, 12, 13] hm [0, 1, 3] [blk b2_2 [v2_1] 69, blk bp0 [(nV c_.params), (nV c_.regs), (.slice p0_1 c_.blocks.length c0_1)] 45, ow [(.slice p1_2 r1_1.length c1_3)] r1_1] rfl mxo (by kernel_rfl) (fun _ _ _ h => h.2) fun w hm hS => tP rfl (fun w => yM rfl) (tP rfl (fun w => yG rfl (y_nilptr rfl rfl)) (tP rfl (fun w => yF fo_45_2 rfl) (tP rfl (fun w => yM rfl) (tP rfl (fun w => yM rfl) (tP rfl (fun w => yM rfl) (tP rfl (fun w => yU rfl) (tQ rfl hS (fun w hm => yL hm 1 isAgg43 rfl) (gg fun x3_1 h3_1 hx3_2 => ?_))))))))
     obtain ⟨b3_1, o3_1, c3_1, he⟩ := idx_form' (hm.ow_rep 2 rfl) hx3_2
     simp only [Value.slice.injEq, Option.some.injEq] at he; obtain ⟨rfl, _, rfl⟩ := he
     obtain ⟨v3_1, v3_2, v3_3, hc3_1, h3_2, h3_3, h3_4⟩ := rk_Block_ (hm.ow_rep 2 rfl) hx3_2
     have hL3_1 := rep_slice_len (hm.ow_rep 2 rfl)
     refine tP rfl (fun w => yI st_43 h3_1 (idx_lt2 hx3_2 hL3_1) rfl) (tP rfl (fun w => yF fo_61_0 rfl) (gb fun pb3_1 hpb3_1 => gb fun pb3_2 hpb3_2 => tMo ?_ ?_))
     ·
      obtain ⟨v3_4, v3_5, v3_6, hm⟩ := pin_Block_ hm 2 rfl hx3_2
      refine tY rfl (yl isAgg58 ((hm.holeE_at 5 rfl).cell (j := 0) rfl) rfl) (tAn rfl (tO (tf rfl rfl (fun a hf => e_call hf rfl call102 rfl (impl_mapped_int_int_ok _ r1_1 (.slice p1_2 r1_1.length c1_3) (hm.ow_rep 6 rfl) (fun y0 => impl_settle_1 y0 x2_1) (.func (.func 103) #[] #[(pV b2_2)]) (fun w y0 r hB hq => ⟨103, [(pV b2_2)], rfl, call103, impl_settle_1_ok w y0 x2_1 v2_1 (rep_later (hm.now h2_2) hB) b2_2 (hm.blk_later 3 rfl hB) r hq⟩) _ hpb3_1)) ?_)))
      rintro v3_7 w ⟨_, rfl, hB⟩
      replace hm := hm.give hB; clear hB
      refine tAk hm [4, 5, 7] rfl fun hS => ?_
      obtain ⟨h3_5, hx3_3⟩ := getI_some.1 hpb3_2
      obtain ⟨b3_2, o3_2, c3_2, he⟩ := idx_form' (hm.ow_rep 3 rfl) hx3_3
      subst he
      obtain ⟨v3_9, hc3_2, h3_6⟩ := rk_Phi_ (hm.ow_rep 3 rfl) hx3_3
      refine tP rfl (fun w => yI st_58 h3_5 (idx_lt hx3_3) rfl) (tP rfl (fun w => yF fo_86_1 rfl) (tO ?_))
      obtain ⟨v3_10, hm⟩ := pin_Phi_ hm 3 rfl hx3_3
      have h13_1 : ∀ u ∈ ([v3_7] : List Value), u.oneCell' = true := (one_cons (rep_one (hm.ow_rep 1 rfl)) one_nil)
      refine tf0 rfl rfl (fun a hf => e_storeH (j := 1) (vs := [v3_7]) 4 hf hm rfl rfl rfl sizeOf47 rfl rfl (cells_one (h13_1 _ (List.mem_singleton.2 rfl))) h13_1 rfl) ?_
      rintro _ w hm
      replace hm : Mem w0 hz _ [ow [v3_10] pb3_2.args, ow [v3_7] pb3_1, ow [v3_6] x3_1.next_, ow [v3_5] x3_1.ins, holeE b3_2 o3_2 x3_1.phis.length c3_2 (x3_1.phis : List Phi_) (i2_1).toNat [(nV pb3_2.to), v3_7], blk b2_2 [v2_1] 69, blk bp0 [(nV c_.params), (nV c_.regs), (sV b3_1 o3_1 c_.blocks.length c0_1)] 45, holeE b3_1 o3_1 c_.blocks.length c0_1 (xs2_1 : List Block_) (i1_1).toNat [(sV b3_2 o3_2 x3_1.phis.length c3_2), v3_5, (nV x3_1.jump), (nV x3_1.on), v3_6], ow [(.slice p1_2 r1_1.length c1_3)] r1_1] := hm
      refine tAn rfl (tE ?_)
      replace hm : Mem w0 hz _ [ow [v3_10] pb3_2.args, ow [(nV pb3_2.to), v3_7] ((⟨pb3_2.to, pb3_1⟩ : Phi_) : Phi_), ow [v3_6] x3_1.next_, ow [v3_5] x3_1.ins, holeE b3_2 o3_2 x3_1.phis.length c3_2 (x3_1.phis : List Phi_) (i2_1).toNat [(nV pb3_2.to), v3_7], blk b2_2 [v2_1] 69, blk bp0 [(nV c_.params), (nV c_.regs), (sV b3_1 o3_1 c_.blocks.length c0_1)] 45, holeE b3_1 o3_1 c_.blocks.length c0_1 (xs2_1 : List Block_) (i1_1).toNat [(sV b3_2 o3_2 x3_1.phis.length c3_2), v3_5, (nV x3_1.jump), (nV x3_1.on), v3_6], ow [(.slice p1_2 r1_1.length c1_3)] r1_1] := mk_Phi_ pb3_2.to hm 1 rfl
      replace hm := (hm.shutE (y := ((⟨pb3_2.to, pb3_1⟩ : Phi_) : Phi_)) 4 1 (by decide) rfl rfl).pk (L' := [ow [v3_10] pb3_2.args, ow [v3_6] x3_1.next_, ow [v3_5] x3_1.ins, ow [(sV b3_2 o3_2 x3_1.phis.length c3_2)] (x3_1.phis.set (i2_1).toNat (⟨pb3_2.to, pb3_1⟩ : Phi_)), blk b2_2 [v2_1] 69, blk bp0 [(nV c_.params), (nV c_.regs), (sV b3_1 o3_1 c_.blocks.length c0_1)] 45, holeE b3_1 o3_1 c_.blocks.length c0_1 (xs2_1 : List Block_) (i1_1).toNat [(sV b3_2 o3_2 x3_1.phis.length c3_2), v3_5, (nV x3_1.jump), (nV x3_1.on), v3_6], ow [(.slice p1_2 r1_1.length c1_3)] r1_1]) [0, 2, 3, 4, 5, 6, 7, 8] rfl rfl
      have hx3_4 := List.getElem?_set_self (a := ((⟨pb3_2.to, pb3_1⟩ : Phi_) : Phi_)) (idx_lt hx3_3)
      replace hm := (mk_Block_ x3_1.jump x3_1.on hm 3 2 1 rfl).pk (L' := [ow [v3_10] pb3_2.args, ow [(sV b3_2 o3_2 x3_1.phis.length c3_2), v3_5, (nV x3_1.jump), (nV x3_1.on), v3_6] ((⟨(x3_1.phis.set (i2_1).toNat (⟨pb3_2.to, pb3_1⟩ : Phi_)), x3_1.ins, x3_1.jump, x3_1.on, x3_1.next_⟩ : Block_) : Block_), blk b2_2 [v2_1] 69, blk bp0 [(nV c_.params), (nV c_.regs), (sV b3_1 o3_1 c_.blocks.length c0_1)] 45, holeE b3_1 o3_1 c_.blocks.length c0_1 (xs2_1 : List Block_) (i1_1).toNat [(sV b3_2 o3_2 x3_1.phis.length c3_2), v3_5, (nV x3_1.jump), (nV x3_1.on), v3_6], ow [(.slice p1_2 r1_1.length c1_3)] r1_1]) [0, 3, 4, 5, 6, 7] rfl rfl
      replace hm := (hm.shutE (y := ((⟨(x3_1.phis.set (i2_1).toNat (⟨pb3_2.to, pb3_1⟩ : Phi_)), x3_1.ins, x3_1.jump, x3_1.on, x3_1.next_⟩ : Block_) : Block_)) 4 1 (by decide) rfl rfl).pk (L' := [ow [v3_10] pb3_2.args, blk b2_2 [v2_1] 69, blk bp0 [(nV c_.params), (nV c_.regs), (sV b3_1 o3_1 c_.blocks.length c0_1)] 45, ow [(sV b3_1 o3_1 c_.blocks.length c0_1)] (xs2_1.set (i1_1).toNat (⟨(x3_1.phis.set (i2_1).toNat (⟨pb3_2.to, pb3_1⟩ : Phi_)), x3_1.ins, x3_1.jump, x3_1.on, x3_1.next_⟩ : Block_)), ow [(.slice p1_2 r1_1.length c1_3)] r1_1]) [0, 2, 3, 4, 5] rfl rfl
      have hx3_5 := List.getElem?_set_self (a := ((⟨(x3_1.phis.set (i2_1).toNat (⟨pb3_2.to, pb3_1⟩ : Phi_)), x3_1.ins, x3_1.jump, x3_1.on, x3_1.next_⟩ : Block_) : Block_)) (idx_lt hx3_2)
      exact gz hm [2, 3, 4] rfl
     refine tO (tf rfl rfl (fun a hf => e_call hf rfl call102 rfl (impl_mapped_int_int_ok _ r1_1 (.slice p1_2 r1_1.length c1_3) (hm.ow_rep 3 rfl) (fun y0 => impl_settle_1 y0 x2_1) (.func (.func 103) #[] #[(pV b2_2)]) (fun w y0 r hB hq => ⟨103, [(pV b2_2)], rfl, call103, impl_settle_1_ok w y0 x2_1 v2_1 (rep_later (hm.now h2_2) hB) b2_2 (hm.blk_later 0 rfl hB) r hq⟩) _ hpb3_1)) ?_)
     rintro v3_11 w ⟨_, rfl, hB⟩
     replace hm := hm.give hB; clear hB
     refine tAk hm [1, 2, 4] rfl fun hS => tO ?_
     obtain ⟨v3_13, v3_14, v3_15, hm⟩ := pin_Block_ hm 3 rfl hx3_2
     refine tY rfl (yl isAgg58 ((hm.holeE_at 6 rfl).cell (j := 0) rfl) rfl) (tAn rfl ?_)
     obtain ⟨h3_7, hx3_6⟩ := getI_some.1 hpb3_2
     obtain ⟨b3_3, o3_3, c3_3, he⟩ := idx_form' (hm.ow_rep 2 rfl) hx3_6
     subst he
     obtain ⟨v3_16, hc3_3, h3_8⟩ := rk_Phi_ (hm.ow_rep 2 rfl) hx3_6
     refine tP rfl (fun w => yI st_58 h3_7 (idx_lt hx3_6) rfl) (tP rfl (fun w => yF fo_86_1 rfl) (tO ?_))
     obtain ⟨v3_17, hm⟩ := pin_Phi_ hm 2 rfl hx3_6
     have h13_2 : ∀ u ∈ ([v3_11] : List Value), u.oneCell' = true := (one_cons (rep_one (hm.ow_rep 4 rfl)) one_nil)
     refine tf0 rfl rfl (fun a hf => e_storeH (j := 1) (vs := [v3_11]) 3 hf hm rfl rfl rfl sizeOf47 rfl rfl (cells_one (h13_2 _ (List.mem_singleton.2 rfl))) h13_2 rfl) ?_
     rintro _ w hm
     replace hm : Mem w0 hz _ [ow [v3_17] pb3_2.args, ow [v3_15] x3_1.next_, ow [v3_14] x3_1.ins, holeE b3_3 o3_3 x3_1.phis.length c3_3 (x3_1.phis : List Phi_) (i2_1).toNat [(nV pb3_2.to), v3_11], ow [v3_11] pb3_1, blk b2_2 [v2_1] 69, blk bp0 [(nV c_.params), (nV c_.regs), (sV b3_1 o3_1 c_.blocks.length c0_1)] 45, holeE b3_1 o3_1 c_.blocks.length c0_1 (xs2_1 : List Block_) (i1_1).toNat [(sV b3_3 o3_3 x3_1.phis.length c3_3), v3_14, (nV x3_1.jump), (nV x3_1.on), v3_15], ow [(.slice p1_2 r1_1.length c1_3)] r1_1] := hm
     refine tAn rfl (tE ?_)
     replace hm : Mem w0 hz _ [ow [v3_17] pb3_2.args, ow [v3_15] x3_1.next_, ow [v3_14] x3_1.ins, holeE b3_3 o3_3 x3_1.phis.length c3_3 (x3_1.phis : List Phi_) (i2_1).toNat [(nV pb3_2.to), v3_11], ow [(nV pb3_2.to), v3_11] ((⟨pb3_2.to, pb3_1⟩ : Phi_) : Phi_), blk b2_2 [v2_1] 69, blk bp0 [(nV c_.params), (nV c_.regs), (sV b3_1 o3_1 c_.blocks.length c0_1)] 45, holeE b3_1 o3_1 c_.blocks.length c0_1 (xs2_1 : List Block_) (i1_1).toNat [(sV b3_3 o3_3 x3_1.phis.length c3_3), v3_14, (nV x3_1.jump), (nV x3_1.on), v3_15], ow [(.slice p1_2 r1_1.length c1_3)] r1_1] := mk_Phi_ pb3_2.to hm 4 rfl
     replace hm := (hm.shutE (y := ((⟨pb3_2.to, pb3_1⟩ : Phi_) : Phi_)) 3 4 (by decide) rfl rfl).pk (L' := [ow [v3_17] pb3_2.args, ow [v3_15] x3_1.next_, ow [v3_14] x3_1.ins, ow [(sV b3_3 o3_3 x3_1.phis.length c3_3)] (x3_1.phis.set (i2_1).toNat (⟨pb3_2.to, pb3_1⟩ : Phi_)), blk b2_2 [v2_1] 69, blk bp0 [(nV c_.params), (nV c_.regs), (sV b3_1 o3_1 c_.blocks.length c0_1)] 45, holeE b3_1 o3_1 c_.blocks.length c0_1 (xs2_1 : List Block_) (i1_1).toNat [(sV b3_3 o3_3 x3_1.phis.length c3_3), v3_14, (nV x3_1.jump), (nV x3_1.on), v3_15], ow [(.slice p1_2 r1_1.length c1_3)] r1_1]) [0, 1, 2, 3, 5, 6, 7, 8] rfl rfl
     have hx3_7 := List.getElem?_set_self (a := ((⟨pb3_2.to, pb3_1⟩ : Phi_) : Phi_)) (idx_lt hx3_6)
     replace hm := (mk_Block_ x3_1.jump x3_1.on hm 3 2 1 rfl).pk (L' := [ow [v3_17] pb3_2.args, ow [(sV b3_3 o3_3 x3_1.phis.length c3_3), v3_14, (nV x3_1.jump), (nV x3_1.on), v3_15] ((⟨(x3_1.phis.set (i2_1).toNat (⟨pb3_2.to, pb3_1⟩ : Phi_)), x3_1.ins, x3_1.jump, x3_1.on, x3_1.next_⟩ : Block_) : Block_), blk b2_2 [v2_1] 69, blk bp0 [(nV c_.params), (nV c_.regs), (sV b3_1 o3_1 c_.blocks.length c0_1)] 45, holeE b3_1 o3_1 c_.blocks.length c0_1 (xs2_1 : List Block_) (i1_1).toNat [(sV b3_3 o3_3 x3_1.phis.length c3_3), v3_14, (nV x3_1.jump), (nV x3_1.on), v3_15], ow [(.slice p1_2 r1_1.length c1_3)] r1_1]) [0, 3, 4, 5, 6, 7] rfl rfl
     replace hm := (hm.shutE (y := ((⟨(x3_1.phis.set (i2_1).toNat (⟨pb3_2.to, pb3_1⟩ : Phi_)), x3_1.ins, x3_1.jump, x3_1.on, x3_1.next_⟩ : Block_) : Block_)) 4 1 (by decide) rfl rfl).pk (L' := [ow [v3_17] pb3_2.args, blk b2_2 [v2_1] 69, blk bp0 [(nV c_.params), (nV c_.regs), (sV b3_1 o3_1 c_.blocks.length c0_1)] 45, ow [(sV b3_1 o3_1 c_.blocks.length c0_1)] (xs2_1.set (i1_1).toNat (⟨(x3_1.phis.set (i2_1).toNat (⟨pb3_2.to, pb3_1⟩ : Phi_)), x3_1.ins, x3_1.jump, x3_1.on, x3_1.next_⟩ : Block_)), ow [(.slice p1_2 r1_1.length c1_3)] r1_1]) [0, 2, 3, 4, 5] rfl rfl
     have hx3_8 := List.getElem?_set_self (a := ((⟨(x3_1.phis.set (i2_1).toNat (⟨pb3_2.to, pb3_1⟩ : Phi_)), x3_1.ins, x3_1.jump, x3_1.on, x3_1.next_⟩ : Block_) : Block_)) (idx_lt hx3_2)
     exact gz hm [2, 3, 4] rfl
    repeat clear hm
    intro s2_1 w hm
    exact gR (gP (by omega) (by omega) rfl (gM rfl (gE (gze hm [0, 1, 2] rfl))))
   repeat clear hm
   intro i1_2 xs1_2 w hm hi1_3 hi1_4
   exact gS (gR (gB rfl (gE (gS (go _ 27 rfl (decide_eq_false (by omega)) (gcf rfl (gXt (gHh (gR (gP (by omega) (by omega) rfl (gM rfl (gE (gze hm [0, 1] rfl)))))))))))))
  repeat clear hm
  intro i0_1 xs0_1 w hm hi0_3 hi0_4
  exact gS (gR (gB rfl (gE (gS (go _ 14 rfl (decide_eq_false (by omega)) (gcf rfl (gXt (gHh (gre results58 ⟨(.slice p0_1 c_.blocks.length c0_1), rfl, hm.pk [0, 1] rfl rfl⟩)))))))))

theorem impl_picked_ok (w0 : World) (c_ : Code_) (v1 : Value) (h1 : GT.rep (hp w0) [v1] c_.blocks) (order : List Int) (v2 : Value) (h2 : GT.rep (hp w0) [v2] order) :
    ConM Tryz.prog 41 [(.agg #[(nV c_.params), (nV c_.regs), v1]), v2] w0 (impl_picked c_ order) fun r v w' => ∃ (x1 : Value), v = (.agg #[(nV r.params), (nV r.regs), x1]) ∧ Mem w0 (hp w0) w' [ow [x1] r.blocks] := by
  unfold impl_picked
  refine gcon func41 rfl fun r => ?_
  have hm := Mem.start w0
  refine gS (gR (gBx hm rfl fun b0_1 w hm => gAl hm zeroValue45 rfl fun b0_2 w hm => gE (gS (gR (gf rfl (fun a hf => e_mkM (β := Int) hm rfl) ?_)))))
  rintro v0_1 w hm
  refine gA rfl (gE (gS (gS (gR (gM rfl ?_)))))
  obtain ⟨p0_1, c0_1, rfl, hl0_1⟩ := ro_slice h2
  refine gY (yV st_47 rfl) (gM rfl (gE (gBk (gNf hm (fun i1_1 xs1_1 => [(1, (.slice p0_1 order.length c0_1)), (2, (pV b0_1)), (4, (pV b0_2)), (5, v0_1), (24, (.slice p0_1 order.length c0_1)), (25, (nV ((order.length : Int)))), (26, (nV i1_1))]) (fun i1_1 xs1_1 => [blk b0_1 [(nV c_.params), (nV c_.regs), v1] 45, blk b0_2 [(nV 0), (nV 0), (.slice none 0 0)] 45, owm v0_1 xs1_1]) [2, 1, 0] rfl ?_ ?_))))
  ·
   repeat clear hm
   intro _ _ i1_1 xs1_1 w hm hi0_1 hi0_2 q0_1 _
   refine gS (gR (gB rfl (gE (gS (go _ 27 rfl (decide_eq_true (by omega)) (gct rfl (gSk (gS (gBk (gS (gR (gM rfl (gg fun x1_1 h1_1 hx1_2 => ?_)))))))))))))
   obtain ⟨b1_1, o1_1, c1_1, he⟩ := idx_form h2 hx1_2
   simp only [Value.slice.injEq, Option.some.injEq] at he; obtain ⟨rfl, _, rfl⟩ := he
   refine gI st_47 h1_1 (idx_lt hx1_2) rfl (gY (yl isAgg3 ((flat_cells (cs := [(nV x1_1)]) (hm.now h2) hx1_2 rfl).cell (j := 0) rfl) rfl) (gA rfl (gA rfl (gE (gR (gM rfl (gM rfl (gM rfl (gf0 rfl (fun a hf => e_insM (β := Int) (key := x1_1) (u := i1_1) (b := false) 2 underlying3 underlying69 hf hm rfl rfl rfl rfl rfl) ?_)))))))))
   rintro _ w hm
   exact gE (gR (gP (by omega) (by omega) rfl (gM rfl (gE (gze hm [0, 1, 2] rfl)))))
  repeat clear hm
  intro i0_1 xs0_1 w hm hi0_3 hi0_4
  refine gS (gR (gB rfl (gE (gS (go _ 27 rfl (decide_eq_false (by omega)) (gcf rfl (gXt (gHh (gS (gR (gY (yn (hm.blk_at 0 rfl) isAgg45 sizeOf45 rfl) (gCg rfl call56 (impl_phisOf_ok _ c_ v1 (hm.now h1)) ?_))))))))))))
  rintro r0_2 hx0_1 v0_2 w ⟨_, rfl, hB⟩
  replace hm := hm.give hB; clear hB
  refine gA rfl (gE (gS (gR (gF fo_45_0 rfl (gL hm 1 isAgg3 rfl (gF fo_45_1 rfl (gL hm 1 isAgg3 rfl (gY (yG rfl (y_build (vs := [(0, (nV c_.params)), (1, (nV c_.regs))]) (cs := #[(nV c_.params), (nV c_.regs), (.slice none 0 0)]) rfl rfl (by kernel_rfl))) (gAl hm zeroValue45 rfl fun b0_3 w hm => gSN hm 0 sizeOf45 (one_cons rfl (one_cons rfl (one_cons rfl one_nil))) rfl fun w hm => gE (gS (gR (gM rfl (gY (yV st_47 rfl) (gb fun ys0_1 hx0_2 => ?_))))))))))))))
  obtain ⟨⟨h0_11, h0_12⟩, h0_1e⟩ := makeM_some.1 hx0_2
  refine gf rfl (fun a hf => e_make (x0 := ([] : List (MapS Int))) et_64 (fun _ => (own_list.2 (.inl ⟨rfl, rfl⟩))) hf hm rfl rfl rfl h0_11 (Int.le_refl _) h0_12) ?_
  rintro v0_4 w hm
  rw [h0_1e] at hm
  have h0_1l : (ys0_1.length : Int) = (order.length : Int) := by rw [← h0_1e]; simp only [List.length_replicate]; omega
  refine gA rfl (gE (gS (gS (gR (gM rfl (gY (yV st_47 rfl) (gM rfl (gE ?_))))))))
  obtain ⟨hz0_2, hle0_2, hz_r0_1, hm⟩ := hm.freeze 2 rfl
  replace hm := hm.pk (L' := [ow [v0_4] ys0_1, blk b0_3 [(nV c_.params), (nV c_.regs), (.slice none 0 0)] 45, blk b0_1 [(nV c_.params), (nV c_.regs), v1] 45, blk b0_2 [(nV 0), (nV 0), (.slice none 0 0)] 45, owm v0_1 xs0_1]) [0, 1, 3, 4, 5] rfl rfl
  replace hz_r0_1 : GT.rep hz0_2 [v0_2] r0_2 := fz_ow hz_r0_1
  obtain ⟨p0_2, c0_2, rfl, hl0_2⟩ := ro_slice (hm.ow_rep 0 rfl)
  refine gBk ?_
  replace hm := hm.nilow (α := Block_)
  refine gNg (fun i1_2 xs1_2 a w => ∃ (v1_1 : Value), St 122 [(2, (pV b0_1)), (4, (pV b0_2)), (5, v0_1), (8, v0_2), (9, (pV b0_3)), (10, (.slice p0_2 ys0_1.length c0_2)), (45, (.slice p0_1 order.length c0_1)), (46, (nV ((order.length : Int)))), (47, (nV i1_2))] w0 hz0_2 [blk b0_1 [(nV c_.params), (nV c_.regs), v1] 45, blk b0_2 [(nV 0), (nV 0), (.slice none 0 0)] 45, owm v0_1 xs0_1, blk b0_3 [(nV c_.params), (nV c_.regs), v1_1] 45, ow [v1_1] xs1_2.1, ow [(.slice p0_2 ys0_1.length c0_2)] xs1_2.2] a w) (fun a hf => ⟨(.slice none 0 0), hf.sb rfl, hm.pk [3, 4, 5, 2, 0, 1] rfl rfl⟩) ?_ ?_
  ·
   repeat clear hm
   rintro _ _ i1_2 xs1_2 a w ⟨v1_1, hf, hm⟩ hi0_5 hi0_6 q0_2 _
   refine gv hf (gS (gR (gB rfl (gE (gS (go _ 48 rfl (decide_eq_true (by omega)) (gct rfl (gSk (gS (gBk (gS (gR (gM rfl (gg fun x1_2 h1_2 hx1_4 => ?_))))))))))))))
   obtain ⟨b1_2, o1_2, c1_2, he⟩ := idx_form h2 hx1_4
   simp only [Value.slice.injEq, Option.some.injEq] at he; obtain ⟨rfl, _, rfl⟩ := he
   refine gI st_47 h1_2 (idx_lt hx1_4) rfl (gY (yl isAgg3 ((flat_cells (cs := [(nV x1_2)]) (hm.now (GT.mono hle0_2 h2)) hx1_4 rfl).cell (j := 0) rfl) rfl) (gA rfl (gA rfl (gE (gS (gR (gF fo_45_2 rfl (gL hm 0 isAgg43 rfl (gM rfl (gg fun x1_3 h1_3 hx1_6 => ?_))))))))))
   obtain ⟨b1_3, o1_3, c1_3, he⟩ := idx_form' h1 hx1_6
   subst he
   obtain ⟨v1_2, v1_3, v1_4, hc1_1, h1_4, h1_5, h1_6⟩ := rk_Block_ h1 hx1_6
   refine gI st_43 h1_3 (idx_lt hx1_6) rfl (gY (yn (hc1_1.mono (Heap.le_trans hle0_2 hm.lez)) isAgg61 sizeOf61 rfl) (gCg rfl call60 (impl_cloneBlock_ok _ x1_3 v1_2 (hm.now (GT.mono hle0_2 h1_4)) v1_3 (hm.now (GT.mono hle0_2 h1_5)) v1_4 (hm.now (GT.mono hle0_2 h1_6))) ?_))
   rintro r1_1 hx1_7 v1_5 w ⟨v1_6, v1_7, v1_8, rfl, hB⟩
   replace hm := hm.give hB; clear hB
   refine gAl hm zeroValue61 rfl fun b1_4 w hm => gSN hm 0 sizeOf61 (one_cons (rep_one (hm.ow_rep 1 rfl)) (one_cons (rep_one (hm.ow_rep 2 rfl)) (one_cons rfl (one_cons rfl (one_cons (rep_one (hm.ow_rep 3 rfl)) one_nil))))) rfl fun w hm => gE (gS (gS (gR (gF fo_61_4 rfl (gL hm 0 isAgg47 rfl ?_)))))
   obtain ⟨p1_1, c1_4, rfl, hl1_1⟩ := ro_slice (hm.ow_rep 3 rfl)
   refine gY (yV st_47 rfl) (gM rfl (gE ?_))
   obtain ⟨p1_2, c1_5, rfl, hl1_2⟩ := ro_slice (hm.ow_rep 8 rfl)
   obtain ⟨p1_3, c1_6, rfl, hl1_3⟩ := ro_slice (hm.ow_rep 1 rfl)
   obtain ⟨p1_4, c1_7, rfl, hl1_4⟩ := ro_slice (hm.ow_rep 2 rfl)
   refine gBk (gNf hm (fun i2_1 xs2_1 => [(2, (pV b0_1)), (4, (pV b0_2)), (5, v0_1), (8, v0_2), (9, (pV b0_3)), (10, (.slice p0_2 ys0_1.length c0_2)), (11, (nV i1_2)), (12, (nV x1_2)), (13, (pV b1_4)), (45, (sV b1_2 o1_2 order.length c0_1)), (46, (nV ((order.length : Int)))), (47, (nV i1_2)), (59, (.slice p1_1 r1_1.next_.length c1_4)), (60, (nV ((r1_1.next_.length : Int)))), (61, (nV i2_1))]) (fun i2_1 xs2_1 => [blk b0_1 [(nV c_.params), (nV c_.regs), (sV b1_3 o1_3 c_.blocks.length c1_3)] 45, blk b0_2 [(nV 0), (nV 0), (.slice none 0 0)] 45, owm v0_1 xs0_1, blk b0_3 [(nV c_.params), (nV c_.regs), (.slice p1_2 xs1_2.1.length c1_5)] 45, ow [(.slice p1_2 xs1_2.1.length c1_5)] xs1_2.1, ow [(.slice p0_2 ys0_1.length c0_2)] xs1_2.2, blk b1_4 [(.slice p1_3 r1_1.phis.length c1_6), (.slice p1_4 r1_1.ins.length c1_7), (nV r1_1.jump), (nV r1_1.on), (.slice p1_1 r1_1.next_.length c1_4)] 61, ow [(.slice p1_3 r1_1.phis.length c1_6)] r1_1.phis, ow [(.slice p1_4 r1_1.ins.length c1_7)] r1_1.ins, ow [(.slice p1_1 r1_1.next_.length c1_4)] xs2_1]) [4, 5, 6, 7, 8, 9, 0, 1, 2, 3] rfl ?_ ?_)
   ·
    repeat clear hm
    intro _ _ i2_1 xs2_1 w hm hi1_1 hi1_2 q1_1 _
    refine gS (gR (gB rfl (gE (gS (go _ 62 rfl (decide_eq_true (by omega)) (gct rfl (gSk (gS (gBk (gS (gR (gM rfl (gg fun x2_1 h2_1 hx2_2 => ?_)))))))))))))
    obtain ⟨b2_1, o2_1, c2_1, he⟩ := idx_form (hm.ow_rep 9 rfl) hx2_2
    simp only [Value.slice.injEq, Option.some.injEq] at he; obtain ⟨rfl, _, rfl⟩ := he
    have hL2_1 := rep_slice_len (hm.ow_rep 9 rfl)
    refine gI st_47 h2_1 (idx_lt2 hx2_2 hL2_1) rfl (gY (yl isAgg3 ((flat_cells (cs := [(nV x2_1)]) (hm.ow_rep 9 rfl) hx2_2 rfl).cell (j := 0) rfl) rfl) (gA rfl (gA rfl (gE (gR (gF fo_61_4 rfl (gL hm 6 isAgg47 rfl (gM rfl (gM rfl (gM rfl (gY (yG rfl (y_lookI (key := x2_1) (m := (xs0_1 : MapS Int)) underlying3 underlying69 zeroValue3 (hm.owm_rep 2 rfl) rfl rfl rfl)) ?_)))))))))))
    have hL2_2 := rep_slice_len (hm.ow_rep 9 rfl)
    refine gI st_47 h2_1 (idx_lt2 hx2_2 hL2_2) rfl (gf0 rfl (fun a hf => e_setElem (x1 := ((MapS.get xs0_1 x2_1).getD 0)) (j := 0) (vs := [(nV (((MapS.get xs0_1 x2_1).getD 0)))]) 9 hf hm rfl hx2_2 rfl sizeOf3 rfl rfl rfl (one_cons rfl one_nil) rfl rfl) ?_)
    rintro _ w hm
    have hx2_3 := List.getElem?_set_self (a := ((MapS.get xs0_1 x2_1).getD 0)) (idx_lt hx2_2)
    exact gE (gR (gP (by omega) (by omega) rfl (gM rfl (gE (gze hm [0, 1, 2, 3, 4, 5, 6, 7, 8, 9] rfl)))))
   repeat clear hm
   intro i1_3 xs1_3 w hm hi1_3 hi1_4
   refine gS (gR (gB rfl (gE (gS (go _ 62 rfl (decide_eq_false (by omega)) (gcf rfl (gXt (gHh (gS (gS (gR (gM rfl (gM rfl (gg fun x1_4 h1_7 hx1_9 => ?_))))))))))))))
   obtain ⟨b1_5, o1_4, c1_8, he⟩ := idx_form' hz_r0_1 hx1_9
   subst he
   obtain ⟨_, _, hc1_2, hr1_1⟩ := ro_get' hz_r0_1 hx1_9
   have h1_8 := hr1_1
   obtain ⟨v1_9, rfl, -⟩ := id h1_8
   replace h1_8 : GT.rep hz0_2 [v1_9] x1_4 := h1_8
   replace hc1_2 : CellsAt hz0_2 b1_5 (o1_4 + (x1_2).toNat * 1) [v1_9] := hc1_2
   refine gI st_64 h1_7 (idx_lt hx1_9) rfl (gY (yl isAgg68 ((hc1_2.mono hm.lez).cell (j := 0) rfl) rfl) ?_)
   obtain ⟨p1_5, c1_9, rfl, hl1_5⟩ := ro_slice h1_8
   refine gY (yV st_68 rfl) (gM rfl (gE (gBk (gNf hm (fun i2_2 xs2_2 => [(2, (pV b0_1)), (4, (pV b0_2)), (5, v0_1), (8, (sV b1_5 o1_4 r0_2.length c1_8)), (9, (pV b0_3)), (10, (.slice p0_2 ys0_1.length c0_2)), (11, (nV i1_2)), (13, (pV b1_4)), (45, (sV b1_2 o1_2 order.length c0_1)), (46, (nV ((order.length : Int)))), (47, (nV i1_2)), (77, (.slice p1_5 x1_4.length c1_9)), (78, (nV ((x1_4.length : Int)))), (79, (nV i2_2))]) (fun i2_2 xs2_2 => [blk b0_1 [(nV c_.params), (nV c_.regs), (sV b1_3 o1_3 c_.blocks.length c1_3)] 45, blk b0_2 [(nV 0), (nV 0), (.slice none 0 0)] 45, owm v0_1 xs0_1, blk b0_3 [(nV c_.params), (nV c_.regs), (.slice p1_2 xs1_2.1.length c1_5)] 45, ow [(.slice p1_2 xs1_2.1.length c1_5)] xs1_2.1, ow [(.slice p0_2 ys0_1.length c0_2)] xs2_2, blk b1_4 [(.slice p1_3 r1_1.phis.length c1_6), (.slice p1_4 r1_1.ins.length c1_7), (nV r1_1.jump), (nV r1_1.on), (.slice p1_1 r1_1.next_.length c1_4)] 61, ow [(.slice p1_3 r1_1.phis.length c1_6)] r1_1.phis, ow [(.slice p1_4 r1_1.ins.length c1_7)] r1_1.ins, ow [(.slice p1_1 r1_1.next_.length c1_4)] xs1_3]) [0, 1, 2, 3, 4, 5, 6, 7, 8, 9] rfl ?_ ?_))))
   ·
    repeat clear hm
    intro _ _ i2_2 xs2_2 w hm hi1_5 hi1_6 q1_2 _
    refine gS (gR (gB rfl (gE (gS (go _ 80 rfl (decide_eq_true (by omega)) (gct rfl (gSk (gS (gBk (gS (gR (gg fun x2_2 h2_2 hx2_5 => ?_))))))))))))
    obtain ⟨b2_2, o2_2, c2_2, he⟩ := idx_form' h1_8 hx2_5
    simp only [Value.slice.injEq, Option.some.injEq] at he; obtain ⟨rfl, _, rfl⟩ := he
    obtain ⟨_, _, hc2_1, hr2_1⟩ := ro_get' h1_8 hx2_5
    have h2_3 := hr2_1
    obtain ⟨v2_1, rfl, -⟩ := id h2_3
    replace h2_3 : GT.rep hz0_2 [v2_1] x2_2 := h2_3
    replace hc2_1 : CellsAt hz0_2 b2_2 (o2_2 + (i2_2).toNat * 1) [v2_1] := hc2_1
    refine gI st_68 h2_2 (idx_lt hx2_5) rfl (gY (yl isAgg69 ((hc2_1.mono hm.lez).cell (j := 0) rfl) rfl) (gA rfl (gE (gS (gR (gf rfl (fun a hf => e_mkM (β := Int) hm rfl) ?_))))))
    rintro v2_2 w hm
    refine gA rfl (gE (gS (gS (gR (gM rfl (gf rfl (fun a hf => e_rangeS (m := (x2_2 : MapS Int)) hf hm underlying69 h2_3 rfl rfl) ?_))))))
    rintro _ w ⟨b2_3, rfl, hm⟩
    refine gE (gJ hm (fun s2_1 => [(2, (pV b0_1)), (4, (pV b0_2)), (5, v0_1), (8, (sV b1_5 o1_4 r0_2.length c1_8)), (9, (pV b0_3)), (10, (.slice p0_2 ys0_1.length c0_2)), (11, (nV i1_2)), (13, (pV b1_4)), (18, v2_2), (45, (sV b1_2 o1_2 order.length c0_1)), (46, (nV ((order.length : Int)))), (47, (nV i1_2)), (77, (sV b2_2 o2_2 x1_4.length c1_9)), (78, (nV ((x1_4.length : Int)))), (79, (nV i2_2))]) (fun s2_1 => [blk b0_1 [(nV c_.params), (nV c_.regs), (sV b1_3 o1_3 c_.blocks.length c1_3)] 45, blk b0_2 [(nV 0), (nV 0), (.slice none 0 0)] 45, owm v0_1 xs0_1, blk b0_3 [(nV c_.params), (nV c_.regs), (.slice p1_2 xs1_2.1.length c1_5)] 45, ow [(.slice p1_2 xs1_2.1.length c1_5)] xs1_2.1, ow [(.slice p0_2 ys0_1.length c0_2)] xs2_2, blk b1_4 [(.slice p1_3 r1_1.phis.length c1_6), (.slice p1_4 r1_1.ins.length c1_7), (nV r1_1.jump), (nV r1_1.on), (.slice p1_1 r1_1.next_.length c1_4)] 61, ow [(.slice p1_3 r1_1.phis.length c1_6)] r1_1.phis, ow [(.slice p1_4 r1_1.ins.length c1_7)] r1_1.ins, ow [(.slice p1_1 r1_1.next_.length c1_4)] xs1_3, owm v2_2 s2_1]) (fun s2_1 => ?_) ?_)
    ·
     refine gBk (gb fun _ hgn3_1 => gRngOn (m := (x2_2 : MapS Int)) (comm_injv (guardN_some hgn3_1) (fun x => x) (fun p s => by first | (dsimp only; split <;> rfl) | (split <;> rfl))) h2_3 (fun sn4_1 xs4_1 a w => St 122 [(2, (pV b0_1)), (4, (pV b0_2)), (5, v0_1), (8, (sV b1_5 o1_4 r0_2.length c1_8)), (9, (pV b0_3)), (10, (.slice p0_2 ys0_1.length c0_2)), (11, (nV i1_2)), (13, (pV b1_4)), (18, v2_2), (45, (sV b1_2 o1_2 order.length c0_1)), (46, (nV ((order.length : Int)))), (47, (nV i1_2)), (77, (sV b2_2 o2_2 x1_4.length c1_9)), (78, (nV ((x1_4.length : Int)))), (79, (nV i2_2)), (85, (pV b2_3))] w0 hz0_2 [blk b0_1 [(nV c_.params), (nV c_.regs), (sV b1_3 o1_3 c_.blocks.length c1_3)] 45, blk b0_2 [(nV 0), (nV 0), (.slice none 0 0)] 45, owm v0_1 xs0_1, blk b0_3 [(nV c_.params), (nV c_.regs), (.slice p1_2 xs1_2.1.length c1_5)] 45, ow [(.slice p1_2 xs1_2.1.length c1_5)] xs1_2.1, ow [(.slice p0_2 ys0_1.length c0_2)] xs2_2, blk b1_4 [(.slice p1_3 r1_1.phis.length c1_6), (.slice p1_4 r1_1.ins.length c1_7), (nV r1_1.jump), (nV r1_1.on), (.slice p1_1 r1_1.next_.length c1_4)] 61, ow [(.slice p1_3 r1_1.phis.length c1_6)] r1_1.phis, ow [(.slice p1_4 r1_1.ins.length c1_7)] r1_1.ins, ow [(.slice p1_1 r1_1.next_.length c1_4)] xs1_3, owm v2_2 xs4_1, itc hz0_2 v2_1 b2_3 sn4_1] a w) (fun a hf => ⟨hf.sb rfl, hm.pk [2, 3, 4, 5, 6, 7, 8, 9, 10, 11, 1, 0] rfl rfl⟩) ?_ ?_)
     ·
      repeat clear hm
      rintro sn4_1 xs4_1 a w ⟨hf, hm⟩ hmo
      refine gv (m := some ()) (r := ()) hf ?_ rfl
      refine gS (gR (gf rfl (fun a hf => e_nextS 11 hf hm rfl hmo rfl rfl) ?_))
      rintro _ w ⟨bn4_1, p4_1, s4_1, rfl, hb4_1, hg4_1, hm⟩
      refine gSw hb4_1 (gX rfl (gE (gS (gct rfl (gSk (gJ hm (fun s4_2 => [(2, (pV b0_1)), (4, (pV b0_2)), (5, v0_1), (8, (sV b1_5 o1_4 r0_2.length c1_8)), (9, (pV b0_3)), (10, (.slice p0_2 ys0_1.length c0_2)), (11, (nV i1_2)), (13, (pV b1_4)), (18, v2_2), (45, (sV b1_2 o1_2 order.length c0_1)), (46, (nV ((order.length : Int)))), (47, (nV i1_2)), (77, (sV b2_2 o2_2 x1_4.length c1_9)), (78, (nV ((x1_4.length : Int)))), (79, (nV i2_2)), (85, (pV b2_3))]) (fun s4_2 => [blk b0_1 [(nV c_.params), (nV c_.regs), (sV b1_3 o1_3 c_.blocks.length c1_3)] 45, blk b0_2 [(nV 0), (nV 0), (.slice none 0 0)] 45, owm v0_1 xs0_1, blk b0_3 [(nV c_.params), (nV c_.regs), (.slice p1_2 xs1_2.1.length c1_5)] 45, ow [(.slice p1_2 xs1_2.1.length c1_5)] xs1_2.1, ow [(.slice p0_2 ys0_1.length c0_2)] xs2_2, blk b1_4 [(.slice p1_3 r1_1.phis.length c1_6), (.slice p1_4 r1_1.ins.length c1_7), (nV r1_1.jump), (nV r1_1.on), (.slice p1_1 r1_1.next_.length c1_4)] 61, ow [(.slice p1_3 r1_1.phis.length c1_6)] r1_1.phis, ow [(.slice p1_4 r1_1.ins.length c1_7)] r1_1.ins, ow [(.slice p1_1 r1_1.next_.length c1_4)] xs1_3, owm v2_2 s4_2, itc hz0_2 v2_1 b2_3 (Array.push sn4_1 bn4_1)]) (fun s4_2 => ?_) ?_))))))
      ·
       refine gBk (gS (gR (gY (yG rfl (y_entryS 11 hm rfl hg4_1 rfl rfl)) (gX rfl (gX rfl (gA rfl (gA rfl (gE (gS (gR (gM rfl (gM rfl (gY (yG rfl (y_lookI2 (key := p4_1.1) (m := (xs0_1 : MapS Int)) underlying3 underlying69 zeroValue3 (hm.owm_rep 2 rfl) rfl rfl rfl)) (gM rfl (gX rfl (gX rfl (gA rfl (gA rfl (gE (gS (gR (gM rfl (gE (gJ hm (fun s5_1 => [(2, (pV b0_1)), (4, (pV b0_2)), (5, v0_1), (8, (sV b1_5 o1_4 r0_2.length c1_8)), (9, (pV b0_3)), (10, (.slice p0_2 ys0_1.length c0_2)), (11, (nV i1_2)), (13, (pV b1_4)), (18, v2_2), (45, (sV b1_2 o1_2 order.length c0_1)), (46, (nV ((order.length : Int)))), (47, (nV i1_2)), (77, (sV b2_2 o2_2 x1_4.length c1_9)), (78, (nV ((x1_4.length : Int)))), (79, (nV i2_2)), (85, (pV b2_3))]) (fun s5_1 => [blk b0_1 [(nV c_.params), (nV c_.regs), (sV b1_3 o1_3 c_.blocks.length c1_3)] 45, blk b0_2 [(nV 0), (nV 0), (.slice none 0 0)] 45, owm v0_1 xs0_1, blk b0_3 [(nV c_.params), (nV c_.regs), (.slice p1_2 xs1_2.1.length c1_5)] 45, ow [(.slice p1_2 xs1_2.1.length c1_5)] xs1_2.1, ow [(.slice p0_2 ys0_1.length c0_2)] xs2_2, blk b1_4 [(.slice p1_3 r1_1.phis.length c1_6), (.slice p1_4 r1_1.ins.length c1_7), (nV r1_1.jump), (nV r1_1.on), (.slice p1_1 r1_1.next_.length c1_4)] 61, ow [(.slice p1_3 r1_1.phis.length c1_6)] r1_1.phis, ow [(.slice p1_4 r1_1.ins.length c1_7)] r1_1.ins, ow [(.slice p1_1 r1_1.next_.length c1_4)] xs1_3, owm v2_2 s5_1, itc hz0_2 v2_1 b2_3 (Array.push sn4_1 bn4_1)]) (fun s5_1 => ?_) ?_))))))))))))))))))))))))
       ·
        refine gs 97 rfl (fun h6_1 => ?_) fun h6_1 => ?_
        ·
         refine gct rfl (gR (gM rfl (gM rfl (gM rfl (gf0 rfl (fun a hf => e_insM (β := Int) (key := ((MapS.get xs0_1 p4_1.1).getD 0)) (u := p4_1.2) (b := false) 10 underlying3 underlying69 hf hm rfl rfl rfl rfl rfl) ?_)))))
         rintro _ w hm
         exact gE (gz hm [0, 1, 2, 3, 4, 5, 6, 7, 8, 9, 10, 11] rfl)
        exact gcf rfl (gSk (gz hm [0, 1, 2, 3, 4, 5, 6, 7, 8, 9, 10, 11] rfl))
       repeat clear hm
       intro s5_1 w hm
       exact gz hm [0, 1, 2, 3, 4, 5, 6, 7, 8, 9, 10, 11] rfl
      repeat clear hm
      intro s4_2 w hm
      exact gZr hg4_1 hb4_1 fun a hf => ⟨hf.sb rfl, hm.pk [0, 1, 2, 3, 4, 5, 6, 7, 8, 9, 10, 11] rfl rfl⟩
     repeat clear hm
     rintro sn3_1 xs3_1 a w ⟨hf, hm⟩ hno hk
     refine gv hf ?_ hk
     exact gS (gR (gY (yG rfl (y_nextE 11 hm rfl hno rfl rfl)) (gX rfl (gE (gS (gcf rfl (gXt (gHh (gz hm [0, 1, 2, 3, 4, 5, 6, 7, 8, 9, 10] rfl)))))))))
    repeat clear hm
    intro s2_1 w hm
    refine gR (gM rfl (gM rfl (gM rfl (gM rfl (gg fun x2_3 h2_4 hx2_7 => ?_)))))
    obtain ⟨b2_4, o2_3, c2_3, he⟩ := idx_form' (hm.ow_rep 5 rfl) hx2_7
    simp only [Value.slice.injEq, Option.some.injEq] at he; obtain ⟨rfl, _, rfl⟩ := he
    obtain ⟨_, _, hc2_2, hr2_2⟩ := ro_get' (hm.ow_rep 5 rfl) hx2_7
    have h2_5 := hr2_2
    obtain ⟨v2_3, rfl, -⟩ := id h2_5
    replace h2_5 : GT.rep (hp _) [v2_3] x2_3 := h2_5
    replace hc2_2 : CellsAt (hp _) b2_4 (o2_3 + (i1_2).toNat * 1) [v2_3] := hc2_2
    have hL2_3 := rep_slice_len (hm.ow_rep 5 rfl)
    refine gI st_64 h2_4 (idx_lt2 hx2_7 hL2_3) rfl ?_
    obtain ⟨_, hc2_3, hm⟩ := hm.openE 5 rfl hx2_7
    have hr2_3 := hm.ow_rep 0 rfl
    have h2_6 := hr2_3
    obtain ⟨v2_4, rfl, -⟩ := id h2_6
    replace h2_6 : GT.rep (hp _) [v2_4] x2_3 := h2_6
    clear hc2_3 h2_6
    replace hm : Mem w0 hz0_2 _ [ow [v2_4] (x2_3 : List (MapS Int)), blk b0_1 [(nV c_.params), (nV c_.regs), (sV b1_3 o1_3 c_.blocks.length c1_3)] 45, blk b0_2 [(nV 0), (nV 0), (.slice none 0 0)] 45, owm v0_1 xs0_1, blk b0_3 [(nV c_.params), (nV c_.regs), (.slice p1_2 xs1_2.1.length c1_5)] 45, ow [(.slice p1_2 xs1_2.1.length c1_5)] xs1_2.1, holeE b2_4 o2_3 ys0_1.length c0_2 (xs2_2 : List (List (MapS Int))) (i1_2).toNat [v2_4], blk b1_4 [(.slice p1_3 r1_1.phis.length c1_6), (.slice p1_4 r1_1.ins.length c1_7), (nV r1_1.jump), (nV r1_1.on), (.slice p1_1 r1_1.next_.length c1_4)] 61, ow [(.slice p1_3 r1_1.phis.length c1_6)] r1_1.phis, ow [(.slice p1_4 r1_1.ins.length c1_7)] r1_1.ins, ow [(.slice p1_1 r1_1.next_.length c1_4)] xs1_3, owm v2_2 s2_1] := hm
    replace hm := hm.pk (L' := [ow [v2_4] x2_3, blk b0_1 [(nV c_.params), (nV c_.regs), (sV b1_3 o1_3 c_.blocks.length c1_3)] 45, blk b0_2 [(nV 0), (nV 0), (.slice none 0 0)] 45, owm v0_1 xs0_1, blk b0_3 [(nV c_.params), (nV c_.regs), (.slice p1_2 xs1_2.1.length c1_5)] 45, ow [(.slice p1_2 xs1_2.1.length c1_5)] xs1_2.1, holeE b2_4 o2_3 ys0_1.length c0_2 (xs2_2 : List (List (MapS Int))) (i1_2).toNat [v2_4], blk b1_4 [(.slice p1_3 r1_1.phis.length c1_6), (.slice p1_4 r1_1.ins.length c1_7), (nV r1_1.jump), (nV r1_1.on), (.slice p1_1 r1_1.next_.length c1_4)] 61, ow [(.slice p1_3 r1_1.phis.length c1_6)] r1_1.phis, ow [(.slice p1_4 r1_1.ins.length c1_7)] r1_1.ins, ow [(.slice p1_1 r1_1.next_.length c1_4)] xs1_3, owm v2_2 s2_1]) [0, 1, 2, 3, 4, 5, 6, 7, 8, 9, 10, 11] rfl rfl
    refine gY (yl isAgg68 ((hm.holeE_at 6 rfl).cell (j := 0) rfl) rfl) (gM rfl ?_)
    obtain ⟨m2_1, he⟩ := owm_form hm 11 rfl
    subst he
    refine gf rfl (fun a hf => e_build (vs := #[(0, (.map (some m2_1)))]) (cs := [(.map (some m2_1))]) et_68 hf hm rfl rfl (by kernel_rfl) rfl rfl) ?_
    rintro _ w ⟨b2_5, rfl, hm⟩
    replace hm := hm.els_nil (α := MapS Int)
    have hcl2_1 := owm_cells hm 13 rfl
    replace hm := hm.imp (c' := ow [(.map (some m2_1))] (s2_1 : MapS Int)) 13 rfl (fun F h0 => own_owm h0)
    replace hm := hm.imp (c' := ow [(.map (some m2_1))] (s2_1 : MapS Int)) 13 rfl (fun F h0 => h0)
    replace hm := (hm.els_cons 0 13 (by decide) rfl rfl).pk (L' := [els [(.map (some m2_1))] ([s2_1] : List (MapS Int)), blk b2_5 [(.map (some m2_1))] 69, ow [v2_4] x2_3, blk b0_1 [(nV c_.params), (nV c_.regs), (sV b1_3 o1_3 c_.blocks.length c1_3)] 45, blk b0_2 [(nV 0), (nV 0), (.slice none 0 0)] 45, owm v0_1 xs0_1, blk b0_3 [(nV c_.params), (nV c_.regs), (.slice p1_2 xs1_2.1.length c1_5)] 45, ow [(.slice p1_2 xs1_2.1.length c1_5)] xs1_2.1, holeE b2_4 o2_3 ys0_1.length c0_2 (xs2_2 : List (List (MapS Int))) (i1_2).toNat [v2_4], blk b1_4 [(.slice p1_3 r1_1.phis.length c1_6), (.slice p1_4 r1_1.ins.length c1_7), (nV r1_1.jump), (nV r1_1.on), (.slice p1_1 r1_1.next_.length c1_4)] 61, ow [(.slice p1_3 r1_1.phis.length c1_6)] r1_1.phis, ow [(.slice p1_4 r1_1.ins.length c1_7)] r1_1.ins, ow [(.slice p1_1 r1_1.next_.length c1_4)] xs1_3]) [0, 1, 2, 3, 4, 5, 6, 7, 8, 9, 10, 11, 12] rfl rfl
    replace hm := (hm.lit_els 1 0 (by decide) rfl rfl rfl rfl).pk (L' := [ow [(sV b2_5 0 1 1)] ([s2_1] : List (MapS Int)), ow [v2_4] x2_3, blk b0_1 [(nV c_.params), (nV c_.regs), (sV b1_3 o1_3 c_.blocks.length c1_3)] 45, blk b0_2 [(nV 0), (nV 0), (.slice none 0 0)] 45, owm v0_1 xs0_1, blk b0_3 [(nV c_.params), (nV c_.regs), (.slice p1_2 xs1_2.1.length c1_5)] 45, ow [(.slice p1_2 xs1_2.1.length c1_5)] xs1_2.1, holeE b2_4 o2_3 ys0_1.length c0_2 (xs2_2 : List (List (MapS Int))) (i1_2).toNat [v2_4], blk b1_4 [(.slice p1_3 r1_1.phis.length c1_6), (.slice p1_4 r1_1.ins.length c1_7), (nV r1_1.jump), (nV r1_1.on), (.slice p1_1 r1_1.next_.length c1_4)] 61, ow [(.slice p1_3 r1_1.phis.length c1_6)] r1_1.phis, ow [(.slice p1_4 r1_1.ins.length c1_7)] r1_1.ins, ow [(.slice p1_1 r1_1.next_.length c1_4)] xs1_3]) [1, 2, 3, 4, 5, 6, 7, 8, 9, 10, 11, 12] rfl rfl
    refine gb fun ys2_1 hx2_8 => ?_
    obtain ⟨h2_7, h2_7e⟩ := appM_some.1 hx2_8
    replace hm := (hm.both 1 0 (by decide) rfl rfl).pk (L' := [both (ow [v2_4] x2_3) (ow [(sV b2_5 0 1 1)] ([s2_1] : List (MapS Int))), blk b0_1 [(nV c_.params), (nV c_.regs), (sV b1_3 o1_3 c_.blocks.length c1_3)] 45, blk b0_2 [(nV 0), (nV 0), (.slice none 0 0)] 45, owm v0_1 xs0_1, blk b0_3 [(nV c_.params), (nV c_.regs), (.slice p1_2 xs1_2.1.length c1_5)] 45, ow [(.slice p1_2 xs1_2.1.length c1_5)] xs1_2.1, holeE b2_4 o2_3 ys0_1.length c0_2 (xs2_2 : List (List (MapS Int))) (i1_2).toNat [v2_4], blk b1_4 [(.slice p1_3 r1_1.phis.length c1_6), (.slice p1_4 r1_1.ins.length c1_7), (nV r1_1.jump), (nV r1_1.on), (.slice p1_1 r1_1.next_.length c1_4)] 61, ow [(.slice p1_3 r1_1.phis.length c1_6)] r1_1.phis, ow [(.slice p1_4 r1_1.ins.length c1_7)] r1_1.ins, ow [(.slice p1_1 r1_1.next_.length c1_4)] xs1_3]) [1, 2, 3, 4, 5, 6, 7, 8, 9, 10, 11] rfl rfl
    refine gf rfl (fun a hf => e_appendD (xs := x2_3) (ys := ([s2_1] : List (MapS Int))) 0 et_68 hf hm rfl rfl rfl rfl h2_7) ?_
    rintro v2_5 w hm
    rw [h2_7e] at hm
    have hL2_4 := hm.holeE_len 6 rfl
    refine gI st_64 h2_4 (idx_lt2 hx2_7 hL2_4) rfl ?_
    have h12_1 : ∀ u ∈ ([v2_5] : List Value), u.oneCell' = true := (one_cons (rep_one (hm.ow_rep 0 rfl)) one_nil)
    refine gf0 rfl (fun a hf => e_storeH (j := 0) (vs := [v2_5]) 6 hf hm rfl rfl rfl sizeOf68 rfl rfl (cells_one (h12_1 _ (List.mem_singleton.2 rfl))) h12_1 rfl) ?_
    rintro _ w hm
    replace hm : Mem w0 hz0_2 _ [ow [v2_5] ys2_1, blk b0_1 [(nV c_.params), (nV c_.regs), (sV b1_3 o1_3 c_.blocks.length c1_3)] 45, blk b0_2 [(nV 0), (nV 0), (.slice none 0 0)] 45, owm v0_1 xs0_1, blk b0_3 [(nV c_.params), (nV c_.regs), (.slice p1_2 xs1_2.1.length c1_5)] 45, ow [(.slice p1_2 xs1_2.1.length c1_5)] xs1_2.1, holeE b2_4 o2_3 ys0_1.length c0_2 (xs2_2 : List (List (MapS Int))) (i1_2).toNat [v2_5], blk b1_4 [(.slice p1_3 r1_1.phis.length c1_6), (.slice p1_4 r1_1.ins.length c1_7), (nV r1_1.jump), (nV r1_1.on), (.slice p1_1 r1_1.next_.length c1_4)] 61, ow [(.slice p1_3 r1_1.phis.length c1_6)] r1_1.phis, ow [(.slice p1_4 r1_1.ins.length c1_7)] r1_1.ins, ow [(.slice p1_1 r1_1.next_.length c1_4)] xs1_3] := hm
    refine gE ?_
    replace hm := hm.imp (c' := ow [v2_5] (ys2_1 : List (MapS Int))) 0 rfl (fun F h0 => h0)
    replace hm := (hm.shutE (y := (ys2_1 : List (MapS Int))) 6 0 (by decide) rfl rfl).pk (L' := [blk b0_1 [(nV c_.params), (nV c_.regs), (sV b1_3 o1_3 c_.blocks.length c1_3)] 45, blk b0_2 [(nV 0), (nV 0), (.slice none 0 0)] 45, owm v0_1 xs0_1, blk b0_3 [(nV c_.params), (nV c_.regs), (.slice p1_2 xs1_2.1.length c1_5)] 45, ow [(.slice p1_2 xs1_2.1.length c1_5)] xs1_2.1, ow [(sV b2_4 o2_3 ys0_1.length c0_2)] (xs2_2.set (i1_2).toNat ys2_1), blk b1_4 [(.slice p1_3 r1_1.phis.length c1_6), (.slice p1_4 r1_1.ins.length c1_7), (nV r1_1.jump), (nV r1_1.on), (.slice p1_1 r1_1.next_.length c1_4)] 61, ow [(.slice p1_3 r1_1.phis.length c1_6)] r1_1.phis, ow [(.slice p1_4 r1_1.ins.length c1_7)] r1_1.ins, ow [(.slice p1_1 r1_1.next_.length c1_4)] xs1_3]) [1, 2, 3, 4, 5, 6, 7, 8, 9, 10] rfl rfl
    have hx2_9 := List.getElem?_set_self (a := (ys2_1 : List (MapS Int))) (idx_lt hx2_7)
    exact gR (gP (by omega) (by omega) rfl (gM rfl (gE (gze hm [0, 1, 2, 3, 4, 5, 6, 7, 8, 9] rfl))))
   repeat clear hm
   intro i1_4 xs1_4 w hm hi1_7 hi1_8
   refine gS (gR (gB rfl (gE (gS (go _ 80 rfl (decide_eq_false (by omega)) (gcf rfl (gXt (gHh (gR (gF fo_45_2 rfl (gL hm 3 isAgg43 rfl (gY (yn (hm.blk_at 6 rfl) isAgg61 sizeOf61 rfl) (gf rfl (fun a hf => e_build (vs := #[(0, (.agg #[(.slice p1_3 r1_1.phis.length c1_6), (.slice p1_4 r1_1.ins.length c1_7), (nV r1_1.jump), (nV r1_1.on), (.slice p1_1 r1_1.next_.length c1_4)]))]) (cs := [(.slice p1_3 r1_1.phis.length c1_6), (.slice p1_4 r1_1.ins.length c1_7), (nV r1_1.jump), (nV r1_1.on), (.slice p1_1 r1_1.next_.length c1_4)]) et_43 hf hm rfl rfl (by kernel_rfl) rfl rfl) ?_)))))))))))))
   rintro _ w ⟨b1_6, rfl, hm⟩
   replace hm := hm.els_nil (α := Block_)
   replace hm := (mk_Block_ r1_1.jump r1_1.on hm 9 10 11 rfl).pk (L' := [els [] ([] : List Block_), blk b1_6 [(.slice p1_3 r1_1.phis.length c1_6), (.slice p1_4 r1_1.ins.length c1_7), (nV r1_1.jump), (nV r1_1.on), (.slice p1_1 r1_1.next_.length c1_4)] 61, blk b0_1 [(nV c_.params), (nV c_.regs), (sV b1_3 o1_3 c_.blocks.length c1_3)] 45, blk b0_2 [(nV 0), (nV 0), (.slice none 0 0)] 45, owm v0_1 xs0_1, blk b0_3 [(nV c_.params), (nV c_.regs), (.slice p1_2 xs1_2.1.length c1_5)] 45, ow [(.slice p1_2 xs1_2.1.length c1_5)] xs1_2.1, ow [(.slice p0_2 ys0_1.length c0_2)] xs1_4, blk b1_4 [(.slice p1_3 r1_1.phis.length c1_6), (.slice p1_4 r1_1.ins.length c1_7), (nV r1_1.jump), (nV r1_1.on), (.slice p1_1 r1_1.next_.length c1_4)] 61, ow [(.slice p1_3 r1_1.phis.length c1_6), (.slice p1_4 r1_1.ins.length c1_7), (nV r1_1.jump), (nV r1_1.on), (.slice p1_1 r1_1.next_.length c1_4)] ((⟨r1_1.phis, r1_1.ins, r1_1.jump, r1_1.on, xs1_3⟩ : Block_) : Block_)]) [0, 1, 2, 3, 4, 5, 6, 7, 8, 9] rfl rfl
   replace hm := (hm.els_cons 0 9 (by decide) rfl rfl).pk (L' := [els [(.slice p1_3 r1_1.phis.length c1_6), (.slice p1_4 r1_1.ins.length c1_7), (nV r1_1.jump), (nV r1_1.on), (.slice p1_1 r1_1.next_.length c1_4)] ([(⟨r1_1.phis, r1_1.ins, r1_1.jump, r1_1.on, xs1_3⟩ : Block_)] : List Block_), blk b1_6 [(.slice p1_3 r1_1.phis.length c1_6), (.slice p1_4 r1_1.ins.length c1_7), (nV r1_1.jump), (nV r1_1.on), (.slice p1_1 r1_1.next_.length c1_4)] 61, blk b0_1 [(nV c_.params), (nV c_.regs), (sV b1_3 o1_3 c_.blocks.length c1_3)] 45, blk b0_2 [(nV 0), (nV 0), (.slice none 0 0)] 45, owm v0_1 xs0_1, blk b0_3 [(nV c_.params), (nV c_.regs), (.slice p1_2 xs1_2.1.length c1_5)] 45, ow [(.slice p1_2 xs1_2.1.length c1_5)] xs1_2.1, ow [(.slice p0_2 ys0_1.length c0_2)] xs1_4, blk b1_4 [(.slice p1_3 r1_1.phis.length c1_6), (.slice p1_4 r1_1.ins.length c1_7), (nV r1_1.jump), (nV r1_1.on), (.slice p1_1 r1_1.next_.length c1_4)] 61]) [0, 1, 2, 3, 4, 5, 6, 7, 8] rfl rfl
   replace hm := (hm.lit_els 1 0 (by decide) rfl rfl rfl rfl).pk (L' := [ow [(sV b1_6 0 1 1)] ([(⟨r1_1.phis, r1_1.ins, r1_1.jump, r1_1.on, xs1_3⟩ : Block_)] : List Block_), blk b0_1 [(nV c_.params), (nV c_.regs), (sV b1_3 o1_3 c_.blocks.length c1_3)] 45, blk b0_2 [(nV 0), (nV 0), (.slice none 0 0)] 45, owm v0_1 xs0_1, blk b0_3 [(nV c_.params), (nV c_.regs), (.slice p1_2 xs1_2.1.length c1_5)] 45, ow [(.slice p1_2 xs1_2.1.length c1_5)] xs1_2.1, ow [(.slice p0_2 ys0_1.length c0_2)] xs1_4, blk b1_4 [(.slice p1_3 r1_1.phis.length c1_6), (.slice p1_4 r1_1.ins.length c1_7), (nV r1_1.jump), (nV r1_1.on), (.slice p1_1 r1_1.next_.length c1_4)] 61]) [1, 2, 3, 4, 5, 6, 7, 8] rfl rfl
   refine gb fun ys1_1 hx1_10 => ?_
   obtain ⟨h1_9, h1_9e⟩ := appM_some.1 hx1_10
   replace hm := (hm.both 5 0 (by decide) rfl rfl).pk (L' := [blk b0_1 [(nV c_.params), (nV c_.regs), (sV b1_3 o1_3 c_.blocks.length c1_3)] 45, blk b0_2 [(nV 0), (nV 0), (.slice none 0 0)] 45, owm v0_1 xs0_1, blk b0_3 [(nV c_.params), (nV c_.regs), (.slice p1_2 xs1_2.1.length c1_5)] 45, both (ow [(.slice p1_2 xs1_2.1.length c1_5)] xs1_2.1) (ow [(sV b1_6 0 1 1)] ([(⟨r1_1.phis, r1_1.ins, r1_1.jump, r1_1.on, xs1_3⟩ : Block_)] : List Block_)), ow [(.slice p0_2 ys0_1.length c0_2)] xs1_4, blk b1_4 [(.slice p1_3 r1_1.phis.length c1_6), (.slice p1_4 r1_1.ins.length c1_7), (nV r1_1.jump), (nV r1_1.on), (.slice p1_1 r1_1.next_.length c1_4)] 61]) [1, 2, 3, 4, 5, 6, 7] rfl rfl
   refine gf rfl (fun a hf => e_appendD (xs := xs1_2.1) (ys := ([(⟨r1_1.phis, r1_1.ins, r1_1.jump, r1_1.on, xs1_3⟩ : Block_)] : List Block_)) 4 et_43 hf hm rfl rfl rfl rfl h1_9) ?_
   rintro v1_10 w hm
   rw [h1_9e] at hm
   exact gF fo_45_2 rfl (gS1 hm 3 sizeOf43 (rep_one (hm.ow_rep 4 rfl)) rfl fun w hm => gE (gR (gP (by omega) (by omega) rfl (gM rfl (gE (gZe fun a hf => ⟨v1_10, hf.sb rfl, hm.pk [0, 1, 2, 3, 4, 5] rfl rfl⟩))))))
  repeat clear hm
  rintro i0_2 xs0_2 a w ⟨v0_5, hf, hm⟩ hi0_7 hi0_8
  refine gv hf (gS (gR (gB rfl (gE (gS (go _ 48 rfl (decide_eq_false (by omega)) (gcf rfl (gXt (gHh (gS (gR (gM rfl ?_))))))))))))
  obtain ⟨hz0_3, hle, hm1, hsub, hk0_1⟩ := hm.take2 (L1 := [blk b0_3 [(nV c_.params), (nV c_.regs), v0_5] 45, ow [v0_5] xs0_2.1]) (L2 := [blk b0_1 [(nV c_.params), (nV c_.regs), v1] 45, blk b0_2 [(nV 0), (nV 0), (.slice none 0 0)] 45, owm v0_1 xs0_1, ow [(.slice p0_2 ys0_1.length c0_2)] xs0_2.2]) [3, 4] [0, 1, 2, 5] (by decide) rfl rfl
  refine gCg rfl call58 (impl_settle_ok _ hz0_3 (⟨c_.params, c_.regs, xs0_2.1⟩ : Code_) b0_3 v0_5 xs0_2.2 (.slice p0_2 ys0_1.length c0_2) (fz_ow (hsub 3 _ rfl)) hm1 ) ?_
  rintro r0_4 hx0_3 v0_6 w ⟨v0_7, rfl, hB⟩
  replace hm := hk0_1 _ _ hB; clear hB
  refine gE (gS (gR (gY (yn (hm.blk_at 0 rfl) isAgg45 sizeOf45 rfl) (gSN hm 3 sizeOf45 (one_cons rfl (one_cons rfl (one_cons (rep_one (hm.ow_rep 1 rfl)) one_nil))) rfl fun w hm => gE (gRt ?_)))))
  replace hm := hm.thaw hle0_2
  exact grc 3 results41 hm rfl isAgg45 sizeOf45 ⟨v0_7, rfl, hm.pk [1] rfl rfl⟩

theorem spec_DropUnreached_ok (w0 : World) (u : Unit_) (v1 : Value) (h1 : GT.rep (hp w0) [v1] u.codes) :
    ConM Tryz.prog 19 [(.agg #[v1])] w0 (spec_DropUnreached u) fun r v w' => ∃ (x1 : Value), v = (.tuple #[(.agg #[x1]), (.bool (r.2))]) ∧ Mem w0 (hp w0) w' [ow [x1] r.1.codes] := by
  unfold spec_DropUnreached
  refine gcon func19 rfl fun r => ?_
  have hm := Mem.start w0
  refine gS (gR (gBx hm rfl fun b0_1 w hm => gAl hm zeroValue28 rfl fun b0_2 w hm => gA rfl (gE (gS (gR (gY (yn (hm.blk_at 1 rfl) isAgg28 sizeOf28 rfl) (gCg rfl call30 (spec_l10Each_ok _ u v1 (hm.now h1) (mkS [114, 101, 97, 99, 104])) ?_)))))))
  rintro r0_1 hx0_1 v0_1 w ⟨v0_2, rfl, hB⟩
  replace hm := hm.give hB; clear hB
  exact gX rfl (gX rfl (gSN hm 1 sizeOf28 (one_cons (rep_one (hm.ow_rep 0 rfl)) one_nil) rfl fun w hm => gA rfl (gE (gRt (grct 1 results19 hm rfl isAgg28 sizeOf28 ⟨v0_2, rfl, hm.pk [0] rfl rfl⟩)))))

theorem impl_once_ok (w0 : World) (list : List Int) (v1 : Value) (h1 : GT.rep (hp w0) [v1] list) :
    ConM Tryz.prog 67 [v1] w0 (impl_once list) fun r v w' => ∃ (x1 : Value), v = x1 ∧ Mem w0 (hp w0) w' [ow [x1] r] := by
  unfold impl_once
  refine gcon func67 rfl fun r => ?_
  have hm := Mem.start w0
  refine gS (gR (gA rfl (gE (gS (gR (gM rfl (gCg rfl call108 (slices_Clone_S_int_int_ok _ list v1 (hm.now h1)) ?_)))))))
  rintro r0_1 hx0_1 v0_1 w ⟨_, rfl, hB⟩
  replace hm := hm.give hB; clear hB
  refine gA rfl (gE (gS (gR (gM rfl (gf rfl (fun a hf => e_call hf rfl call114 rfl (sort_con lays189 hm 0 rfl)) ?_)))))
  rintro _ w ⟨rfl, hm⟩
  refine gE (gS (gR (gM rfl (gf rfl (fun a hf => e_call hf rfl call115 rfl (compact_con lays2_20 hm 0 rfl)) ?_))))
  rintro v0_3 w hm
  exact gA rfl (gE (gRt (gr1 results67 rfl ⟨v0_3, rfl, hm.pk [0] rfl rfl⟩)))

theorem impl_ReachedIn_ok (w0 : World) (c_ : Code_) (v1 : Value) (h1 : GT.rep (hp w0) [v1] c_.blocks) :
    ConM Tryz.prog 59 [(.agg #[(nV c_.params), (nV c_.regs), v1])] w0 (impl_ReachedIn c_) fun r v w' => ∃ (x1 : Value), v = x1 ∧ Mem w0 (hp w0) w' [ow [x1] r] := by
  unfold impl_ReachedIn
  refine gcon func59 rfl fun r => ?_
  have hm := Mem.start w0
  refine gS (gR (gBx hm rfl fun b0_1 w hm => gA rfl (gE (gS (gS (gR (gY (yn (hm.blk_at 0 rfl) isAgg45 sizeOf45 rfl) (gC hm rfl call61 (impl_graphOk_ok _ c_ v1 (hm.now h1)) fun r0_1 hx0_1 w hm => gN rfl (gE (gsn 5 rfl (fun h0_1 => ?_) fun h0_1 => ?_))))))))))
  ·
   refine gct rfl (gS (gR (gA rfl (gE (gRt ?_)))))
   replace hm := hm.nilow (α := Int)
   exact gr1 results59 rfl ⟨(.slice none 0 0), rfl, hm.pk [0] rfl rfl⟩
  refine gcf rfl (gSk (gS (gR (gY (yn (hm.blk_at 0 rfl) isAgg45 sizeOf45 rfl) (gCg rfl call62 (impl_visits_ok _ c_ v1 (hm.now h1)) ?_)))))
  rintro r0_2 hx0_2 v0_2 w ⟨_, rfl, hB⟩
  replace hm := hm.give hB; clear hB
  refine gCg rfl call67 (impl_once_ok _ r0_2 v0_2 (hm.ow_rep 0 rfl)) ?_
  rintro r0_3 hx0_3 v0_4 w ⟨_, rfl, hB⟩
  replace hm := hm.give hB; clear hB
  exact gA rfl (gE (gRt (gr1 results59 rfl ⟨v0_4, rfl, hm.pk [0] rfl rfl⟩)))

theorem impl_reachedOnly_ok (w0 : World) (c_ : Code_) (v1 : Value) (h1 : GT.rep (hp w0) [v1] c_.blocks) :
    ConM Tryz.prog 39 [(.agg #[(nV c_.params), (nV c_.regs), v1])] w0 (impl_reachedOnly c_) fun r v w' => ∃ (x1 : Value), v = (.agg #[(nV r.params), (nV r.regs), x1]) ∧ Mem w0 (hp w0) w' [ow [x1] r.blocks] := by
  unfold impl_reachedOnly
  refine gcon func39 rfl fun r => ?_
  have hm := Mem.start w0
  refine gS (gR (gBx hm rfl fun b0_1 w hm => gAl hm zeroValue45 rfl fun b0_2 w hm => gE (gS (gW (.q 0 (.e 1 (.e 2 (.e 3 (.e 4 .fin .nil) .nil) .nil) .nil)) [1, 2] [] hm [0, 1] [blk b0_2 [(nV 0), (nV 0), (.slice none 0 0)] 45, blk b0_1 [(nV c_.params), (nV c_.regs), v1] 45] rfl mxo (by kernel_rfl) (fun _ _ _ h => h.2) fun w hm hS => tQ rfl hS (fun w hm => yn (hm.blk_at 1 rfl) isAgg45 sizeOf45 rfl) (tO (tY rfl (yn (hm.blk_at 1 rfl) isAgg45 sizeOf45 rfl) (tAs hS (tO (gb fun r0_1 hx0_1 => tf rfl rfl (fun a hf => e_call hf rfl call59 rfl (impl_ReachedIn_ok _ c_ v1 (hm.now h1) _ hx0_1)) ?_)))))))))
  rintro v0_1 w ⟨_, rfl, hB⟩
  replace hm := hm.give hB; clear hB
  refine tAk hm [1, 2] rfl fun hS => tO (gb fun r0_2 hx0_2 => tf rfl rfl (fun a hf => e_call hf rfl call41 rfl (impl_picked_ok _ c_ v1 (hm.now h1) r0_1 v0_1 (hm.ow_rep 0 rfl) _ hx0_2)) ?_)
  rintro v0_3 w ⟨v0_4, rfl, hB⟩
  replace hm := hm.give hB; clear hB
  refine tAn rfl (tO (tf0 rfl rfl (fun a hf => e_storeN 2 hf hm rfl sizeOf45 rfl rfl rfl (one_cons rfl (one_cons rfl (one_cons (rep_one (hm.ow_rep 0 rfl)) one_nil))) rfl rfl) ?_))
  rintro _ w hm
  exact tAn rfl (tE (gRt (grc 2 results39 hm rfl isAgg45 sizeOf45 ⟨v0_4, rfl, hm.pk [0] rfl rfl⟩)))

theorem impl_DropUnreached_ok (w0 : World) (u : Unit_) (v1 : Value) (h1 : GT.rep (hp w0) [v1] u.codes) :
    ConM Tryz.prog 20 [(.agg #[v1])] w0 (impl_DropUnreached u) fun r v w' => ∃ (x1 : Value), v = (.tuple #[(.agg #[x1]), (.bool (r.2))]) ∧ Mem w0 (hp w0) w' [ow [x1] r.1.codes] := by
  unfold impl_DropUnreached
  refine gcon func20 rfl fun r => ?_
  have hm := Mem.start w0
  refine gS (gR (gBx hm rfl fun b0_1 w hm => gAl hm zeroValue28 rfl fun b0_2 w hm => gA rfl (gE (gS (gR (gY (yn (hm.blk_at 1 rfl) isAgg28 sizeOf28 rfl) (gCg rfl call32 (impl_perCode_ok _ u v1 (hm.now h1) (fun y0 => impl_reachedOnly y0) (.func (.func 39) #[] #[]) (fun w y0 z0_0 z0_1 r hB hq => ⟨39, [], rfl, call39, impl_reachedOnly_ok w y0 z0_0 z0_1  r hq⟩)) ?_)))))))
  rintro r0_1 hx0_1 v0_1 w ⟨v0_2, rfl, hB⟩
  replace hm := hm.give hB; clear hB
  exact gX rfl (gX rfl (gSN hm 1 sizeOf28 (one_cons (rep_one (hm.ow_rep 0 rfl)) one_nil) rfl fun w hm => gA rfl (gE (gRt (grct 1 results20 hm rfl isAgg28 sizeOf28 ⟨v0_2, rfl, hm.pk [0] rfl rfl⟩)))))

theorem laws_FnExactDropUnreached_ok (w0 : World) (aU : Unit_) (v1 : Value) (h1 : GT.rep (hp w0) [v1] aU.codes) :
    ConM Tryz.prog 5 [(.agg #[v1])] w0 (laws_FnExactDropUnreached aU) fun r v w' => v = (.bool (r)) ∧ Below w0.heap.size w0 w' := by
  unfold laws_FnExactDropUnreached
  refine gcon func5 rfl fun r => ?_
  have hm := Mem.start w0
  refine gS (gR (gBx hm rfl fun b0_1 w hm => gA rfl (gE (gS (gR (gA rfl (gE (gS (gR (gY (yn (hm.blk_at 0 rfl) isAgg24 sizeOf24 rfl) (gM rfl (gC hm rfl call10 (laws_szUnit_ok _ aU v1 (hm.now h1) 1048576) fun r0_1 hx0_1 w hm => gA rfl (gE (gS (gS (gR (gM rfl (gB rfl (gE (gsd 18 rfl (fun h0_1 => ?_) fun h0_1 => ?_))))))))))))))))))))
  ·
   exact gct rfl (gS (gR (gA rfl (gE (gRt (gr1 results5 rfl ⟨rfl, hm.below⟩))))))
  refine gcf rfl (gSk (gS (gR (gY (yn (hm.blk_at 0 rfl) isAgg24 sizeOf24 rfl) (gCg rfl call12 (laws_toUnit_ok _ aU v1 (hm.now h1)) ?_)))))
  rintro r0_2 hx0_2 v0_2 w ⟨v0_3, rfl, hB⟩
  replace hm := hm.give hB; clear hB
  refine gCg rfl call19 (spec_DropUnreached_ok _ r0_2 v0_3 (hm.ow_rep 0 rfl)) ?_
  rintro r0_3 hx0_3 v0_4 w ⟨v0_5, rfl, hB⟩
  replace hm := hm.give hB; clear hB
  refine gM rfl (gX rfl (gX rfl (gAl hm zeroValue28 rfl fun b0_2 w hm => gSN hm 0 sizeOf28 (one_cons (rep_one (hm.ow_rep 1 rfl)) one_nil) rfl fun w hm => gA rfl (gE (gS (gR (gY (yn (hm.blk_at 3 rfl) isAgg24 sizeOf24 rfl) (gCg rfl call12 (laws_toUnit_ok _ aU v1 (hm.now h1)) ?_))))))))
  rintro r0_4 hx0_4 v0_6 w ⟨v0_7, rfl, hB⟩
  replace hm := hm.give hB; clear hB
  refine gAl hm zeroValue28 rfl fun b0_3 w hm => gSN hm 0 sizeOf28 (one_cons (rep_one (hm.ow_rep 1 rfl)) one_nil) rfl fun w hm => gE (gS (gR (gY (yn (hm.blk_at 0 rfl) isAgg28 sizeOf28 rfl) (gCg rfl call20 (impl_DropUnreached_ok _ r0_4 v0_7 (hm.ow_rep 1 rfl)) ?_))))
  rintro r0_5 hx0_5 v0_8 w ⟨v0_9, rfl, hB⟩
  replace hm := hm.give hB; clear hB
  refine gM rfl (gX rfl (gX rfl (gAl hm zeroValue28 rfl fun b0_4 w hm => gSN hm 0 sizeOf28 (one_cons (rep_one (hm.ow_rep 1 rfl)) one_nil) rfl fun w hm => gA rfl (gE (gS (gS (gJ hm (fun s0_1 => [(1, (pV b0_1)), (4, (pV b0_2)), (5, (.bool (r0_3.2))), (6, (pV b0_3)), (7, (pV b0_4)), (8, (.bool (r0_5.2))), (40, (.bool (s0_1)))]) (fun s0_1 => [blk b0_1 [v1] 24, blk b0_2 [v0_5] 28, ow [v0_5] r0_3.1.codes, blk b0_3 [v0_7] 28, ow [v0_7] r0_4.codes, blk b0_4 [v0_9] 28, ow [v0_9] r0_5.1.codes]) (fun s0_1 => ?_) ?_)))))))
  ·
   refine gR (gY (yn (hm.blk_at 0 rfl) isAgg28 sizeOf28 rfl) (gY (yn (hm.blk_at 4 rfl) isAgg28 sizeOf28 rfl) (gC hm rfl call14 (laws_eqUnit_ok _ r0_5.1 v0_9 (hm.ow_rep 1 rfl) r0_3.1 v0_5 (hm.ow_rep 5 rfl)) fun r1_1 hx1_1 w hm => gN rfl (gM rfl (gsn 36 rfl (fun h1_1 => ?_) fun h1_1 => ?_)))))
   ·
    exact gO rfl (gO rfl (gO rfl (gKt rfl (gE (gz hm [7, 4, 5, 2, 3, 0, 1] rfl)))))
   exact gM rfl (gM rfl (gY (yG rfl (y_neqb underlying4 rfl rfl rfl)) (gKf rfl (gE (gz hm [7, 4, 5, 2, 3, 0, 1] rfl)))))
  repeat clear hm
  intro s0_1 w hm
  refine gs 40 rfl (fun h0_2 => ?_) fun h0_2 => ?_
  ·
   exact gct rfl (gS (gR (gA rfl (gE (gRt (gr1 results5 rfl ⟨rfl, hm.below⟩))))))
  refine gcf rfl (gSk (gS (gS (gW (.q 0 (.e 1 (.e 2 (.e 3 (.p 4 .fin) .nil) .nil) .nil)) [1, 2] [4] hm [0, 1, 2, 3, 4, 5, 6] [blk b0_1 [v1] 24, blk b0_2 [v0_5] 28, ow [v0_5] r0_3.1.codes, blk b0_3 [v0_7] 28, ow [v0_7] r0_4.codes, blk b0_4 [v0_9] 28, ow [v0_9] r0_5.1.codes] rfl mxo (by kernel_rfl) (fun _ _ _ h => h.2) fun w hm hS => tQ rfl hS (fun w hm => yn (hm.blk_at 3 rfl) isAgg28 sizeOf28 rfl) (tO (tY rfl (yn (hm.blk_at 0 rfl) isAgg24 sizeOf24 rfl) (tAs hS (tO (gb fun r0_6 hx0_6 => tf rfl rfl (fun a hf => e_call hf rfl call12 rfl (laws_toUnit_ok _ aU v1 (hm.now h1) _ hx0_6)) ?_)))))))))
  rintro v0_10 w ⟨v0_11, rfl, hB⟩
  replace hm := hm.give hB; clear hB
  refine tAk hm [1, 2, 3, 4, 5, 6, 7] rfl fun hS => tO (gb fun r0_7 hx0_7 => tf rfl rfl (fun a hf => e_call hf rfl call14 rfl (laws_eqUnit_ok _ r0_4 v0_7 (hm.ow_rep 5 rfl) r0_6 v0_11 (hm.ow_rep 0 rfl) _ hx0_7)) ?_)
  rintro v0_12 w ⟨rfl, hB⟩
  replace hm := hm.below' hB; clear hB
  refine tAn rfl (tP rfl (fun w => yN rfl) (tE (gsn 45 rfl (fun h0_3 => ?_) fun h0_3 => ?_)))
  ·
   exact gct rfl (gS (gR (gA rfl (gE (gRt (gr1 results5 rfl ⟨rfl, hm.below⟩))))))
  refine gcf rfl (gSk (gS (gR (gA rfl (gE (gS (gR (gY (yn (hm.blk_at 4 rfl) isAgg28 sizeOf28 rfl) (gM rfl ?_)))))))))
  obtain ⟨hz0_6, hle, hm1, hsub, hk0_1⟩ := hm.take2 (L1 := [ow [v0_7] r0_4.codes]) (L2 := [ow [v0_11] r0_6.codes, blk b0_1 [v1] 24, blk b0_2 [v0_5] 28, ow [v0_5] r0_3.1.codes, blk b0_3 [v0_7] 28, blk b0_4 [v0_9] 28, ow [v0_9] r0_5.1.codes]) [5] [0, 1, 2, 3, 4, 6, 7] (by decide) rfl rfl
  refine gCg rfl call15 (laws_markUnit_ok _ hz0_6 r0_4 v0_7 1 hm1 ) ?_
  rintro r0_8 hx0_8 v0_13 w ⟨rfl, hB⟩
  replace hm := hk0_1 _ _ hB; clear hB
  refine gA rfl (gE (gS (gS (gJ hm (fun s0_2 => [(1, (pV b0_1)), (4, (pV b0_2)), (5, (.bool (r0_3.2))), (7, (pV b0_4)), (61, (.bool (s0_2)))]) (fun s0_2 => [blk b0_1 [v1] 24, blk b0_2 [v0_5] 28, ow [v0_5] r0_3.1.codes, blk b0_4 [v0_9] 28, ow [v0_9] r0_5.1.codes]) (fun s0_2 => ?_) ?_))))
  ·
   refine gR (gM rfl (gB rfl (gM rfl (gsd 51 rfl (fun h1_2 => ?_) fun h1_2 => ?_))))
   ·
    exact gO rfl (gO rfl (gO rfl (gO rfl (gKt rfl (gM rfl (gO rfl (gO rfl (gO rfl (gKt rfl (gE (gz hm [2, 3, 4, 6, 7] rfl)))))))))))
   refine gY (yn (hm.blk_at 6 rfl) isAgg28 sizeOf28 rfl) (gY (yn (hm.blk_at 3 rfl) isAgg28 sizeOf28 rfl) (gC hm rfl call14 (laws_eqUnit_ok _ r0_5.1 v0_9 (hm.ow_rep 7 rfl) r0_3.1 v0_5 (hm.ow_rep 4 rfl)) fun r1_2 hx1_2 w hm => gN rfl (gKf rfl (gM rfl (gsn 57 rfl (fun h1_3 => ?_) fun h1_3 => ?_)))))
   ·
    exact gO rfl (gO rfl (gO rfl (gKt rfl (gE (gz hm [2, 3, 4, 6, 7] rfl)))))
   exact gM rfl (gM rfl (gY (yG rfl (y_neqb underlying4 rfl rfl rfl)) (gKf rfl (gE (gz hm [2, 3, 4, 6, 7] rfl)))))
  repeat clear hm
  intro s0_2 w hm
  refine gs 61 rfl (fun h0_4 => ?_) fun h0_4 => ?_
  ·
   exact gct rfl (gS (gR (gA rfl (gE (gRt (gr1 results5 rfl ⟨rfl, hm.below⟩))))))
  refine gcf rfl (gSk (gS (gR (gA rfl (gE (gS (gR (gY (yn (hm.blk_at 3 rfl) isAgg28 sizeOf28 rfl) (gM rfl ?_)))))))))
  obtain ⟨hz0_8, hle, hm1, hsub, hk0_2⟩ := hm.take2 (L1 := [ow [v0_9] r0_5.1.codes]) (L2 := [blk b0_1 [v1] 24, blk b0_2 [v0_5] 28, ow [v0_5] r0_3.1.codes, blk b0_4 [v0_9] 28]) [4] [0, 1, 2, 3] (by decide) rfl rfl
  refine gCg rfl call15 (laws_markUnit_ok _ hz0_8 r0_5.1 v0_9 1 hm1 ) ?_
  rintro r0_9 hx0_9 v0_14 w ⟨rfl, hB⟩
  replace hm := hk0_2 _ _ hB; clear hB
  refine gA rfl (gE (gS (gR (gA rfl (gE (gS (gR (gY (yn (hm.blk_at 4 rfl) isAgg28 sizeOf28 rfl) (gM rfl (gC hm rfl call16 (laws_heldUnit_ok _ (⟨r0_9.2⟩ : Unit_) v0_9 (hm.ow_rep 0 rfl) 1) fun r0_10 hx0_10 w hm => gA rfl (gE (gS (gS (gR (gM rfl (gB rfl (gE (gsd 69 rfl (fun h0_5 => ?_) fun h0_5 => ?_))))))))))))))))))
  ·
   exact gct rfl (gS (gR (gA rfl (gE (gRt (gr1 results5 rfl ⟨rfl, hm.below⟩))))))
  refine gcf rfl (gSk (gS (gS (gR (gM rfl (gM rfl (gB rfl (gE (gsd 72 rfl (fun h0_6 => ?_) fun h0_6 => ?_)))))))))
  ·
   exact gct rfl (gS (gR (gA rfl (gE (gRt (gr1 results5 rfl ⟨rfl, hm.below⟩))))))
  refine gcf rfl (gSk (gS (gR (gY (yn (hm.blk_at 1 rfl) isAgg24 sizeOf24 rfl) (gCg rfl call12 (laws_toUnit_ok _ aU v1 (hm.now h1)) ?_)))))
  rintro r0_11 hx0_11 v0_16 w ⟨v0_17, rfl, hB⟩
  replace hm := hm.give hB; clear hB
  refine gCg rfl call20 (impl_DropUnreached_ok _ r0_11 v0_17 (hm.ow_rep 0 rfl)) ?_
  rintro r0_12 hx0_12 v0_18 w ⟨v0_19, rfl, hB⟩
  replace hm := hm.give hB; clear hB
  refine gM rfl (gX rfl (gX rfl (gAl hm zeroValue28 rfl fun b0_5 w hm => gSN hm 0 sizeOf28 (one_cons (rep_one (hm.ow_rep 1 rfl)) one_nil) rfl fun w hm => gA rfl (gE (gS (gS (gJ hm (fun s0_3 => [(7, (pV b0_4)), (10, (nV r0_9.1)), (87, (.bool (s0_3)))]) (fun s0_3 => [blk b0_4 [v0_9] 28, ow [v0_9] r0_9.2]) (fun s0_3 => ?_) ?_)))))))
  ·
   refine gR (gY (yn (hm.blk_at 0 rfl) isAgg28 sizeOf28 rfl) (gY (yn (hm.blk_at 5 rfl) isAgg28 sizeOf28 rfl) (gC hm rfl call14 (laws_eqUnit_ok _ r0_12.1 v0_19 (hm.ow_rep 1 rfl) r0_3.1 v0_5 (hm.ow_rep 6 rfl)) fun r1_3 hx1_3 w hm => gN rfl (gM rfl (gsn 83 rfl (fun h1_4 => ?_) fun h1_4 => ?_)))))
   ·
    exact gO rfl (gO rfl (gO rfl (gKt rfl (gE (gz hm [7, 3] rfl)))))
   exact gM rfl (gM rfl (gY (yG rfl (y_neqb underlying4 rfl rfl rfl)) (gKf rfl (gE (gz hm [7, 3] rfl)))))
  repeat clear hm
  intro s0_3 w hm
  refine gs 87 rfl (fun h0_7 => ?_) fun h0_7 => ?_
  ·
   exact gct rfl (gS (gR (gA rfl (gE (gRt (gr1 results5 rfl ⟨rfl, hm.below⟩))))))
  refine gcf rfl (gSk (gS (gR (gA rfl (gE (gS (gR (gY (yn (hm.blk_at 0 rfl) isAgg28 sizeOf28 rfl) (gM rfl (gC hm rfl call16 (laws_heldUnit_ok _ (⟨r0_9.2⟩ : Unit_) v0_9 (hm.ow_rep 1 rfl) 1) fun r0_13 hx0_13 w hm => gA rfl (gE (gS (gS (gR (gM rfl (gB rfl (gE (gsd 92 rfl (fun h0_8 => ?_) fun h0_8 => ?_))))))))))))))))))
  ·
   exact gct rfl (gS (gR (gA rfl (gE (gRt (gr1 results5 rfl ⟨rfl, hm.below⟩))))))
  refine gcf rfl (gSk (gS (gS (gR (gM rfl (gM rfl (gB rfl (gE (gsd 95 rfl (fun h0_9 => ?_) fun h0_9 => ?_)))))))))
  ·
   exact gct rfl (gS (gR (gA rfl (gE (gRt (gr1 results5 rfl ⟨rfl, hm.below⟩))))))
  exact gcf rfl (gSk (gS (gR (gA rfl (gE (gRt (gr1 results5 rfl ⟨rfl, hm.below⟩)))))))

end Go.Proofs.YtjkdjdicpfjifaaGreat
