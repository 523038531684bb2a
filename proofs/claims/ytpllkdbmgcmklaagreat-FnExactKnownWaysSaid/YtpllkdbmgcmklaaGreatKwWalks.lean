/- A part of the proof of FnExactKnownWaysSaid. -/
import Derived.Test.YtpllkdbmgcmklaaGreatKwWalksB
namespace Go.Proofs.YtpllkdbmgcmklaaGreat
open Go Go.Wk Go.RowKit
set_option maxRecDepth 4000
set_option maxHeartbeats 4000000

open Tryz
theorem laws_markIntS_ok (w0 : World) (hz : Heap) (a_ : List Int) (v1 : Value) (k_ : Int) (hm0 : Mem w0 hz w0 [ow [v1] a_]) :
    ConM Tryz.prog 29 [v1, (nV k_)] w0 (laws_markIntS a_ k_) fun r v w' => v = (nV r.1) ∧ Mem w0 hz w' [ow [v1] r.2] := by
  unfold laws_markIntS
  refine gcon func29 rfl fun r => ?_
  have hm := hm0
  refine gS (gR (gA rfl (gE (gS (gS (gR (gA rfl (gE ?_))))))))
  obtain ⟨p0_1, c0_1, rfl, hl0_1⟩ := ro_slice (hm.ow_rep 0 rfl)
  refine gBk (gNf hm (fun i1_1 xs1_1 => [(0, (.slice p0_1 a_.length c0_1)), (1, (nV xs1_1.2)), (5, (nV i1_1))]) (fun i1_1 xs1_1 => [ow [(.slice p0_1 a_.length c0_1)] xs1_1.1]) [0] rfl ?_ ?_)
  ·
   repeat clear hm
   intro _ _ i1_1 xs1_1 w hm hi0_1 hi0_2 q0_1 _
   refine gS (gS (gR (gM rfl (gM rfl ?_))))
   have hl1_1 := rep_len (hm.ow_rep 0 rfl)
   refine gY (yV st_37 rfl) (gB rfl (gE (go _ 9 rfl (decide_eq_true (by omega)) (gct rfl (gSk (gS (gBk (gS (gR (gM rfl (gM rfl (gM rfl (gg fun x1_1 h1_1 hx1_2 => ?_)))))))))))))
   obtain ⟨b1_1, o1_1, c1_1, he⟩ := idx_form (hm.ow_rep 0 rfl) hx1_2
   simp only [Value.slice.injEq, Option.some.injEq] at he; obtain ⟨rfl, _, rfl⟩ := he
   have hL1_1 := rep_slice_len (hm.ow_rep 0 rfl)
   refine gI st_37 h1_1 (idx_lt2 hx1_2 hL1_1) rfl (gf0 rfl (fun a hf => e_setElem (x1 := xs1_1.2) (j := 0) (vs := [(nV xs1_1.2)]) 0 hf hm rfl hx1_2 rfl sizeOf3 rfl rfl rfl (one_cons rfl one_nil) rfl rfl) ?_)
   rintro _ w hm
   have hx1_3 := List.getElem?_set_self (a := xs1_1.2) (idx_lt hx1_2)
   exact gE (gR (gM rfl (gB rfl (gA rfl (gE (gR (gM rfl (gP (by omega) (by omega) rfl (gA rfl (gE (gze hm [0] rfl)))))))))))
  repeat clear hm
  intro i0_1 xs0_1 w hm hi0_3 hi0_4
  refine gS (gS (gR (gM rfl (gM rfl ?_))))
  have hl0_2 := rep_len (hm.ow_rep 0 rfl)
  exact gY (yV st_37 rfl) (gB rfl (gE (go _ 9 rfl (decide_eq_false (by omega)) (gcf rfl (gXt (gHh (gS (gR (gM rfl (gA rfl (gE (gRt (gr1 results29 rfl ⟨rfl, hm.pk [0] rfl rfl⟩)))))))))))))

theorem laws_markPhiS_ok (w0 : World) (hz : Heap) (a_ : List Phi_) (v1 : Value) (k_ : Int) (hm0 : Mem w0 hz w0 [ow [v1] a_]) :
    ConM Tryz.prog 149 [v1, (nV k_)] w0 (laws_markPhiS a_ k_) fun r v w' => v = (nV r.1) ∧ Mem w0 hz w' [ow [v1] r.2] := by
  unfold laws_markPhiS
  refine gcon func149 rfl fun r => ?_
  have hm := hm0
  refine gS (gR (gA rfl (gE (gS (gS (gR (gA rfl (gE ?_))))))))
  obtain ⟨p0_1, c0_1, rfl, hl0_1⟩ := ro_slice (hm.ow_rep 0 rfl)
  refine gBk (gNf hm (fun i1_1 xs1_1 => [(0, (.slice p0_1 a_.length c0_1)), (1, (nV xs1_1.2)), (5, (nV i1_1))]) (fun i1_1 xs1_1 => [ow [(.slice p0_1 a_.length c0_1)] xs1_1.1]) [0] rfl ?_ ?_)
  ·
   repeat clear hm
   intro _ _ i1_1 xs1_1 w hm hi0_1 hi0_2 q0_1 _
   refine gS (gS (gR (gM rfl (gM rfl ?_))))
   have hl1_1 := rep_len (hm.ow_rep 0 rfl)
   refine gY (yV st_101 rfl) (gB rfl (gE (go _ 9 rfl (decide_eq_true (by omega)) (gct rfl (gSk (gS (gBk (gS (gR (gM rfl (gM rfl (gM rfl (gg fun x1_1 h1_1 hx1_2 => ?_)))))))))))))
   obtain ⟨b1_1, o1_1, c1_1, he⟩ := idx_form' (hm.ow_rep 0 rfl) hx1_2
   simp only [Value.slice.injEq, Option.some.injEq] at he; obtain ⟨rfl, _, rfl⟩ := he
   obtain ⟨v1_1, hc1_1, h1_2⟩ := rk_Phi_ (hm.ow_rep 0 rfl) hx1_2
   have hL1_1 := rep_slice_len (hm.ow_rep 0 rfl)
   refine gI st_101 h1_1 (idx_lt2 hx1_2 hL1_1) rfl (gF fo_143_0 rfl (gf0 rfl (fun a hf => e_setElemR (x1 := ((⟨xs1_1.2, x1_1.args⟩ : Phi_) : Phi_)) (j := 0) (vs := [(nV xs1_1.2)]) 0 hf hm rfl hx1_2 hc1_1 rfl (fun F h ho => (fun _ => own_fst_map (α := Int) (β := (List Int)) (cs := [(nV x1_1.to)]) (cs' := [(nV xs1_1.2)]) (ds := [v1_1]) rfl (fun _ _ => Flat.own_iff.2 rfl)) F ho) rfl sizeOf3 rfl rfl rfl (one_cons rfl one_nil) rfl) ?_))
   rintro _ w hm
   have hx1_3 := List.getElem?_set_self (a := ((⟨xs1_1.2, x1_1.args⟩ : Phi_) : Phi_)) (idx_lt hx1_2)
   refine gE (gS (gR (gM rfl (gB rfl (gA rfl (gE (gR (gM rfl (gM rfl ?_)))))))))
   obtain ⟨_, _, hc1_2, hr1_1⟩ := ro_get' (hm.ow_rep 0 rfl) hx1_3
   obtain ⟨_, _, rfl, rfl, h1_3⟩ := hr1_1
   obtain ⟨v1_2, rfl, -⟩ := id h1_3
   replace h1_3 : GT.rep (hp _) [v1_2] x1_1.args := h1_3
   replace hc1_2 : CellsAt (hp _) b1_1 (o1_1 + (i1_1).toNat * 2) [(nV xs1_1.2), v1_2] := hc1_2
   have hL1_2 := rep_slice_len (hm.ow_rep 0 rfl)
   refine gI st_101 h1_1 (idx_lt2 hx1_3 hL1_2) rfl (gF fo_143_1 rfl (gY (yl isAgg37 (hc1_2.cell (j := 1) rfl) rfl) (gM rfl ?_)))
   replace hm : Mem w0 hz _ [ow [v1_2] x1_1.args, hole [(sV b1_1 o1_1 a_.length c0_1)] [v1_2] (fun (y : List Int) => ((xs1_1.1.set (i1_1).toNat (⟨xs1_1.2, x1_1.args⟩ : Phi_)) : List Phi_).set (i1_1).toNat (⟨xs1_1.2, y⟩ : Phi_))] := hm.open 0 rfl (foc_elem hx1_3 hc1_2 rfl (show FocH (α := Phi_) _ _ (⟨xs1_1.2, x1_1.args⟩ : Phi_) [v1_2] x1_1.args (fun y => (⟨xs1_1.2, y⟩ : Phi_)) from (foc_snd (α := Int) (β := (List Int)) (cs := [(nV xs1_1.2)]) (ds := [v1_2]) (v := [v1_2]) (inner := x1_1.args) (x := x1_1.args) (z := xs1_1.2) (put := fun (y : List Int) => y) rfl (foc_id [v1_2] x1_1.args))))
   obtain ⟨hz1_1, hle, hm1, hsub, hk1_1⟩ := hm.take2 (L1 := [ow [v1_2] x1_1.args]) (L2 := [hole [(sV b1_1 o1_1 a_.length c0_1)] [v1_2] (fun (y : List Int) => ((xs1_1.1.set (i1_1).toNat (⟨xs1_1.2, x1_1.args⟩ : Phi_)) : List Phi_).set (i1_1).toNat (⟨xs1_1.2, y⟩ : Phi_))]) [0] [1] (by decide) rfl rfl
   refine gCg rfl call29 (laws_markIntS_ok _ hz1_1 x1_1.args v1_2 (w64 (xs1_1.2 + 1)) hm1 ) ?_
   rintro r1_1 hx1_4 v1_3 w ⟨rfl, hB⟩
   replace hm := hk1_1 _ _ hB; clear hB
   replace hm := (hm.shut 1 0 (by decide) rfl rfl).pk (L' := [ow [(sV b1_1 o1_1 a_.length c0_1)] ((xs1_1.1.set (i1_1).toNat (⟨xs1_1.2, x1_1.args⟩ : Phi_)).set (i1_1).toNat (⟨xs1_1.2, r1_1.2⟩ : Phi_))]) [1] rfl rfl
   exact gA rfl (gE (gR (gM rfl (gP (by omega) (by omega) rfl (gA rfl (gE (gze hm [0] rfl)))))))
  repeat clear hm
  intro i0_1 xs0_1 w hm hi0_3 hi0_4
  refine gS (gS (gR (gM rfl (gM rfl ?_))))
  have hl0_2 := rep_len (hm.ow_rep 0 rfl)
  exact gY (yV st_101 rfl) (gB rfl (gE (go _ 9 rfl (decide_eq_false (by omega)) (gcf rfl (gXt (gHh (gS (gR (gM rfl (gA rfl (gE (gRt (gr1 results149 rfl ⟨rfl, hm.pk [0] rfl rfl⟩)))))))))))))

theorem laws_markInsS_ok (w0 : World) (hz : Heap) (a_ : List Ins_) (v1 : Value) (k_ : Int) (hm0 : Mem w0 hz w0 [ow [v1] a_]) :
    ConM Tryz.prog 150 [v1, (nV k_)] w0 (laws_markInsS a_ k_) fun r v w' => v = (nV r.1) ∧ Mem w0 hz w' [ow [v1] r.2] := by
  unfold laws_markInsS
  refine gcon func150 rfl fun r => ?_
  have hm := hm0
  refine gS (gR (gA rfl (gE (gS (gS (gR (gA rfl (gE ?_))))))))
  obtain ⟨p0_1, c0_1, rfl, hl0_1⟩ := ro_slice (hm.ow_rep 0 rfl)
  refine gBk (gNf hm (fun i1_1 xs1_1 => [(0, (.slice p0_1 a_.length c0_1)), (1, (nV xs1_1.2)), (5, (nV i1_1))]) (fun i1_1 xs1_1 => [ow [(.slice p0_1 a_.length c0_1)] xs1_1.1]) [0] rfl ?_ ?_)
  ·
   repeat clear hm
   intro _ _ i1_1 xs1_1 w hm hi0_1 hi0_2 q0_1 _
   refine gS (gS (gR (gM rfl (gM rfl ?_))))
   have hl1_1 := rep_len (hm.ow_rep 0 rfl)
   refine gY (yV st_102 rfl) (gB rfl (gE (go _ 9 rfl (decide_eq_true (by omega)) (gct rfl (gSk (gS (gBk (gS (gR (gM rfl (gM rfl (gM rfl (gg fun x1_1 h1_1 hx1_2 => ?_)))))))))))))
   obtain ⟨b1_1, o1_1, c1_1, he⟩ := idx_form' (hm.ow_rep 0 rfl) hx1_2
   simp only [Value.slice.injEq, Option.some.injEq] at he; obtain ⟨rfl, _, rfl⟩ := he
   obtain ⟨v1_1, hc1_1, h1_2⟩ := rk_Ins_ (hm.ow_rep 0 rfl) hx1_2
   have hL1_1 := rep_slice_len (hm.ow_rep 0 rfl)
   refine gI st_102 h1_1 (idx_lt2 hx1_2 hL1_1) rfl (gF fo_106_0 rfl (gf0 rfl (fun a hf => e_setElemR (x1 := ((⟨xs1_1.2, x1_1.to, x1_1.args, x1_1.n_⟩ : Ins_) : Ins_)) (j := 0) (vs := [(nV xs1_1.2)]) 0 hf hm rfl hx1_2 hc1_1 rfl (fun F h ho => (fun _ => own_fst_map (α := Int) (β := Int × (List Int) × Int) (cs := [(nV x1_1.op)]) (cs' := [(nV xs1_1.2)]) (ds := [(nV x1_1.to), v1_1, (nV x1_1.n_)]) rfl (fun _ _ => Flat.own_iff.2 rfl)) F ho) rfl sizeOf3 rfl rfl rfl (one_cons rfl one_nil) rfl) ?_))
   rintro _ w hm
   have hx1_3 := List.getElem?_set_self (a := ((⟨xs1_1.2, x1_1.to, x1_1.args, x1_1.n_⟩ : Ins_) : Ins_)) (idx_lt hx1_2)
   refine gE (gS (gR (gM rfl (gB rfl (gA rfl (gE (gS (gR (gM rfl (gM rfl (gM rfl ?_)))))))))))
   obtain ⟨_, _, hc1_2, hr1_1⟩ := ro_get' (hm.ow_rep 0 rfl) hx1_3
   obtain ⟨_, _, rfl, rfl, _, _, rfl, rfl, _, _, rfl, h1_3, rfl⟩ := hr1_1
   obtain ⟨v1_2, rfl, -⟩ := id h1_3
   replace h1_3 : GT.rep (hp _) [v1_2] x1_1.args := h1_3
   replace hc1_2 : CellsAt (hp _) b1_1 (o1_1 + (i1_1).toNat * 4) [(nV xs1_1.2), (nV x1_1.to), v1_2, (nV x1_1.n_)] := hc1_2
   have hL1_2 := rep_slice_len (hm.ow_rep 0 rfl)
   refine gI st_102 h1_1 (idx_lt2 hx1_3 hL1_2) rfl (gF fo_106_1 rfl (gf0 rfl (fun a hf => e_setElemR (x1 := ((⟨xs1_1.2, w64 (xs1_1.2 + 1), x1_1.args, x1_1.n_⟩ : Ins_) : Ins_)) (j := 1) (vs := [(nV (w64 (xs1_1.2 + 1)))]) 0 hf hm rfl hx1_3 hc1_2 rfl (fun F h ho => (fun _ => own_snd_map (α := Int) (β := Int × (List Int) × Int) (cs := [(nV xs1_1.2)]) (ds := [(nV x1_1.to), v1_2, (nV x1_1.n_)]) (ds' := [(nV (w64 (xs1_1.2 + 1))), v1_2, (nV x1_1.n_)]) rfl (fun _ => own_fst_map (α := Int) (β := (List Int) × Int) (cs := [(nV x1_1.to)]) (cs' := [(nV (w64 (xs1_1.2 + 1)))]) (ds := [v1_2, (nV x1_1.n_)]) rfl (fun _ _ => Flat.own_iff.2 rfl))) F ho) rfl sizeOf3 rfl rfl rfl (one_cons rfl one_nil) rfl) ?_))
   rintro _ w hm
   have hx1_4 := List.getElem?_set_self (a := ((⟨xs1_1.2, w64 (xs1_1.2 + 1), x1_1.args, x1_1.n_⟩ : Ins_) : Ins_)) (idx_lt hx1_3)
   refine gE (gS (gR (gM rfl (gB rfl (gA rfl (gE (gS (gR (gM rfl (gM rfl ?_))))))))))
   obtain ⟨_, _, hc1_3, hr1_2⟩ := ro_get' (hm.ow_rep 0 rfl) hx1_4
   obtain ⟨_, _, rfl, rfl, _, _, rfl, rfl, _, _, rfl, h1_4, rfl⟩ := hr1_2
   obtain ⟨v1_3, rfl, -⟩ := id h1_4
   replace h1_4 : GT.rep (hp _) [v1_3] x1_1.args := h1_4
   replace hc1_3 : CellsAt (hp _) b1_1 (o1_1 + (i1_1).toNat * 4) [(nV xs1_1.2), (nV (w64 (xs1_1.2 + 1))), v1_3, (nV x1_1.n_)] := hc1_3
   have hL1_3 := rep_slice_len (hm.ow_rep 0 rfl)
   refine gI st_102 h1_1 (idx_lt2 hx1_4 hL1_3) rfl (gF fo_106_2 rfl (gY (yl isAgg37 (hc1_3.cell (j := 2) rfl) rfl) (gM rfl ?_)))
   replace hm : Mem w0 hz _ [ow [v1_3] x1_1.args, hole [(sV b1_1 o1_1 a_.length c0_1)] [v1_3] (fun (y : List Int) => (((xs1_1.1.set (i1_1).toNat (⟨xs1_1.2, x1_1.to, x1_1.args, x1_1.n_⟩ : Ins_)).set (i1_1).toNat (⟨xs1_1.2, w64 (xs1_1.2 + 1), x1_1.args, x1_1.n_⟩ : Ins_)) : List Ins_).set (i1_1).toNat (⟨xs1_1.2, w64 (xs1_1.2 + 1), y, x1_1.n_⟩ : Ins_))] := hm.open 0 rfl (foc_elem hx1_4 hc1_3 rfl (show FocH (α := Ins_) _ _ (⟨xs1_1.2, w64 (xs1_1.2 + 1), x1_1.args, x1_1.n_⟩ : Ins_) [v1_3] x1_1.args (fun y => (⟨xs1_1.2, w64 (xs1_1.2 + 1), y, x1_1.n_⟩ : Ins_)) from (foc_snd (α := Int) (β := Int × (List Int) × Int) (cs := [(nV xs1_1.2)]) (ds := [(nV (w64 (xs1_1.2 + 1))), v1_3, (nV x1_1.n_)]) (v := [v1_3]) (inner := x1_1.args) (x := (w64 (xs1_1.2 + 1), x1_1.args, x1_1.n_)) (z := xs1_1.2) (put := fun (y : List Int) => (w64 (xs1_1.2 + 1), y, x1_1.n_)) rfl (foc_snd (α := Int) (β := (List Int) × Int) (cs := [(nV (w64 (xs1_1.2 + 1)))]) (ds := [v1_3, (nV x1_1.n_)]) (v := [v1_3]) (inner := x1_1.args) (x := (x1_1.args, x1_1.n_)) (z := w64 (xs1_1.2 + 1)) (put := fun (y : List Int) => (y, x1_1.n_)) rfl (foc_fst (α := List Int) (β := Int) (cs := [v1_3]) (ds := [(nV x1_1.n_)]) (v := [v1_3]) (inner := x1_1.args) (x := x1_1.args) (z := x1_1.n_) (put := fun (y : List Int) => y) rfl (foc_id [v1_3] x1_1.args))))))
   obtain ⟨hz1_1, hle, hm1, hsub, hk1_1⟩ := hm.take2 (L1 := [ow [v1_3] x1_1.args]) (L2 := [hole [(sV b1_1 o1_1 a_.length c0_1)] [v1_3] (fun (y : List Int) => (((xs1_1.1.set (i1_1).toNat (⟨xs1_1.2, x1_1.to, x1_1.args, x1_1.n_⟩ : Ins_)).set (i1_1).toNat (⟨xs1_1.2, w64 (xs1_1.2 + 1), x1_1.args, x1_1.n_⟩ : Ins_)) : List Ins_).set (i1_1).toNat (⟨xs1_1.2, w64 (xs1_1.2 + 1), y, x1_1.n_⟩ : Ins_))]) [0] [1] (by decide) rfl rfl
   refine gCg rfl call29 (laws_markIntS_ok _ hz1_1 x1_1.args v1_3 (w64 ((w64 (xs1_1.2 + 1)) + 1)) hm1 ) ?_
   rintro r1_1 hx1_5 v1_4 w ⟨rfl, hB⟩
   replace hm := hk1_1 _ _ hB; clear hB
   replace hm := (hm.shut 1 0 (by decide) rfl rfl).pk (L' := [ow [(sV b1_1 o1_1 a_.length c0_1)] (((xs1_1.1.set (i1_1).toNat (⟨xs1_1.2, x1_1.to, x1_1.args, x1_1.n_⟩ : Ins_)).set (i1_1).toNat (⟨xs1_1.2, w64 (xs1_1.2 + 1), x1_1.args, x1_1.n_⟩ : Ins_)).set (i1_1).toNat (⟨xs1_1.2, w64 (xs1_1.2 + 1), r1_1.2, x1_1.n_⟩ : Ins_))]) [1] rfl rfl
   refine gA rfl (gE (gS (gR (gM rfl (gM rfl (gM rfl (gg fun x1_2 h1_5 hx1_7 => ?_)))))))
   obtain ⟨v1_5, hc1_4, h1_6⟩ := rk_Ins_ (hm.ow_rep 0 rfl) hx1_7
   have hL1_4 := rep_slice_len (hm.ow_rep 0 rfl)
   refine gI st_102 h1_5 (idx_lt2 hx1_7 hL1_4) rfl (gF fo_106_3 rfl (gf0 rfl (fun a hf => e_setElemR (x1 := ((⟨x1_2.op, x1_2.to, x1_2.args, r1_1.1⟩ : Ins_) : Ins_)) (j := 3) (vs := [(nV r1_1.1)]) 0 hf hm rfl hx1_7 hc1_4 rfl (fun F h ho => (fun _ => own_snd_map (α := Int) (β := Int × (List Int) × Int) (cs := [(nV x1_2.op)]) (ds := [(nV x1_2.to), v1_5, (nV x1_2.n_)]) (ds' := [(nV x1_2.to), v1_5, (nV r1_1.1)]) rfl (fun _ => own_snd_map (α := Int) (β := (List Int) × Int) (cs := [(nV x1_2.to)]) (ds := [v1_5, (nV x1_2.n_)]) (ds' := [v1_5, (nV r1_1.1)]) rfl (fun _ => own_snd_map (α := List Int) (β := Int) (cs := [v1_5]) (ds := [(nV x1_2.n_)]) (ds' := [(nV r1_1.1)]) rfl (fun _ _ => Flat.own_iff.2 rfl)))) F ho) rfl sizeOf3 rfl rfl rfl (one_cons rfl one_nil) rfl) ?_))
   rintro _ w hm
   have hx1_8 := List.getElem?_set_self (a := ((⟨x1_2.op, x1_2.to, x1_2.args, r1_1.1⟩ : Ins_) : Ins_)) (idx_lt hx1_7)
   exact gE (gR (gM rfl (gB rfl (gA rfl (gE (gR (gM rfl (gP (by omega) (by omega) rfl (gA rfl (gE (gze hm [0] rfl)))))))))))
  repeat clear hm
  intro i0_1 xs0_1 w hm hi0_3 hi0_4
  refine gS (gS (gR (gM rfl (gM rfl ?_))))
  have hl0_2 := rep_len (hm.ow_rep 0 rfl)
  exact gY (yV st_102 rfl) (gB rfl (gE (go _ 9 rfl (decide_eq_false (by omega)) (gcf rfl (gXt (gHh (gS (gR (gM rfl (gA rfl (gE (gRt (gr1 results150 rfl ⟨rfl, hm.pk [0] rfl rfl⟩)))))))))))))

theorem laws_markBlockS_ok (w0 : World) (hz : Heap) (a_ : List Block_) (v1 : Value) (k_ : Int) (hm0 : Mem w0 hz w0 [ow [v1] a_]) :
    ConM Tryz.prog 102 [v1, (nV k_)] w0 (laws_markBlockS a_ k_) fun r v w' => v = (nV r.1) ∧ Mem w0 hz w' [ow [v1] r.2] := by
  unfold laws_markBlockS
  refine gcon func102 rfl fun r => ?_
  have hm := hm0
  refine gS (gR (gA rfl (gE (gS (gS (gR (gA rfl (gE ?_))))))))
  obtain ⟨p0_1, c0_1, rfl, hl0_1⟩ := ro_slice (hm.ow_rep 0 rfl)
  refine gBk (gNf hm (fun i1_1 xs1_1 => [(0, (.slice p0_1 a_.length c0_1)), (1, (nV xs1_1.2)), (5, (nV i1_1))]) (fun i1_1 xs1_1 => [ow [(.slice p0_1 a_.length c0_1)] xs1_1.1]) [0] rfl ?_ ?_)
  ·
   repeat clear hm
   intro _ _ i1_1 xs1_1 w hm hi0_1 hi0_2 q0_1 _
   refine gS (gS (gR (gM rfl (gM rfl ?_))))
   have hl1_1 := rep_len (hm.ow_rep 0 rfl)
   refine gY (yV st_55 rfl) (gB rfl (gE (go _ 9 rfl (decide_eq_true (by omega)) (gct rfl (gSk (gS (gBk (gS (gR (gM rfl (gM rfl (gg fun x1_1 h1_1 hx1_2 => ?_))))))))))))
   obtain ⟨b1_1, o1_1, c1_1, he⟩ := idx_form' (hm.ow_rep 0 rfl) hx1_2
   simp only [Value.slice.injEq, Option.some.injEq] at he; obtain ⟨rfl, _, rfl⟩ := he
   obtain ⟨v1_1, v1_2, v1_3, hc1_1, h1_2, h1_3, h1_4⟩ := rk_Block_ (hm.ow_rep 0 rfl) hx1_2
   have hL1_1 := rep_slice_len (hm.ow_rep 0 rfl)
   refine gI st_55 h1_1 (idx_lt2 hx1_2 hL1_1) rfl (gF fo_104_0 rfl (gY (yl isAgg101 (hc1_1.cell (j := 0) rfl) rfl) (gM rfl ?_)))
   replace hm : Mem w0 hz _ [ow [v1_1] x1_1.phis, hole [(sV b1_1 o1_1 a_.length c0_1)] [v1_1] (fun (y : List Phi_) => (xs1_1.1 : List Block_).set (i1_1).toNat (⟨y, x1_1.ins, x1_1.jump, x1_1.on, x1_1.next_⟩ : Block_))] := hm.open 0 rfl (foc_elem hx1_2 hc1_1 rfl (show FocH (α := Block_) _ _ x1_1 [v1_1] x1_1.phis (fun y => (⟨y, x1_1.ins, x1_1.jump, x1_1.on, x1_1.next_⟩ : Block_)) from (foc_fst (α := List Phi_) (β := (List Ins_) × Int × Int × (List Int)) (cs := [v1_1]) (ds := [v1_2, (nV x1_1.jump), (nV x1_1.on), v1_3]) (v := [v1_1]) (inner := x1_1.phis) (x := x1_1.phis) (z := (x1_1.ins, x1_1.jump, x1_1.on, x1_1.next_)) (put := fun (y : List Phi_) => y) rfl (foc_id [v1_1] x1_1.phis))))
   obtain ⟨hz1_1, hle, hm1, hsub, hk1_1⟩ := hm.take2 (L1 := [ow [v1_1] x1_1.phis]) (L2 := [hole [(sV b1_1 o1_1 a_.length c0_1)] [v1_1] (fun (y : List Phi_) => (xs1_1.1 : List Block_).set (i1_1).toNat (⟨y, x1_1.ins, x1_1.jump, x1_1.on, x1_1.next_⟩ : Block_))]) [0] [1] (by decide) rfl rfl
   refine gCg rfl call149 (laws_markPhiS_ok _ hz1_1 x1_1.phis v1_1 xs1_1.2 hm1 ) ?_
   rintro r1_1 hx1_3 v1_4 w ⟨rfl, hB⟩
   replace hm := hk1_1 _ _ hB; clear hB
   replace hm := (hm.shut 1 0 (by decide) rfl rfl).pk (L' := [ow [(sV b1_1 o1_1 a_.length c0_1)] (xs1_1.1.set (i1_1).toNat (⟨r1_1.2, x1_1.ins, x1_1.jump, x1_1.on, x1_1.next_⟩ : Block_))]) [1] rfl rfl
   refine gA rfl (gE (gS (gR (gM rfl (gM rfl (gg fun x1_2 h1_5 hx1_5 => ?_))))))
   obtain ⟨v1_5, v1_6, v1_7, hc1_2, h1_6, h1_7, h1_8⟩ := rk_Block_ (hm.ow_rep 0 rfl) hx1_5
   have hL1_2 := rep_slice_len (hm.ow_rep 0 rfl)
   refine gI st_55 h1_5 (idx_lt2 hx1_5 hL1_2) rfl (gF fo_104_1 rfl (gY (yl isAgg102 (hc1_2.cell (j := 1) rfl) rfl) (gM rfl ?_)))
   replace hm : Mem w0 hz _ [ow [v1_6] x1_2.ins, hole [(sV b1_1 o1_1 a_.length c0_1)] [v1_6] (fun (y : List Ins_) => ((xs1_1.1.set (i1_1).toNat (⟨r1_1.2, x1_1.ins, x1_1.jump, x1_1.on, x1_1.next_⟩ : Block_)) : List Block_).set (i1_1).toNat (⟨x1_2.phis, y, x1_2.jump, x1_2.on, x1_2.next_⟩ : Block_))] := hm.open 0 rfl (foc_elem hx1_5 hc1_2 rfl (show FocH (α := Block_) _ _ x1_2 [v1_6] x1_2.ins (fun y => (⟨x1_2.phis, y, x1_2.jump, x1_2.on, x1_2.next_⟩ : Block_)) from (foc_snd (α := List Phi_) (β := (List Ins_) × Int × Int × (List Int)) (cs := [v1_5]) (ds := [v1_6, (nV x1_2.jump), (nV x1_2.on), v1_7]) (v := [v1_6]) (inner := x1_2.ins) (x := (x1_2.ins, x1_2.jump, x1_2.on, x1_2.next_)) (z := x1_2.phis) (put := fun (y : List Ins_) => (y, x1_2.jump, x1_2.on, x1_2.next_)) rfl (foc_fst (α := List Ins_) (β := Int × Int × (List Int)) (cs := [v1_6]) (ds := [(nV x1_2.jump), (nV x1_2.on), v1_7]) (v := [v1_6]) (inner := x1_2.ins) (x := x1_2.ins) (z := (x1_2.jump, x1_2.on, x1_2.next_)) (put := fun (y : List Ins_) => y) rfl (foc_id [v1_6] x1_2.ins)))))
   obtain ⟨hz1_3, hle, hm1, hsub, hk1_2⟩ := hm.take2 (L1 := [ow [v1_6] x1_2.ins]) (L2 := [hole [(sV b1_1 o1_1 a_.length c0_1)] [v1_6] (fun (y : List Ins_) => ((xs1_1.1.set (i1_1).toNat (⟨r1_1.2, x1_1.ins, x1_1.jump, x1_1.on, x1_1.next_⟩ : Block_)) : List Block_).set (i1_1).toNat (⟨x1_2.phis, y, x1_2.jump, x1_2.on, x1_2.next_⟩ : Block_))]) [0] [1] (by decide) rfl rfl
   refine gCg rfl call150 (laws_markInsS_ok _ hz1_3 x1_2.ins v1_6 r1_1.1 hm1 ) ?_
   rintro r1_2 hx1_6 v1_8 w ⟨rfl, hB⟩
   replace hm := hk1_2 _ _ hB; clear hB
   replace hm := (hm.shut 1 0 (by decide) rfl rfl).pk (L' := [ow [(sV b1_1 o1_1 a_.length c0_1)] ((xs1_1.1.set (i1_1).toNat (⟨r1_1.2, x1_1.ins, x1_1.jump, x1_1.on, x1_1.next_⟩ : Block_)).set (i1_1).toNat (⟨x1_2.phis, r1_2.2, x1_2.jump, x1_2.on, x1_2.next_⟩ : Block_))]) [1] rfl rfl
   refine gA rfl (gE (gS (gR (gM rfl (gM rfl (gM rfl (gg fun x1_3 h1_9 hx1_8 => ?_)))))))
   obtain ⟨v1_9, v1_10, v1_11, hc1_3, h1_10, h1_11, h1_12⟩ := rk_Block_ (hm.ow_rep 0 rfl) hx1_8
   have hL1_3 := rep_slice_len (hm.ow_rep 0 rfl)
   refine gI st_55 h1_9 (idx_lt2 hx1_8 hL1_3) rfl (gF fo_104_2 rfl (gf0 rfl (fun a hf => e_setElemR (x1 := ((⟨x1_3.phis, x1_3.ins, r1_2.1, x1_3.on, x1_3.next_⟩ : Block_) : Block_)) (j := 2) (vs := [(nV r1_2.1)]) 0 hf hm rfl hx1_8 hc1_3 rfl (fun F h ho => (fun _ => own_snd_map (α := List Phi_) (β := (List Ins_) × Int × Int × (List Int)) (cs := [v1_9]) (ds := [v1_10, (nV x1_3.jump), (nV x1_3.on), v1_11]) (ds' := [v1_10, (nV r1_2.1), (nV x1_3.on), v1_11]) rfl (fun _ => own_snd_map (α := List Ins_) (β := Int × Int × (List Int)) (cs := [v1_10]) (ds := [(nV x1_3.jump), (nV x1_3.on), v1_11]) (ds' := [(nV r1_2.1), (nV x1_3.on), v1_11]) rfl (fun _ => own_fst_map (α := Int) (β := Int × (List Int)) (cs := [(nV x1_3.jump)]) (cs' := [(nV r1_2.1)]) (ds := [(nV x1_3.on), v1_11]) rfl (fun _ _ => Flat.own_iff.2 rfl)))) F ho) rfl sizeOf3 rfl rfl rfl (one_cons rfl one_nil) rfl) ?_))
   rintro _ w hm
   have hx1_9 := List.getElem?_set_self (a := ((⟨x1_3.phis, x1_3.ins, r1_2.1, x1_3.on, x1_3.next_⟩ : Block_) : Block_)) (idx_lt hx1_8)
   refine gE (gS (gR (gM rfl (gB rfl (gA rfl (gE (gS (gR (gM rfl (gM rfl (gM rfl ?_)))))))))))
   obtain ⟨_, _, hc1_4, hr1_1⟩ := ro_get' (hm.ow_rep 0 rfl) hx1_9
   obtain ⟨_, _, rfl, h1_13, _, _, rfl, h1_14, _, _, rfl, rfl, _, _, rfl, rfl, h1_15⟩ := hr1_1
   obtain ⟨v1_12, rfl, -⟩ := id h1_13
   replace h1_13 : GT.rep (hp _) [v1_12] x1_3.phis := h1_13
   obtain ⟨v1_13, rfl, -⟩ := id h1_14
   replace h1_14 : GT.rep (hp _) [v1_13] x1_3.ins := h1_14
   obtain ⟨v1_14, rfl, -⟩ := id h1_15
   replace h1_15 : GT.rep (hp _) [v1_14] x1_3.next_ := h1_15
   replace hc1_4 : CellsAt (hp _) b1_1 (o1_1 + (i1_1).toNat * 5) [v1_12, v1_13, (nV r1_2.1), (nV x1_3.on), v1_14] := hc1_4
   have hL1_4 := rep_slice_len (hm.ow_rep 0 rfl)
   refine gI st_55 h1_9 (idx_lt2 hx1_9 hL1_4) rfl (gF fo_104_3 rfl (gf0 rfl (fun a hf => e_setElemR (x1 := ((⟨x1_3.phis, x1_3.ins, r1_2.1, w64 (r1_2.1 + 1), x1_3.next_⟩ : Block_) : Block_)) (j := 3) (vs := [(nV (w64 (r1_2.1 + 1)))]) 0 hf hm rfl hx1_9 hc1_4 rfl (fun F h ho => (fun _ => own_snd_map (α := List Phi_) (β := (List Ins_) × Int × Int × (List Int)) (cs := [v1_12]) (ds := [v1_13, (nV r1_2.1), (nV x1_3.on), v1_14]) (ds' := [v1_13, (nV r1_2.1), (nV (w64 (r1_2.1 + 1))), v1_14]) rfl (fun _ => own_snd_map (α := List Ins_) (β := Int × Int × (List Int)) (cs := [v1_13]) (ds := [(nV r1_2.1), (nV x1_3.on), v1_14]) (ds' := [(nV r1_2.1), (nV (w64 (r1_2.1 + 1))), v1_14]) rfl (fun _ => own_snd_map (α := Int) (β := Int × (List Int)) (cs := [(nV r1_2.1)]) (ds := [(nV x1_3.on), v1_14]) (ds' := [(nV (w64 (r1_2.1 + 1))), v1_14]) rfl (fun _ => own_fst_map (α := Int) (β := (List Int)) (cs := [(nV x1_3.on)]) (cs' := [(nV (w64 (r1_2.1 + 1)))]) (ds := [v1_14]) rfl (fun _ _ => Flat.own_iff.2 rfl))))) F ho) rfl sizeOf3 rfl rfl rfl (one_cons rfl one_nil) rfl) ?_))
   rintro _ w hm
   have hx1_10 := List.getElem?_set_self (a := ((⟨x1_3.phis, x1_3.ins, r1_2.1, w64 (r1_2.1 + 1), x1_3.next_⟩ : Block_) : Block_)) (idx_lt hx1_9)
   refine gE (gS (gR (gM rfl (gB rfl (gA rfl (gE (gR (gM rfl (gM rfl ?_)))))))))
   obtain ⟨_, _, hc1_5, hr1_2⟩ := ro_get' (hm.ow_rep 0 rfl) hx1_10
   obtain ⟨_, _, rfl, h1_16, _, _, rfl, h1_17, _, _, rfl, rfl, _, _, rfl, rfl, h1_18⟩ := hr1_2
   obtain ⟨v1_15, rfl, -⟩ := id h1_16
   replace h1_16 : GT.rep (hp _) [v1_15] x1_3.phis := h1_16
   obtain ⟨v1_16, rfl, -⟩ := id h1_17
   replace h1_17 : GT.rep (hp _) [v1_16] x1_3.ins := h1_17
   obtain ⟨v1_17, rfl, -⟩ := id h1_18
   replace h1_18 : GT.rep (hp _) [v1_17] x1_3.next_ := h1_18
   replace hc1_5 : CellsAt (hp _) b1_1 (o1_1 + (i1_1).toNat * 5) [v1_15, v1_16, (nV r1_2.1), (nV (w64 (r1_2.1 + 1))), v1_17] := hc1_5
   have hL1_5 := rep_slice_len (hm.ow_rep 0 rfl)
   refine gI st_55 h1_9 (idx_lt2 hx1_10 hL1_5) rfl (gF fo_104_4 rfl (gY (yl isAgg37 (hc1_5.cell (j := 4) rfl) rfl) (gM rfl ?_)))
   replace hm : Mem w0 hz _ [ow [v1_17] x1_3.next_, hole [(sV b1_1 o1_1 a_.length c0_1)] [v1_17] (fun (y : List Int) => (((((xs1_1.1.set (i1_1).toNat (⟨r1_1.2, x1_1.ins, x1_1.jump, x1_1.on, x1_1.next_⟩ : Block_)).set (i1_1).toNat (⟨x1_2.phis, r1_2.2, x1_2.jump, x1_2.on, x1_2.next_⟩ : Block_)).set (i1_1).toNat (⟨x1_3.phis, x1_3.ins, r1_2.1, x1_3.on, x1_3.next_⟩ : Block_)).set (i1_1).toNat (⟨x1_3.phis, x1_3.ins, r1_2.1, w64 (r1_2.1 + 1), x1_3.next_⟩ : Block_)) : List Block_).set (i1_1).toNat (⟨x1_3.phis, x1_3.ins, r1_2.1, w64 (r1_2.1 + 1), y⟩ : Block_))] := hm.open 0 rfl (foc_elem hx1_10 hc1_5 rfl (show FocH (α := Block_) _ _ (⟨x1_3.phis, x1_3.ins, r1_2.1, w64 (r1_2.1 + 1), x1_3.next_⟩ : Block_) [v1_17] x1_3.next_ (fun y => (⟨x1_3.phis, x1_3.ins, r1_2.1, w64 (r1_2.1 + 1), y⟩ : Block_)) from (foc_snd (α := List Phi_) (β := (List Ins_) × Int × Int × (List Int)) (cs := [v1_15]) (ds := [v1_16, (nV r1_2.1), (nV (w64 (r1_2.1 + 1))), v1_17]) (v := [v1_17]) (inner := x1_3.next_) (x := (x1_3.ins, r1_2.1, w64 (r1_2.1 + 1), x1_3.next_)) (z := x1_3.phis) (put := fun (y : List Int) => (x1_3.ins, r1_2.1, w64 (r1_2.1 + 1), y)) rfl (foc_snd (α := List Ins_) (β := Int × Int × (List Int)) (cs := [v1_16]) (ds := [(nV r1_2.1), (nV (w64 (r1_2.1 + 1))), v1_17]) (v := [v1_17]) (inner := x1_3.next_) (x := (r1_2.1, w64 (r1_2.1 + 1), x1_3.next_)) (z := x1_3.ins) (put := fun (y : List Int) => (r1_2.1, w64 (r1_2.1 + 1), y)) rfl (foc_snd (α := Int) (β := Int × (List Int)) (cs := [(nV r1_2.1)]) (ds := [(nV (w64 (r1_2.1 + 1))), v1_17]) (v := [v1_17]) (inner := x1_3.next_) (x := (w64 (r1_2.1 + 1), x1_3.next_)) (z := r1_2.1) (put := fun (y : List Int) => (w64 (r1_2.1 + 1), y)) rfl (foc_snd (α := Int) (β := (List Int)) (cs := [(nV (w64 (r1_2.1 + 1)))]) (ds := [v1_17]) (v := [v1_17]) (inner := x1_3.next_) (x := x1_3.next_) (z := w64 (r1_2.1 + 1)) (put := fun (y : List Int) => y) rfl (foc_id [v1_17] x1_3.next_)))))))
   obtain ⟨hz1_5, hle, hm1, hsub, hk1_3⟩ := hm.take2 (L1 := [ow [v1_17] x1_3.next_]) (L2 := [hole [(sV b1_1 o1_1 a_.length c0_1)] [v1_17] (fun (y : List Int) => (((((xs1_1.1.set (i1_1).toNat (⟨r1_1.2, x1_1.ins, x1_1.jump, x1_1.on, x1_1.next_⟩ : Block_)).set (i1_1).toNat (⟨x1_2.phis, r1_2.2, x1_2.jump, x1_2.on, x1_2.next_⟩ : Block_)).set (i1_1).toNat (⟨x1_3.phis, x1_3.ins, r1_2.1, x1_3.on, x1_3.next_⟩ : Block_)).set (i1_1).toNat (⟨x1_3.phis, x1_3.ins, r1_2.1, w64 (r1_2.1 + 1), x1_3.next_⟩ : Block_)) : List Block_).set (i1_1).toNat (⟨x1_3.phis, x1_3.ins, r1_2.1, w64 (r1_2.1 + 1), y⟩ : Block_))]) [0] [1] (by decide) rfl rfl
   refine gCg rfl call29 (laws_markIntS_ok _ hz1_5 x1_3.next_ v1_17 (w64 ((w64 (r1_2.1 + 1)) + 1)) hm1 ) ?_
   rintro r1_3 hx1_11 v1_18 w ⟨rfl, hB⟩
   replace hm := hk1_3 _ _ hB; clear hB
   replace hm := (hm.shut 1 0 (by decide) rfl rfl).pk (L' := [ow [(sV b1_1 o1_1 a_.length c0_1)] (((((xs1_1.1.set (i1_1).toNat (⟨r1_1.2, x1_1.ins, x1_1.jump, x1_1.on, x1_1.next_⟩ : Block_)).set (i1_1).toNat (⟨x1_2.phis, r1_2.2, x1_2.jump, x1_2.on, x1_2.next_⟩ : Block_)).set (i1_1).toNat (⟨x1_3.phis, x1_3.ins, r1_2.1, x1_3.on, x1_3.next_⟩ : Block_)).set (i1_1).toNat (⟨x1_3.phis, x1_3.ins, r1_2.1, w64 (r1_2.1 + 1), x1_3.next_⟩ : Block_)).set (i1_1).toNat (⟨x1_3.phis, x1_3.ins, r1_2.1, w64 (r1_2.1 + 1), r1_3.2⟩ : Block_))]) [1] rfl rfl
   exact gA rfl (gE (gR (gM rfl (gP (by omega) (by omega) rfl (gA rfl (gE (gze hm [0] rfl)))))))
  repeat clear hm
  intro i0_1 xs0_1 w hm hi0_3 hi0_4
  refine gS (gS (gR (gM rfl (gM rfl ?_))))
  have hl0_2 := rep_len (hm.ow_rep 0 rfl)
  exact gY (yV st_55 rfl) (gB rfl (gE (go _ 9 rfl (decide_eq_false (by omega)) (gcf rfl (gXt (gHh (gS (gR (gM rfl (gA rfl (gE (gRt (gr1 results102 rfl ⟨rfl, hm.pk [0] rfl rfl⟩)))))))))))))

theorem laws_markCodeS_ok (w0 : World) (hz : Heap) (a_ : List Code_) (v1 : Value) (k_ : Int) (hm0 : Mem w0 hz w0 [ow [v1] a_]) :
    ConM Tryz.prog 56 [v1, (nV k_)] w0 (laws_markCodeS a_ k_) fun r v w' => v = (nV r.1) ∧ Mem w0 hz w' [ow [v1] r.2] := by
  unfold laws_markCodeS
  refine gcon func56 rfl fun r => ?_
  have hm := hm0
  refine gS (gR (gA rfl (gE (gS (gS (gR (gA rfl (gE ?_))))))))
  obtain ⟨p0_1, c0_1, rfl, hl0_1⟩ := ro_slice (hm.ow_rep 0 rfl)
  refine gBk (gNf hm (fun i1_1 xs1_1 => [(0, (.slice p0_1 a_.length c0_1)), (1, (nV xs1_1.2)), (5, (nV i1_1))]) (fun i1_1 xs1_1 => [ow [(.slice p0_1 a_.length c0_1)] xs1_1.1]) [0] rfl ?_ ?_)
  ·
   repeat clear hm
   intro _ _ i1_1 xs1_1 w hm hi0_1 hi0_2 q0_1 _
   refine gS (gS (gR (gM rfl (gM rfl ?_))))
   have hl1_1 := rep_len (hm.ow_rep 0 rfl)
   refine gY (yV st_28 rfl) (gB rfl (gE (go _ 9 rfl (decide_eq_true (by omega)) (gct rfl (gSk (gS (gBk (gS (gR (gM rfl (gM rfl (gM rfl (gg fun x1_1 h1_1 hx1_2 => ?_)))))))))))))
   obtain ⟨b1_1, o1_1, c1_1, he⟩ := idx_form' (hm.ow_rep 0 rfl) hx1_2
   simp only [Value.slice.injEq, Option.some.injEq] at he; obtain ⟨rfl, _, rfl⟩ := he
   obtain ⟨v1_1, hc1_1, h1_2⟩ := rk_Code_ (hm.ow_rep 0 rfl) hx1_2
   have hL1_1 := rep_slice_len (hm.ow_rep 0 rfl)
   refine gI st_28 h1_1 (idx_lt2 hx1_2 hL1_1) rfl (gF fo_57_0 rfl (gf0 rfl (fun a hf => e_setElemR (x1 := ((⟨xs1_1.2, x1_1.regs, x1_1.blocks⟩ : Code_) : Code_)) (j := 0) (vs := [(nV xs1_1.2)]) 0 hf hm rfl hx1_2 hc1_1 rfl (fun F h ho => (fun _ => own_fst_map (α := Int) (β := Int × (List Block_)) (cs := [(nV x1_1.params)]) (cs' := [(nV xs1_1.2)]) (ds := [(nV x1_1.regs), v1_1]) rfl (fun _ _ => Flat.own_iff.2 rfl)) F ho) rfl sizeOf3 rfl rfl rfl (one_cons rfl one_nil) rfl) ?_))
   rintro _ w hm
   have hx1_3 := List.getElem?_set_self (a := ((⟨xs1_1.2, x1_1.regs, x1_1.blocks⟩ : Code_) : Code_)) (idx_lt hx1_2)
   refine gE (gS (gR (gM rfl (gB rfl (gA rfl (gE (gS (gR (gM rfl (gM rfl (gM rfl ?_)))))))))))
   obtain ⟨_, _, hc1_2, hr1_1⟩ := ro_get' (hm.ow_rep 0 rfl) hx1_3
   obtain ⟨_, _, rfl, rfl, _, _, rfl, rfl, h1_3⟩ := hr1_1
   obtain ⟨v1_2, rfl, -⟩ := id h1_3
   replace h1_3 : GT.rep (hp _) [v1_2] x1_1.blocks := h1_3
   replace hc1_2 : CellsAt (hp _) b1_1 (o1_1 + (i1_1).toNat * 3) [(nV xs1_1.2), (nV x1_1.regs), v1_2] := hc1_2
   have hL1_2 := rep_slice_len (hm.ow_rep 0 rfl)
   refine gI st_28 h1_1 (idx_lt2 hx1_3 hL1_2) rfl (gF fo_57_1 rfl (gf0 rfl (fun a hf => e_setElemR (x1 := ((⟨xs1_1.2, w64 (xs1_1.2 + 1), x1_1.blocks⟩ : Code_) : Code_)) (j := 1) (vs := [(nV (w64 (xs1_1.2 + 1)))]) 0 hf hm rfl hx1_3 hc1_2 rfl (fun F h ho => (fun _ => own_snd_map (α := Int) (β := Int × (List Block_)) (cs := [(nV xs1_1.2)]) (ds := [(nV x1_1.regs), v1_2]) (ds' := [(nV (w64 (xs1_1.2 + 1))), v1_2]) rfl (fun _ => own_fst_map (α := Int) (β := (List Block_)) (cs := [(nV x1_1.regs)]) (cs' := [(nV (w64 (xs1_1.2 + 1)))]) (ds := [v1_2]) rfl (fun _ _ => Flat.own_iff.2 rfl))) F ho) rfl sizeOf3 rfl rfl rfl (one_cons rfl one_nil) rfl) ?_))
   rintro _ w hm
   have hx1_4 := List.getElem?_set_self (a := ((⟨xs1_1.2, w64 (xs1_1.2 + 1), x1_1.blocks⟩ : Code_) : Code_)) (idx_lt hx1_3)
   refine gE (gS (gR (gM rfl (gB rfl (gA rfl (gE (gR (gM rfl (gM rfl ?_)))))))))
   obtain ⟨_, _, hc1_3, hr1_2⟩ := ro_get' (hm.ow_rep 0 rfl) hx1_4
   obtain ⟨_, _, rfl, rfl, _, _, rfl, rfl, h1_4⟩ := hr1_2
   obtain ⟨v1_3, rfl, -⟩ := id h1_4
   replace h1_4 : GT.rep (hp _) [v1_3] x1_1.blocks := h1_4
   replace hc1_3 : CellsAt (hp _) b1_1 (o1_1 + (i1_1).toNat * 3) [(nV xs1_1.2), (nV (w64 (xs1_1.2 + 1))), v1_3] := hc1_3
   have hL1_3 := rep_slice_len (hm.ow_rep 0 rfl)
   refine gI st_28 h1_1 (idx_lt2 hx1_4 hL1_3) rfl (gF fo_57_2 rfl (gY (yl isAgg55 (hc1_3.cell (j := 2) rfl) rfl) (gM rfl ?_)))
   replace hm : Mem w0 hz _ [ow [v1_3] x1_1.blocks, hole [(sV b1_1 o1_1 a_.length c0_1)] [v1_3] (fun (y : List Block_) => (((xs1_1.1.set (i1_1).toNat (⟨xs1_1.2, x1_1.regs, x1_1.blocks⟩ : Code_)).set (i1_1).toNat (⟨xs1_1.2, w64 (xs1_1.2 + 1), x1_1.blocks⟩ : Code_)) : List Code_).set (i1_1).toNat (⟨xs1_1.2, w64 (xs1_1.2 + 1), y⟩ : Code_))] := hm.open 0 rfl (foc_elem hx1_4 hc1_3 rfl (show FocH (α := Code_) _ _ (⟨xs1_1.2, w64 (xs1_1.2 + 1), x1_1.blocks⟩ : Code_) [v1_3] x1_1.blocks (fun y => (⟨xs1_1.2, w64 (xs1_1.2 + 1), y⟩ : Code_)) from (foc_snd (α := Int) (β := Int × (List Block_)) (cs := [(nV xs1_1.2)]) (ds := [(nV (w64 (xs1_1.2 + 1))), v1_3]) (v := [v1_3]) (inner := x1_1.blocks) (x := (w64 (xs1_1.2 + 1), x1_1.blocks)) (z := xs1_1.2) (put := fun (y : List Block_) => (w64 (xs1_1.2 + 1), y)) rfl (foc_snd (α := Int) (β := (List Block_)) (cs := [(nV (w64 (xs1_1.2 + 1)))]) (ds := [v1_3]) (v := [v1_3]) (inner := x1_1.blocks) (x := x1_1.blocks) (z := w64 (xs1_1.2 + 1)) (put := fun (y : List Block_) => y) rfl (foc_id [v1_3] x1_1.blocks)))))
   obtain ⟨hz1_1, hle, hm1, hsub, hk1_1⟩ := hm.take2 (L1 := [ow [v1_3] x1_1.blocks]) (L2 := [hole [(sV b1_1 o1_1 a_.length c0_1)] [v1_3] (fun (y : List Block_) => (((xs1_1.1.set (i1_1).toNat (⟨xs1_1.2, x1_1.regs, x1_1.blocks⟩ : Code_)).set (i1_1).toNat (⟨xs1_1.2, w64 (xs1_1.2 + 1), x1_1.blocks⟩ : Code_)) : List Code_).set (i1_1).toNat (⟨xs1_1.2, w64 (xs1_1.2 + 1), y⟩ : Code_))]) [0] [1] (by decide) rfl rfl
   refine gCg rfl call102 (laws_markBlockS_ok _ hz1_1 x1_1.blocks v1_3 (w64 ((w64 (xs1_1.2 + 1)) + 1)) hm1 ) ?_
   rintro r1_1 hx1_5 v1_4 w ⟨rfl, hB⟩
   replace hm := hk1_1 _ _ hB; clear hB
   replace hm := (hm.shut 1 0 (by decide) rfl rfl).pk (L' := [ow [(sV b1_1 o1_1 a_.length c0_1)] (((xs1_1.1.set (i1_1).toNat (⟨xs1_1.2, x1_1.regs, x1_1.blocks⟩ : Code_)).set (i1_1).toNat (⟨xs1_1.2, w64 (xs1_1.2 + 1), x1_1.blocks⟩ : Code_)).set (i1_1).toNat (⟨xs1_1.2, w64 (xs1_1.2 + 1), r1_1.2⟩ : Code_))]) [1] rfl rfl
   exact gA rfl (gE (gR (gM rfl (gP (by omega) (by omega) rfl (gA rfl (gE (gze hm [0] rfl)))))))
  repeat clear hm
  intro i0_1 xs0_1 w hm hi0_3 hi0_4
  refine gS (gS (gR (gM rfl (gM rfl ?_))))
  have hl0_2 := rep_len (hm.ow_rep 0 rfl)
  exact gY (yV st_28 rfl) (gB rfl (gE (go _ 9 rfl (decide_eq_false (by omega)) (gcf rfl (gXt (gHh (gS (gR (gM rfl (gA rfl (gE (gRt (gr1 results56 rfl ⟨rfl, hm.pk [0] rfl rfl⟩)))))))))))))

theorem laws_markUnit_ok (w0 : World) (hz : Heap) (a_ : Unit_) (v1 : Value) (k_ : Int) (hm0 : Mem w0 hz w0 [ow [v1] a_.codes]) :
    ConM Tryz.prog 20 [(.agg #[v1]), (nV k_)] w0 (laws_markUnit a_ k_) fun r v w' => v = (nV r.1) ∧ Mem w0 hz w' [ow [v1] r.2] := by
  unfold laws_markUnit
  refine gcon func20 rfl fun r => ?_
  have hm := hm0
  refine gS (gR (gBx hm rfl fun b0_1 w hm => gA rfl (gE (gS (gR (gF fo_30_0 rfl (gL hm 0 isAgg28 rfl (gM rfl ?_))))))))
  obtain ⟨hz0_1, hle, hm1, hsub, hk0_1⟩ := hm.take2 (L1 := [ow [v1] a_.codes]) (L2 := [blk b0_1 [v1] 30]) [1] [0] (by decide) rfl rfl
  refine gCg rfl call56 (laws_markCodeS_ok _ hz0_1 a_.codes v1 k_ hm1 ) ?_
  rintro r0_1 hx0_1 v0_1 w ⟨rfl, hB⟩
  replace hm := hk0_1 _ _ hB; clear hB
  exact gA rfl (gE (gS (gR (gM rfl (gA rfl (gE (gRt (gr1 results20 rfl ⟨rfl, hm.pk [0] rfl rfl⟩))))))))

theorem laws_heldIntS_ok (w0 : World) (a_ : List Int) (v1 : Value) (h1 : GT.rep (hp w0) [v1] a_) (k_ : Int) :
    ConM Tryz.prog 30 [v1, (nV k_)] w0 (laws_heldIntS a_ k_) fun r v w' => v = (nV r) ∧ Below w0.heap.size w0 w' := by
  unfold laws_heldIntS
  refine gcon func30 rfl fun r => ?_
  have hm := Mem.start w0
  refine gS (gR (gA rfl (gE (gS (gS (gR (gA rfl (gE (gBk (gNf hm (fun i1_1 xs1_1 => [(0, v1), (1, (nV xs1_1)), (5, (nV i1_1))]) (fun i1_1 xs1_1 => []) [] rfl ?_ ?_))))))))))
  ·
   repeat clear hm
   intro r0_1 hq0_1 i1_1 xs1_1 w hm hi0_1 hi0_2 q0_1 ho0_1
   refine gS (gS (gR (gM rfl (gM rfl ?_))))
   obtain ⟨p1_1, c1_1, rfl, hl1_1⟩ := ro_slice h1
   refine gY (yV st_37 rfl) (gB rfl (gE (go _ 9 rfl (decide_eq_true (by omega)) (gct rfl (gSk (gS (gBk (gS (gS (gR (gM rfl (gM rfl (gg fun x1_1 h1_1 hx1_2 => ?_)))))))))))))
   obtain ⟨b1_1, o1_1, c1_2, he⟩ := idx_form h1 hx1_2
   simp only [Value.slice.injEq, Option.some.injEq] at he; obtain ⟨rfl, _, rfl⟩ := he
   refine gI st_37 h1_1 (idx_lt hx1_2) rfl (gY (yl isAgg3 ((flat_cells (cs := [(nV x1_1)]) (hm.now h1) hx1_2 rfl).cell (j := 0) rfl) rfl) (gM rfl (gB rfl (gE (gsd 17 rfl (fun h1_2 => ?_) fun h1_2 => ?_)))))
   ·
    exact gct rfl (gS (gR (gA rfl (gE (gRt (gLr ho0_1 hq0_1 (gr1 results30 rfl ⟨rfl, hm.below⟩)))))))
   exact gcf rfl (gSk (gR (gM rfl (gB rfl (gA rfl (gE (gR (gM rfl (gP (by omega) (by omega) rfl (gA rfl (gE (gze hm [] rfl))))))))))))
  repeat clear hm
  intro i0_1 xs0_1 w hm hi0_3 hi0_4
  refine gS (gS (gR (gM rfl (gM rfl ?_))))
  obtain ⟨p0_1, c0_1, rfl, hl0_1⟩ := ro_slice h1
  exact gY (yV st_37 rfl) (gB rfl (gE (go _ 9 rfl (decide_eq_false (by omega)) (gcf rfl (gXt (gHh (gS (gR (gM rfl (gA rfl (gE (gRt (gr1 results30 rfl ⟨rfl, hm.below⟩)))))))))))))

theorem spec_l12List_ok (w0 : World) (set_ : List Bool) (v1 : Value) (h1 : GT.rep (hp w0) [v1] set_) :
    ConM Tryz.prog 87 [v1] w0 (spec_l12List set_) fun r v w' => ∃ (x1 : Value), v = x1 ∧ Mem w0 (hp w0) w' [ow [x1] r] := by
  unfold spec_l12List
  refine gcon func87 rfl fun r => ?_
  have hm := Mem.start w0
  refine gS (gR (gA rfl (gE (gS (gR (gf rfl (fun a hf => e_build0 (α := Int) et_37 hm rfl) ?_))))))
  rintro v0_1 w hm
  refine gA rfl (gE (gS (gS (gR (gA rfl (gE ?_))))))
  obtain ⟨p0_1, c0_1, rfl, hl0_1⟩ := ro_slice (hm.ow_rep 0 rfl)
  refine gBk (gNg (fun i1_1 xs1_1 a w => ∃ (v1_1 : Value), St 21 [(0, v1), (3, v1_1), (4, (nV i1_1))] w0 (hp w0) [ow [v1_1] xs1_1] a w) (fun a hf => ⟨(.slice p0_1 ([] : List Int).length c0_1), hf.sb rfl, hm.pk [0] rfl rfl⟩) ?_ ?_)
  ·
   repeat clear hm
   rintro _ _ i1_1 xs1_1 a w ⟨v1_1, hf, hm⟩ hi0_1 hi0_2 q0_1 _
   refine gv hf (gS (gS (gR (gM rfl (gM rfl ?_)))))
   obtain ⟨p1_1, c1_1, rfl, hl1_1⟩ := ro_slice h1
   refine gY (yV st_58 rfl) (gB rfl (gE (go _ 9 rfl (decide_eq_true (by omega)) (gct rfl (gSk (gS (gJg (fun s1_1 a w => ∃ (v1_2 : Value), St 21 [(0, (.slice p1_1 set_.length c1_1)), (3, v1_2), (4, (nV i1_1))] w0 (hp w0) [ow [v1_2] s1_1] a w) (fun s1_1 => ?_) ?_)))))))
   ·
    refine gBk (gS (gR (gM rfl (gM rfl (gg fun x2_1 h2_1 hx2_2 => ?_)))))
    obtain ⟨b2_1, o2_1, c2_1, he⟩ := idx_form h1 hx2_2
    simp only [Value.slice.injEq, Option.some.injEq] at he; obtain ⟨rfl, _, rfl⟩ := he
    refine gI st_58 h2_1 (idx_lt hx2_2) rfl (gY (yl isAgg4 ((flat_cells (cs := [(.bool (x2_1))]) (hm.now h1) hx2_2 rfl).cell (j := 0) rfl) rfl) (gE (gJg (fun s2_1 a w => ∃ (v2_1 : Value), St 21 [(0, (sV b2_1 o2_1 set_.length c1_1)), (3, v2_1), (4, (nV i1_1))] w0 (hp w0) [ow [v2_1] s2_1] a w) (fun s2_1 => ?_) ?_)))
    ·
     refine gs 15 rfl (fun h3_1 => ?_) fun h3_1 => ?_
     ·
      refine gct rfl (gR (gM rfl (gM rfl (gf rfl (fun a hf => e_build (vs := #[(0, (nV i1_1))]) (cs := [(nV i1_1)]) et_37 hf hm rfl rfl (by kernel_rfl) rfl rfl) ?_))))
      rintro _ w ⟨b3_1, rfl, hm⟩
      replace hm := hm.lit (xs := ([i1_1] : List Int)) 0 rfl rfl rfl rfl
      refine gb fun ys3_1 hx3_1 => ?_
      obtain ⟨h3_2, h3_2e⟩ := appM_some.1 hx3_1
      refine gf rfl (fun a hf => e_append 1 et_37 hf hm rfl (hm.ow_rep 0 rfl) rfl rfl rfl h3_2) ?_
      rintro v3_1 w hm
      rw [h3_2e] at hm
      exact gA rfl (gE (gZ fun a hf => ⟨v3_1, hf.sb rfl, hm.pk [1] rfl rfl⟩))
     exact gcf rfl (gSk (gZ fun a hf => ⟨v1_1, hf.sb rfl, hm.pk [0] rfl rfl⟩))
    repeat clear hm
    rintro s2_1 a w ⟨v2_1, hf, hm⟩
    exact gv hf (gZ fun a hf => ⟨v2_1, hf.sb rfl, hm.pk [0] rfl rfl⟩)
   repeat clear hm
   rintro s1_1 a w ⟨v1_2, hf, hm⟩
   exact gv hf (gR (gM rfl (gP (by omega) (by omega) rfl (gA rfl (gE (gZe fun a hf => ⟨v1_2, hf.sb rfl, hm.pk [0] rfl rfl⟩))))))
  repeat clear hm
  rintro i0_1 xs0_1 a w ⟨v0_2, hf, hm⟩ hi0_3 hi0_4
  refine gv hf (gS (gS (gR (gM rfl (gM rfl ?_)))))
  obtain ⟨p0_2, c0_2, rfl, hl0_2⟩ := ro_slice h1
  exact gY (yV st_58 rfl) (gB rfl (gE (go _ 9 rfl (decide_eq_false (by omega)) (gcf rfl (gXt (gHh (gS (gR (gM rfl (gA rfl (gE (gRt (gr1 results87 rfl ⟨v0_2, rfl, hm.pk [0] rfl rfl⟩)))))))))))))

theorem spec_KnownWays_ok (w0 : World) (u : Unit_) (v1 : Value) (h1 : GT.rep (hp w0) [v1] u.codes) (k_ : Int) :
    ConM Tryz.prog 46 [(.agg #[v1]), (nV k_)] w0 (spec_KnownWays u k_) fun r v w' => ∃ (x1 : Value), v = x1 ∧ Mem w0 (hp w0) w' [ow [x1] r] := by
  unfold spec_KnownWays
  refine gcon func46 rfl fun r => ?_
  have hm := Mem.start w0
  refine gS (gR (gBx hm rfl fun b0_1 w hm => gA rfl (gE (gS (gS (gR (gY (yn (hm.blk_at 0 rfl) isAgg30 sizeOf30 rfl) (gM rfl (gC hm rfl call85 (spec_l15Has_ok _ u v1 (hm.now h1) k_) fun r0_1 hx0_1 w hm => gN rfl (gE (gsn 8 rfl (fun h0_1 => ?_) fun h0_1 => ?_)))))))))))
  ·
   refine gct rfl (gS (gR (gf rfl (fun a hf => e_build0 (α := Int) et_37 hm rfl) ?_)))
   rintro v0_2 w hm
   exact gA rfl (gE (gRt (gr1 results46 rfl ⟨v0_2, rfl, hm.pk [0] rfl rfl⟩)))
  refine gcf rfl (gSk (gS (gR (gF fo_30_0 rfl (gL hm 0 isAgg28 rfl (gM rfl (gg fun x0_1 h0_2 hx0_3 => ?_)))))))
  obtain ⟨b0_2, o0_1, c0_1, he⟩ := idx_form' h1 hx0_3
  subst he
  obtain ⟨v0_3, hc0_1, h0_3⟩ := rk_Code_ h1 hx0_3
  refine gI st_28 h0_2 (idx_lt hx0_3) rfl (gY (yn (hc0_1.mono hm.lez) isAgg57 sizeOf57 rfl) (gCg rfl call81 (spec_l15Of_ok _ x0_1 v0_3 (hm.now h0_3)) ?_))
  rintro r0_2 hx0_4 v0_4 w ⟨b0_3, v0_5, v0_6, v0_7, rfl, hB⟩
  replace hm := hm.give hB; clear hB
  refine gY (yG rfl (y_nilptr rfl rfl)) (gF fo_84_1 rfl (gL hm 0 isAgg58 rfl (gCg rfl call87 (spec_l12List_ok _ r0_2.open_ v0_6 (hm.ow_rep 2 rfl)) ?_)))
  rintro r0_3 hx0_5 v0_8 w ⟨_, rfl, hB⟩
  replace hm := hm.give hB; clear hB
  exact gA rfl (gE (gRt (gr1 results46 rfl ⟨v0_8, rfl, hm.pk [0] rfl rfl⟩)))

theorem impl_KnownWays_ok (w0 : World) (u : Unit_) (v1 : Value) (h1 : GT.rep (hp w0) [v1] u.codes) (k_ : Int) :
    ConM Tryz.prog 47 [(.agg #[v1]), (nV k_)] w0 (impl_KnownWays u k_) fun r v w' => ∃ (x1 : Value), v = x1 ∧ Mem w0 (hp w0) w' [ow [x1] r] := by
  unfold impl_KnownWays
  refine gcon func47 rfl fun r => ?_
  have hm := Mem.start w0
  refine gS (gR (gBx hm rfl fun b0_1 w hm => gA rfl (gE (gS (gS (gR (gY (yn (hm.blk_at 0 rfl) isAgg30 sizeOf30 rfl) (gM rfl (gC hm rfl call86 (impl_singleAt_ok _ u v1 (hm.now h1) k_) fun r0_1 hx0_1 w hm => gN rfl (gE (gsn 11 rfl (fun h0_1 => ?_) fun h0_1 => ?_)))))))))))
  ·
   refine gct rfl (gS (gR (gA rfl (gE (gRt ?_)))))
   replace hm := hm.nilow (α := Int)
   exact gr1 results47 rfl ⟨(.slice none 0 0), rfl, hm.pk [0] rfl rfl⟩
  refine gcf rfl (gSk (gS (gR (gA rfl (gE (gS (gS (gR (gF fo_30_0 rfl (gL hm 0 isAgg28 rfl (gM rfl (gg fun x0_1 h0_2 hx0_3 => ?_))))))))))))
  obtain ⟨b0_2, o0_1, c0_1, he⟩ := idx_form' h1 hx0_3
  subst he
  obtain ⟨v0_2, hc0_1, h0_3⟩ := rk_Code_ h1 hx0_3
  refine gI st_28 h0_2 (idx_lt hx0_3) rfl (gY (yn (hc0_1.mono hm.lez) isAgg57 sizeOf57 rfl) (gCg rfl call84 (impl_knownOf_ok _ _ hm.lez x0_1 v0_2 h0_3 ) ?_))
  rintro r0_2 hx0_4 v0_3 w ⟨b0_3, v0_4, v0_5, v0_6, v0_7, hz0_1, rfl, hle0_1, h0_4, hB⟩
  replace hm := Mem.giveA hm hle0_1 hB; clear hB
  refine gY (yG rfl (y_nilptr rfl rfl)) (gF fo_90_2 rfl (gL hm 0 isAgg58 rfl ?_))
  obtain ⟨p0_1, c0_2, rfl, hl0_1⟩ := ro_slice (hm.ow_rep 2 rfl)
  refine gY (yV st_58 rfl) (gM rfl (gE (gBk ?_)))
  replace hm := hm.nilow (α := Int)
  refine gNg (fun i1_1 xs1_1 a w => ∃ (v1_1 : Value), St 34 [(5, v1_1), (20, (.slice p0_1 r0_2.open_.length c0_2)), (21, (nV ((r0_2.open_.length : Int)))), (22, (nV i1_1))] w0 hz0_1 [ow [v1_1] xs1_1, ow [(.slice p0_1 r0_2.open_.length c0_2)] r0_2.open_] a w) (fun a hf => ⟨(.slice none 0 0), hf.sb rfl, hm.pk [0, 3] rfl rfl⟩) ?_ ?_
  ·
   repeat clear hm
   rintro _ _ i1_1 xs1_1 a w ⟨v1_1, hf, hm⟩ hi0_1 hi0_2 q0_1 _
   refine gv hf (gS (gR (gB rfl (gE (gS (go _ 23 rfl (decide_eq_true (by omega)) (gct rfl (gSk (gS (gJg (fun s1_1 a w => ∃ (v1_2 : Value), St 34 [(5, v1_2), (20, (.slice p0_1 r0_2.open_.length c0_2)), (21, (nV ((r0_2.open_.length : Int)))), (22, (nV i1_1))] w0 hz0_1 [ow [v1_2] s1_1, ow [(.slice p0_1 r0_2.open_.length c0_2)] r0_2.open_] a w) (fun s1_1 => ?_) ?_))))))))))
   ·
    refine gBk (gS (gR (gM rfl (gg fun x2_1 h2_1 hx2_2 => ?_))))
    obtain ⟨b2_1, o2_1, c2_1, he⟩ := idx_form (hm.ow_rep 1 rfl) hx2_2
    simp only [Value.slice.injEq, Option.some.injEq] at he; obtain ⟨rfl, _, rfl⟩ := he
    refine gI st_58 h2_1 (idx_lt hx2_2) rfl (gY (yl isAgg4 ((flat_cells (cs := [(.bool (x2_1))]) (hm.ow_rep 1 rfl) hx2_2 rfl).cell (j := 0) rfl) rfl) (gA rfl (gA rfl (gE (gS (gR (gM rfl (gE (gJg (fun s2_1 a w => ∃ (v2_1 : Value), St 34 [(5, v2_1), (20, (sV b2_1 o2_1 r0_2.open_.length c0_2)), (21, (nV ((r0_2.open_.length : Int)))), (22, (nV i1_1))] w0 hz0_1 [ow [v2_1] s2_1, ow [(sV b2_1 o2_1 r0_2.open_.length c0_2)] r0_2.open_] a w) (fun s2_1 => ?_) ?_)))))))))
    ·
     refine gs 27 rfl (fun h3_1 => ?_) fun h3_1 => ?_
     ·
      refine gct rfl (gR (gM rfl (gM rfl (gf rfl (fun a hf => e_build (vs := #[(0, (nV i1_1))]) (cs := [(nV i1_1)]) et_37 hf hm rfl rfl (by kernel_rfl) rfl rfl) ?_))))
      rintro _ w ⟨b3_1, rfl, hm⟩
      replace hm := hm.lit (xs := ([i1_1] : List Int)) 0 rfl rfl rfl rfl
      refine gb fun ys3_1 hx3_1 => ?_
      obtain ⟨h3_2, h3_2e⟩ := appM_some.1 hx3_1
      refine gf rfl (fun a hf => e_append 1 et_37 hf hm rfl (hm.ow_rep 0 rfl) rfl rfl rfl h3_2) ?_
      rintro v3_1 w hm
      rw [h3_2e] at hm
      exact gA rfl (gE (gZ fun a hf => ⟨v3_1, hf.sb rfl, hm.pk [1, 2] rfl rfl⟩))
     exact gcf rfl (gSk (gZ fun a hf => ⟨v1_1, hf.sb rfl, hm.pk [0, 1] rfl rfl⟩))
    repeat clear hm
    rintro s2_1 a w ⟨v2_1, hf, hm⟩
    exact gv hf (gZ fun a hf => ⟨v2_1, hf.sb rfl, hm.pk [0, 1] rfl rfl⟩)
   repeat clear hm
   rintro s1_1 a w ⟨v1_2, hf, hm⟩
   exact gv hf (gR (gP (by omega) (by omega) rfl (gM rfl (gE (gZe fun a hf => ⟨v1_2, hf.sb rfl, hm.pk [0, 1] rfl rfl⟩)))))
  repeat clear hm
  rintro i0_1 xs0_1 a w ⟨v0_8, hf, hm⟩ hi0_3 hi0_4
  refine gv hf (gS (gR (gB rfl (gE (gS (go _ 23 rfl (decide_eq_false (by omega)) (gcf rfl (gXt (gHh (gS (gR (gM rfl (gA rfl (gE (gRt ?_)))))))))))))))
  replace hm := hm.thaw hle0_1
  exact gr1 results47 rfl ⟨v0_8, rfl, hm.pk [0] rfl rfl⟩

theorem laws_FnExactKnownWays_ok (w0 : World) (aU : Unit_) (v1 : Value) (h1 : GT.rep (hp w0) [v1] aU.codes) (aK : Int) :
    ConM Tryz.prog 13 [(.agg #[v1]), (nV aK)] w0 (laws_FnExactKnownWays aU aK) fun r v w' => v = (.bool (r)) ∧ Below w0.heap.size w0 w' := by
  unfold laws_FnExactKnownWays
  refine gcon func13 rfl fun r => ?_
  have hm := Mem.start w0
  refine gS (gR (gBx hm rfl fun b0_1 w hm => gA rfl (gE (gS (gR (gA rfl (gE (gS (gR (gY (yn (hm.blk_at 0 rfl) isAgg24 sizeOf24 rfl) (gM rfl (gC hm rfl call14 (laws_szUnit_ok _ aU v1 (hm.now h1) 1048576) fun r0_1 hx0_1 w hm => gA rfl (gE (gS (gS (gR (gM rfl (gB rfl (gE (gsd 17 rfl (fun h0_1 => ?_) fun h0_1 => ?_))))))))))))))))))))
  ·
   exact gct rfl (gS (gR (gA rfl (gE (gRt (gr1 results13 rfl ⟨rfl, hm.below⟩))))))
  refine gcf rfl (gSk (gS (gR (gY (yn (hm.blk_at 0 rfl) isAgg24 sizeOf24 rfl) (gCg rfl call16 (laws_toUnit_ok _ aU v1 (hm.now h1)) ?_)))))
  rintro r0_2 hx0_2 v0_2 w ⟨v0_3, rfl, hB⟩
  replace hm := hm.give hB; clear hB
  refine gM rfl (gCg rfl call46 (spec_KnownWays_ok _ r0_2 v0_3 (hm.ow_rep 0 rfl) aK) ?_)
  rintro r0_3 hx0_3 v0_4 w ⟨_, rfl, hB⟩
  replace hm := hm.give hB; clear hB
  refine gA rfl (gE (gS (gR (gY (yn (hm.blk_at 2 rfl) isAgg24 sizeOf24 rfl) (gCg rfl call16 (laws_toUnit_ok _ aU v1 (hm.now h1)) ?_)))))
  rintro r0_4 hx0_4 v0_6 w ⟨v0_7, rfl, hB⟩
  replace hm := hm.give hB; clear hB
  refine gAl hm zeroValue30 rfl fun b0_2 w hm => gSN hm 0 sizeOf30 (one_cons (rep_one (hm.ow_rep 1 rfl)) one_nil) rfl fun w hm => gE (gS (gR (gY (yn (hm.blk_at 0 rfl) isAgg30 sizeOf30 rfl) (gM rfl (gCg rfl call47 (impl_KnownWays_ok _ r0_4 v0_7 (hm.ow_rep 1 rfl) aK) ?_)))))
  rintro r0_5 hx0_5 v0_8 w ⟨_, rfl, hB⟩
  replace hm := hm.give hB; clear hB
  refine gA rfl (gE (gS (gS (gR (gM rfl (gM rfl (gC hm rfl call26 (laws_eqIntS_ok _ r0_5 v0_8 (hm.ow_rep 0 rfl) r0_3 v0_4 (hm.ow_rep 3 rfl)) fun r0_6 hx0_6 w hm => gN rfl (gE (gsn 30 rfl (fun h0_2 => ?_) fun h0_2 => ?_)))))))))
  ·
   exact gct rfl (gS (gR (gA rfl (gE (gRt (gr1 results13 rfl ⟨rfl, hm.below⟩))))))
  refine gcf rfl (gSk (gS (gS (gW (.q 0 (.e 1 (.e 2 (.e 3 (.p 4 .fin) .nil) .nil) .nil)) [1, 2] [4] hm [0, 1, 2, 3, 4, 5] [ow [v0_8] r0_5, blk b0_2 [v0_7] 30, ow [v0_7] r0_4.codes, ow [v0_4] r0_3, ow [v0_3] r0_2.codes, blk b0_1 [v1] 24] rfl mxo (by kernel_rfl) (fun _ _ _ h => h.2) fun w hm hS => tQ rfl hS (fun w hm => yn (hm.blk_at 1 rfl) isAgg30 sizeOf30 rfl) (tO (tY rfl (yn (hm.blk_at 5 rfl) isAgg24 sizeOf24 rfl) (tAs hS (tO (gb fun r0_7 hx0_7 => tf rfl rfl (fun a hf => e_call hf rfl call16 rfl (laws_toUnit_ok _ aU v1 (hm.now h1) _ hx0_7)) ?_)))))))))
  rintro v0_11 w ⟨v0_12, rfl, hB⟩
  replace hm := hm.give hB; clear hB
  refine tAk hm [1, 2, 3, 4, 5, 6] rfl fun hS => tO (gb fun r0_8 hx0_8 => tf rfl rfl (fun a hf => e_call hf rfl call19 rfl (laws_eqUnit_ok _ r0_4 v0_7 (hm.ow_rep 3 rfl) r0_7 v0_12 (hm.ow_rep 0 rfl) _ hx0_8)) ?_)
  rintro v0_13 w ⟨rfl, hB⟩
  replace hm := hm.below' hB; clear hB
  refine tAn rfl (tP rfl (fun w => yN rfl) (tE (gsn 35 rfl (fun h0_3 => ?_) fun h0_3 => ?_)))
  ·
   exact gct rfl (gS (gR (gA rfl (gE (gRt (gr1 results13 rfl ⟨rfl, hm.below⟩))))))
  refine gcf rfl (gSk (gS (gR (gA rfl (gE (gS (gR (gY (yn (hm.blk_at 2 rfl) isAgg30 sizeOf30 rfl) (gM rfl ?_)))))))))
  obtain ⟨hz0_6, hle, hm1, hsub, hk0_1⟩ := hm.take2 (L1 := [ow [v0_7] r0_4.codes]) (L2 := [ow [v0_12] r0_7.codes, ow [v0_8] r0_5, blk b0_2 [v0_7] 30, ow [v0_4] r0_3, ow [v0_3] r0_2.codes, blk b0_1 [v1] 24]) [3] [0, 1, 2, 4, 5, 6] (by decide) rfl rfl
  refine gCg rfl call20 (laws_markUnit_ok _ hz0_6 r0_4 v0_7 1 hm1 ) ?_
  rintro r0_9 hx0_9 v0_14 w ⟨rfl, hB⟩
  replace hm := hk0_1 _ _ hB; clear hB
  refine gA rfl (gE (gS (gS (gJ hm (fun s0_1 => [(1, (nV aK)), (2, (pV b0_1)), (6, v0_4), (8, v0_8), (46, (.bool (s0_1)))]) (fun s0_1 => [blk b0_1 [v1] 24, ow [v0_4] r0_3, ow [v0_8] r0_5]) (fun s0_1 => ?_) ?_))))
  ·
   refine gR (gM rfl (gB rfl (gM rfl (gsd 41 rfl (fun h1_1 => ?_) fun h1_1 => ?_))))
   ·
    exact gO rfl (gO rfl (gO rfl (gO rfl (gKt rfl (gE (gz hm [6, 4, 2] rfl))))))
   exact gM rfl (gM rfl (gC hm rfl call26 (laws_eqIntS_ok _ r0_5 v0_8 (hm.ow_rep 2 rfl) r0_3 v0_4 (hm.ow_rep 4 rfl)) fun r1_1 hx1_1 w hm => gN rfl (gKf rfl (gE (gz hm [6, 4, 2] rfl)))))
  repeat clear hm
  intro s0_1 w hm
  refine gs 46 rfl (fun h0_4 => ?_) fun h0_4 => ?_
  ·
   exact gct rfl (gS (gR (gA rfl (gE (gRt (gr1 results13 rfl ⟨rfl, hm.below⟩))))))
  refine gcf rfl (gSk (gS (gR (gA rfl (gE (gS (gR (gM rfl (gM rfl ?_)))))))))
  obtain ⟨hz0_8, hle, hm1, hsub, hk0_2⟩ := hm.take2 (L1 := [ow [v0_8] r0_5]) (L2 := [blk b0_1 [v1] 24, ow [v0_4] r0_3]) [2] [0, 1] (by decide) rfl rfl
  refine gCg rfl call29 (laws_markIntS_ok _ hz0_8 r0_5 v0_8 1 hm1 ) ?_
  rintro r0_10 hx0_10 v0_15 w ⟨rfl, hB⟩
  replace hm := hk0_2 _ _ hB; clear hB
  refine gA rfl (gE (gS (gR (gA rfl (gE (gS (gR (gM rfl (gM rfl (gC hm rfl call30 (laws_heldIntS_ok _ r0_10.2 v0_8 (hm.ow_rep 0 rfl) 1) fun r0_11 hx0_11 w hm => gA rfl (gE (gS (gS (gR (gM rfl (gB rfl (gE (gsd 54 rfl (fun h0_5 => ?_) fun h0_5 => ?_))))))))))))))))))
  ·
   exact gct rfl (gS (gR (gA rfl (gE (gRt (gr1 results13 rfl ⟨rfl, hm.below⟩))))))
  refine gcf rfl (gSk (gS (gS (gR (gM rfl (gM rfl (gB rfl (gE (gsd 57 rfl (fun h0_6 => ?_) fun h0_6 => ?_)))))))))
  ·
   exact gct rfl (gS (gR (gA rfl (gE (gRt (gr1 results13 rfl ⟨rfl, hm.below⟩))))))
  refine gcf rfl (gSk (gS (gR (gY (yn (hm.blk_at 1 rfl) isAgg24 sizeOf24 rfl) (gCg rfl call16 (laws_toUnit_ok _ aU v1 (hm.now h1)) ?_)))))
  rintro r0_12 hx0_12 v0_17 w ⟨v0_18, rfl, hB⟩
  replace hm := hm.give hB; clear hB
  refine gM rfl (gCg rfl call47 (impl_KnownWays_ok _ r0_12 v0_18 (hm.ow_rep 0 rfl) aK) ?_)
  rintro r0_13 hx0_13 v0_19 w ⟨_, rfl, hB⟩
  replace hm := hm.give hB; clear hB
  refine gA rfl (gE (gS (gS (gR (gM rfl (gM rfl (gC hm rfl call26 (laws_eqIntS_ok _ r0_13 v0_19 (hm.ow_rep 0 rfl) r0_3 v0_4 (hm.ow_rep 4 rfl)) fun r0_14 hx0_14 w hm => gN rfl (gE (gsn 65 rfl (fun h0_7 => ?_) fun h0_7 => ?_)))))))))
  ·
   exact gct rfl (gS (gR (gA rfl (gE (gRt (gr1 results13 rfl ⟨rfl, hm.below⟩))))))
  refine gcf rfl (gSk (gS (gR (gA rfl (gE (gS (gR (gM rfl (gM rfl (gC hm rfl call30 (laws_heldIntS_ok _ r0_10.2 v0_8 (hm.ow_rep 2 rfl) 1) fun r0_15 hx0_15 w hm => gA rfl (gE (gS (gS (gR (gM rfl (gB rfl (gE (gsd 70 rfl (fun h0_8 => ?_) fun h0_8 => ?_))))))))))))))))))
  ·
   exact gct rfl (gS (gR (gA rfl (gE (gRt (gr1 results13 rfl ⟨rfl, hm.below⟩))))))
  refine gcf rfl (gSk (gS (gS (gR (gM rfl (gM rfl (gB rfl (gE (gsd 73 rfl (fun h0_9 => ?_) fun h0_9 => ?_)))))))))
  ·
   exact gct rfl (gS (gR (gA rfl (gE (gRt (gr1 results13 rfl ⟨rfl, hm.below⟩))))))
  exact gcf rfl (gSk (gS (gR (gA rfl (gE (gRt (gr1 results13 rfl ⟨rfl, hm.below⟩)))))))

end Go.Proofs.YtpllkdbmgcmklaaGreat
