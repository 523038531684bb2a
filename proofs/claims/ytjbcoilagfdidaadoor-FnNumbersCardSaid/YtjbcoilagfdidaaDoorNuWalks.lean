/- A part of the proof of FnNumbersCardSaid. -/
import Derived.Test.YtjbcoilagfdidaaDoorNuWalksB
namespace Go.Proofs.YtjbcoilagfdidaaDoor
open Go Go.Wk Go.RowKit
set_option maxRecDepth 4000
set_option maxHeartbeats 4000000

open Tryd
theorem pimpl_running__code_all : (∀ (m : running) (k_ : Int) (in_ : List Int) (main : Bool) (r : (Int × running) ⊕ (Int × running)), pimpl_running__code m k_ in_ main = some r → ∀ (w0 : World) (hz : Heap) (bp0 : Nat) (v1p : Value) (h1p : GT.rep hz [v1p] m.u.codes) (v2p : Value) (v3p : Value) (v1 : Value) (h1 : GT.rep hz [v1] in_) (hm0 : Mem w0 hz w0 [blk bp0 (v1p :: (nV m.steps) :: (nV m.used) :: v2p :: q16 m.cells [v3p]) 80, ow [v2p] m.said, ow [v3p] m.trace]), ConX Tryd.prog 36 [(pV bp0), (nV k_), v1, (.bool (main))] w0 (fun v w' => ∃ q, r = .inl q ∧ (∃ (x2 : Value) (x3 : Value), v = (nV q.1) ∧ Mem w0 hz w' [blk bp0 (v1p :: (nV q.2.steps) :: (nV q.2.used) :: x2 :: q16 q.2.cells [x3]) 80, ow [x2] q.2.said, ow [x3] q.2.trace])) (fun c w' => ∃ q, r = .inr q ∧ (∃ (x2 : Value) (x3 : Value), c = pch 94 q.1 ∧ Mem w0 hz w' [blk bp0 (v1p :: (nV q.2.steps) :: (nV q.2.used) :: x2 :: q16 q.2.cells [x3]) 80, ow [x2] q.2.said, ow [x3] q.2.trace]))) ∧
    (∀ (m : running) (x_ : Ins_) (regs : List Int) (r : (running × (List Int)) ⊕ (Int × running × (List Int))), pimpl_running__doIns m x_ regs = some r → ∀ (w0 : World) (hz : Heap) (bp0 : Nat) (v1p : Value) (h1p : GT.rep hz [v1p] m.u.codes) (v2p : Value) (v3p : Value) (v1 : Value) (h1 : GT.rep hz [v1] x_.args) (v2 : Value) (hm0 : Mem w0 hz w0 [blk bp0 (v1p :: (nV m.steps) :: (nV m.used) :: v2p :: q16 m.cells [v3p]) 80, ow [v2p] m.said, ow [v3p] m.trace, ow [v2] regs]), ConX Tryd.prog 60 [(pV bp0), (.agg #[(nV x_.op), (nV x_.to), v1, (nV x_.n_)]), v2] w0 (fun v w' => ∃ q, r = .inl q ∧ (∃ (x2 : Value) (x3 : Value), v = (.tuple #[]) ∧ Mem w0 hz w' [blk bp0 (v1p :: (nV q.1.steps) :: (nV q.1.used) :: x2 :: q16 q.1.cells [x3]) 80, ow [x2] q.1.said, ow [x3] q.1.trace, ow [v2] q.2])) (fun c w' => ∃ q, r = .inr q ∧ (∃ (x2 : Value) (x3 : Value), c = pch 94 q.1 ∧ Mem w0 hz w' [blk bp0 (v1p :: (nV q.2.1.steps) :: (nV q.2.1.used) :: x2 :: q16 q.2.1.cells [x3]) 80, ow [x2] q.2.1.said, ow [x3] q.2.1.trace, ow [v2] q.2.2]))) := by
  refine pimpl_running__code.mutual_partial_correctness (motive_1 := fun m k_ in_ main r => ∀ (w0 : World) (hz : Heap) (bp0 : Nat) (v1p : Value) (h1p : GT.rep hz [v1p] m.u.codes) (v2p : Value) (v3p : Value) (v1 : Value) (h1 : GT.rep hz [v1] in_) (hm0 : Mem w0 hz w0 [blk bp0 (v1p :: (nV m.steps) :: (nV m.used) :: v2p :: q16 m.cells [v3p]) 80, ow [v2p] m.said, ow [v3p] m.trace]), ConX Tryd.prog 36 [(pV bp0), (nV k_), v1, (.bool (main))] w0 (fun v w' => ∃ q, r = .inl q ∧ (∃ (x2 : Value) (x3 : Value), v = (nV q.1) ∧ Mem w0 hz w' [blk bp0 (v1p :: (nV q.2.steps) :: (nV q.2.used) :: x2 :: q16 q.2.cells [x3]) 80, ow [x2] q.2.said, ow [x3] q.2.trace])) (fun c w' => ∃ q, r = .inr q ∧ (∃ (x2 : Value) (x3 : Value), c = pch 94 q.1 ∧ Mem w0 hz w' [blk bp0 (v1p :: (nV q.2.steps) :: (nV q.2.used) :: x2 :: q16 q.2.cells [x3]) 80, ow [x2] q.2.said, ow [x3] q.2.trace]))) (motive_2 := fun m x_ regs r => ∀ (w0 : World) (hz : Heap) (bp0 : Nat) (v1p : Value) (h1p : GT.rep hz [v1p] m.u.codes) (v2p : Value) (v3p : Value) (v1 : Value) (h1 : GT.rep hz [v1] x_.args) (v2 : Value) (hm0 : Mem w0 hz w0 [blk bp0 (v1p :: (nV m.steps) :: (nV m.used) :: v2p :: q16 m.cells [v3p]) 80, ow [v2p] m.said, ow [v3p] m.trace, ow [v2] regs]), ConX Tryd.prog 60 [(pV bp0), (.agg #[(nV x_.op), (nV x_.to), v1, (nV x_.n_)]), v2] w0 (fun v w' => ∃ q, r = .inl q ∧ (∃ (x2 : Value) (x3 : Value), v = (.tuple #[]) ∧ Mem w0 hz w' [blk bp0 (v1p :: (nV q.1.steps) :: (nV q.1.used) :: x2 :: q16 q.1.cells [x3]) 80, ow [x2] q.1.said, ow [x3] q.1.trace, ow [v2] q.2])) (fun c w' => ∃ q, r = .inr q ∧ (∃ (x2 : Value) (x3 : Value), c = pch 94 q.1 ∧ Mem w0 hz w' [blk bp0 (v1p :: (nV q.2.1.steps) :: (nV q.2.1.used) :: x2 :: q16 q.2.1.cells [x3]) 80, ow [x2] q.2.1.said, ow [x3] q.2.1.trace, ow [v2] q.2.2]))) ?_ ?_
  · intro rec_ ih_ m k_ in_ main r hq w0 hz bp0 v1p h1p v2p v3p v1 h1 hm0
    have pimpl_running__doIns_rec : ∀ (w0 : World) (hz : Heap) (m : running) (bp0 : Nat) (v1p : Value) (h1p : GT.rep hz [v1p] m.u.codes) (v2p : Value) (v3p : Value) (x_ : Ins_) (v1 : Value) (h1 : GT.rep hz [v1] x_.args) (regs : List Int) (v2 : Value) (hm0 : Mem w0 hz w0 [blk bp0 (v1p :: (nV m.steps) :: (nV m.used) :: v2p :: q16 m.cells [v3p]) 80, ow [v2p] m.said, ow [v3p] m.trace, ow [v2] regs]) (r : (running × (List Int)) ⊕ (Int × running × (List Int))) (hq : rec_ m x_ regs = some r), ConX Tryd.prog 60 [(pV bp0), (.agg #[(nV x_.op), (nV x_.to), v1, (nV x_.n_)]), v2] w0 (fun v w' => ∃ q, r = .inl q ∧ (∃ (x2 : Value) (x3 : Value), v = (.tuple #[]) ∧ Mem w0 hz w' [blk bp0 (v1p :: (nV q.1.steps) :: (nV q.1.used) :: x2 :: q16 q.1.cells [x3]) 80, ow [x2] q.1.said, ow [x3] q.1.trace, ow [v2] q.2])) (fun c w' => ∃ q, r = .inr q ∧ (∃ (x2 : Value) (x3 : Value), c = pch 94 q.1 ∧ Mem w0 hz w' [blk bp0 (v1p :: (nV q.2.1.steps) :: (nV q.2.1.used) :: x2 :: q16 q.2.1.cells [x3]) 80, ow [x2] q.2.1.said, ow [x3] q.2.1.trace, ow [v2] q.2.2])) := fun w0 hz m bp0 v1p h1p v2p v3p x_ v1 h1 regs v2 hm0 r hq => ih_ m x_ regs r hq w0 hz bp0 v1p h1p v2p v3p v1 h1 v2 hm0
    refine gconxr (ρ := (Int × running) ⊕ (Int × running)) (R := fun r v w' => ∃ q, r = .inl q ∧ (∃ (x2 : Value) (x3 : Value), v = (nV q.1) ∧ Mem w0 hz w' [blk bp0 (v1p :: (nV q.2.steps) :: (nV q.2.used) :: x2 :: q16 q.2.cells [x3]) 80, ow [x2] q.2.said, ow [x3] q.2.trace])) (X := fun r c w' => ∃ q, r = .inr q ∧ (∃ (x2 : Value) (x3 : Value), c = pch 94 q.1 ∧ Mem w0 hz w' [blk bp0 (v1p :: (nV q.2.steps) :: (nV q.2.used) :: x2 :: q16 q.2.cells [x3]) 80, ow [x2] q.2.said, ow [x3] q.2.trace])) func36 rfl hq ?_
    have hm := hm0
    refine gS (gR (gA rfl (gE (gS (gR (gM rfl (gY (yG rfl (y_nilptr rfl rfl)) (gF fo_80_0 rfl (gF fo_25_0 rfl (gL hm 0 isAgg23 rfl (gM rfl (gg fun x0_1 h0_1 hx0_2 => ?_))))))))))))
    obtain ⟨b0_1, o0_1, c0_1, he⟩ := idx_form' h1p hx0_2
    subst he
    obtain ⟨v0_1, hc0_1, h0_2⟩ := rk_Code_ h1p hx0_2
    refine gI st_23 h0_1 (idx_lt hx0_2) rfl (gY (yn (hc0_1.mono hm.lez) isAgg45 sizeOf45 rfl) (gAl hm zeroValue45 rfl fun b0_2 w hm => gSN hm 0 sizeOf45 (one_cons rfl (one_cons rfl (one_cons (rep_one h0_2) one_nil))) rfl fun w hm => gE (gS (gR (gF fo_45_1 rfl (gL hm 0 isAgg3 rfl (gb fun ys0_1 hx0_3 => ?_)))))))
    obtain ⟨⟨h0_31, h0_32⟩, h0_3e⟩ := makeM_some.1 hx0_3
    refine gf rfl (fun a hf => e_make (x0 := (0 : Int)) et_29 (fun _ => (Flat.own_iff.2 rfl)) hf hm rfl rfl rfl h0_31 (Int.le_refl _) h0_32) ?_
    rintro v0_2 w hm
    rw [h0_3e] at hm
    have h0_3l : (ys0_1.length : Int) = x0_1.regs := by rw [← h0_3e]; simp only [List.length_replicate]; omega
    refine gAl hm zeroValue29 rfl fun b0_3 w hm => gS1 hm 0 sizeOf29 (rep_one (hm.ow_rep 1 rfl)) rfl fun w hm => gE (gS (gR (gL hm 0 isAgg29 rfl (gM rfl (gf rfl (fun a hf => e_copy (α := Int) (xs := ys0_1) (ys := in_) (lo := 0) (hi := ys0_1.length) 1 st_29 (show 0 < 1 from by decide) hf hm rfl (hm.now h1) rfl (by rw [hm.subV_whole (α := Int) 1 rfl]; rfl) rfl (Nat.zero_le _) (Nat.le_refl _)) ?_)))))
    rintro _ w ⟨rfl, hm⟩
    refine gE (gS (gR (gA rfl (gA rfl (gE ?_)))))
    obtain ⟨p0_1, c0_2, rfl, hl0_1⟩ := ro_slice (hm.ow_rep 4 rfl)
    obtain ⟨p0_2, c0_3, rfl, hl0_2⟩ := ro_slice (hm.ow_rep 5 rfl)
    obtain ⟨p0_3, c0_4, rfl, hl0_3⟩ := ro_slice (hm.ow_rep 1 rfl)
    refine gBk (gMg (fun xs1_1 a w => ∃ (v1_1 : Value) (v1_2 : Value), St 128 [(0, (pV bp0)), (3, (.bool (main))), (9, (pV b0_2)), (10, (pV b0_3)), (11, (nV xs1_1.2.2.2.2.2.2.1)), (12, (nV xs1_1.2.2.2.2.2.2.2))] w0 hz [blk bp0 ((sV b0_1 o0_1 m.u.codes.length c0_1) :: (nV xs1_1.1) :: (nV xs1_1.2.1) :: v1_1 :: q16 xs1_1.2.2.2.1 [v1_2]) 80, ow [v1_1] xs1_1.2.2.1, ow [v1_2] xs1_1.2.2.2.2.1, blk b0_2 [(nV x0_1.params), (nV x0_1.regs), v0_1] 45, blk b0_3 [(.slice p0_3 (copyL ys0_1 in_ 0 ys0_1.length).length c0_4)] 29, ow [(.slice p0_3 (copyL ys0_1 in_ 0 ys0_1.length).length c0_4)] xs1_1.2.2.2.2.2.1] a w) (fun a hf => ⟨(.slice p0_1 m.said.length c0_2), (.slice p0_2 m.trace.length c0_3), hf.sb rfl, hm.pk [3, 4, 5, 2, 0, 1] rfl rfl⟩) ?_)
    repeat clear hm
    rintro r0_1 hq0_1 xs1_1 a w ⟨v1_1, v1_2, hf, hm⟩ q0_1 ho0_1
    refine gv hf (gBk (gS (gS (gR (gM rfl (gE (gJg (fun s1_1 a w => ∃ (v1_3 : Value), St 128 [(0, (pV bp0)), (3, (.bool (main))), (9, (pV b0_2)), (10, (pV b0_3)), (11, (nV xs1_1.2.2.2.2.2.2.1)), (12, (nV xs1_1.2.2.2.2.2.2.2))] w0 hz [blk bp0 ((sV b0_1 o0_1 m.u.codes.length c0_1) :: (nV xs1_1.1) :: (nV xs1_1.2.1) :: v1_1 :: q16 xs1_1.2.2.2.1 [v1_3]) 80, ow [v1_1] xs1_1.2.2.1, ow [v1_3] s1_1, blk b0_2 [(nV x0_1.params), (nV x0_1.regs), v0_1] 45, blk b0_3 [(.slice p0_3 (copyL ys0_1 in_ 0 ys0_1.length).length c0_4)] 29, ow [(.slice p0_3 (copyL ys0_1 in_ 0 ys0_1.length).length c0_4)] xs1_1.2.2.2.2.2.1] a w) (fun s1_1 => ?_) ?_)))))))
    ·
     refine gs 34 rfl (fun h2_1 => ?_) fun h2_1 => ?_
     ·
      refine gct rfl (gR (gM rfl (gM rfl (gY (yG rfl (y_nilptr rfl rfl)) (gF fo_80_5 rfl (gL hm 0 isAgg29 rfl (gM rfl (gf rfl (fun a hf => e_build (vs := #[(0, (nV xs1_1.2.2.2.2.2.2.1))]) (cs := [(nV xs1_1.2.2.2.2.2.2.1)]) et_29 hf hm rfl rfl (by kernel_rfl) rfl rfl) ?_))))))))
      rintro _ w ⟨b2_1, rfl, hm⟩
      replace hm := hm.lit (xs := ([xs1_1.2.2.2.2.2.2.1] : List Int)) 0 rfl rfl rfl rfl
      refine gb fun ys2_1 hx2_1 => ?_
      obtain ⟨h2_2, h2_2e⟩ := appM_some.1 hx2_1
      refine gf rfl (fun a hf => e_append 3 et_29 hf hm rfl (hm.ow_rep 0 rfl) rfl rfl rfl h2_2) ?_
      rintro v2_1 w hm
      rw [h2_2e] at hm
      exact gY (yG rfl (y_nilptr rfl rfl)) (gF fo_80_5 rfl (gS1 hm 1 sizeOf29 (rep_one (hm.ow_rep 3 rfl)) rfl fun w hm => gE (gZ fun a hf => ⟨v2_1, hf.sb rfl, hm.pk [1, 2, 3, 4, 5, 6] rfl rfl⟩)))
     exact gcf rfl (gSk (gZ fun a hf => ⟨v1_2, hf.sb rfl, hm.pk [0, 1, 2, 3, 4, 5] rfl rfl⟩))
    repeat clear hm
    rintro s1_1 a w ⟨v1_3, hf, hm⟩
    refine gv hf (gS (gR (gF fo_45_2 rfl (gL hm 3 isAgg43 rfl (gM rfl (gg fun x1_1 h1_1 hx1_2 => ?_))))))
    obtain ⟨b1_1, o1_1, c1_1, he⟩ := idx_form' h0_2 hx1_2
    subst he
    obtain ⟨v1_4, v1_5, v1_6, hc1_1, h1_2, h1_3, h1_4⟩ := rk_Block_ h0_2 hx1_2
    refine gI st_43 h1_1 (idx_lt hx1_2) rfl (gY (yn (hc1_1.mono hm.lez) isAgg65 sizeOf65 rfl) (gAl hm zeroValue65 rfl fun b1_2 w hm => gSN hm 0 sizeOf65 (one_cons (rep_one h1_2) (one_cons (rep_one h1_3) (one_cons rfl (one_cons rfl (one_cons (rep_one h1_4) one_nil))))) rfl fun w hm => gE (gS (gS (gJ hm (fun s1_2 => [(0, (pV bp0)), (3, (.bool (main))), (9, (pV b0_2)), (10, (pV b0_3)), (11, (nV xs1_1.2.2.2.2.2.2.1)), (12, (nV xs1_1.2.2.2.2.2.2.2)), (13, (pV b1_2)), (57, (.bool (s1_2)))]) (fun s1_2 => [blk bp0 ((sV b0_1 o0_1 m.u.codes.length c0_1) :: (nV xs1_1.1) :: (nV xs1_1.2.1) :: v1_1 :: q16 xs1_1.2.2.2.1 [v1_3]) 80, ow [v1_1] xs1_1.2.2.1, ow [v1_3] s1_1, blk b0_2 [(nV x0_1.params), (nV x0_1.regs), (sV b1_1 o1_1 x0_1.blocks.length c1_1)] 45, blk b0_3 [(.slice p0_3 (copyL ys0_1 in_ 0 ys0_1.length).length c0_4)] 29, ow [(.slice p0_3 (copyL ys0_1 in_ 0 ys0_1.length).length c0_4)] xs1_1.2.2.2.2.2.1, blk b1_2 [v1_4, v1_5, (nV x1_1.jump), (nV x1_1.on), v1_6] 65]) (fun s1_2 => ?_) ?_)))))
    ·
     refine gR (gM rfl (gB rfl (gM rfl (gsd 52 rfl (fun h2_3 => ?_) fun h2_3 => ?_))))
     ·
      refine gF fo_65_0 rfl (gL hm 0 isAgg62 rfl ?_)
      obtain ⟨p2_1, c2_1, rfl, hl2_1⟩ := ro_slice h1_2
      exact gY (yV st_62 rfl) (gB rfl (gKt rfl (gE (gz hm [1, 2, 3, 4, 5, 6, 0] rfl))))
     exact gO rfl (gO rfl (gO rfl (gO rfl (gKf rfl (gE (gz hm [1, 2, 3, 4, 5, 6, 0] rfl))))))
    repeat clear hm
    intro s1_2 w hm
    refine gJ hm (fun s1_3 => [(0, (pV bp0)), (3, (.bool (main))), (9, (pV b0_2)), (10, (pV b0_3)), (11, (nV xs1_1.2.2.2.2.2.2.1)), (13, (pV b1_2))]) (fun s1_3 => [blk bp0 ((sV b0_1 o0_1 m.u.codes.length c0_1) :: (nV xs1_1.1) :: (nV xs1_1.2.1) :: v1_1 :: q16 xs1_1.2.2.2.1 [v1_3]) 80, ow [v1_1] xs1_1.2.2.1, ow [v1_3] s1_1, blk b0_2 [(nV x0_1.params), (nV x0_1.regs), (sV b1_1 o1_1 x0_1.blocks.length c1_1)] 45, blk b0_3 [(.slice p0_3 (copyL ys0_1 in_ 0 ys0_1.length).length c0_4)] 29, ow [(.slice p0_3 (copyL ys0_1 in_ 0 ys0_1.length).length c0_4)] s1_3, blk b1_2 [v1_4, v1_5, (nV x1_1.jump), (nV x1_1.on), v1_6] 65]) (fun s1_3 => ?_) ?_
    ·
     refine gs 57 rfl (fun h2_4 => ?_) fun h2_4 => ?_
     ·
      refine gct rfl (gS (gR (gY (yn (hm.blk_at 3 rfl) isAgg45 sizeOf45 rfl) (gM rfl (gCg rfl call47 (impl_PredsOf_ok _ x0_1 (sV b1_1 o1_1 x0_1.blocks.length c1_1) (hm.now h0_2) xs1_1.2.2.2.2.2.2.1) ?_)))))
      rintro r2_1 hx2_2 v2_2 w ⟨_, rfl, hB⟩
      replace hm := hm.give hB; clear hB
      refine gM rfl (gC hm rfl call57 (slices_Index_S_int_int_ok _ r2_1 v2_2 (hm.ow_rep 0 rfl) xs1_1.2.2.2.2.2.2.2) fun r2_2 hx2_3 w hm => gAl hm zeroValue3 rfl fun b2_2 w hm => gS1 hm 0 sizeOf3 rfl rfl fun w hm => gE (gS (gR (gF fo_65_0 rfl (gL hm 8 isAgg62 rfl (gY (yU rfl) (gCg rfl call58 (impl_mapped_impl_Phi_int_ok _ x1_1.phis v1_4 (hm.now h1_2) (fun y0 => pimpl_running__code_1 y0 xs1_1.2.2.2.2.2.1 r2_2) (.func (.func 59) #[] #[(pV b0_3), (pV b2_2)]) (fun w y0 z0_0 z0_1 r hB hq => ⟨59, [(pV b0_3), (pV b2_2)], rfl, call59, pimpl_running__code_1_ok w y0 z0_0 z0_1 xs1_1.2.2.2.2.2.1 (.slice p0_3 (copyL ys0_1 in_ 0 ys0_1.length).length c0_4) (rep_later (hm.ow_rep 7 rfl) hB) b0_3 (hm.blk_later 6 rfl hB) r2_2 b2_2 (hm.blk_later 0 rfl hB) r hq⟩)) ?_)))))))
      rintro r2_3 hx2_4 v2_5 w ⟨_, rfl, hB⟩
      replace hm := hm.give hB; clear hB
      refine gA rfl (gE (gS (gR (gF fo_65_0 rfl (gL hm 9 isAgg62 rfl ?_)))))
      obtain ⟨p2_2, c2_2, rfl, hl2_2⟩ := ro_slice h1_2
      refine gY (yV st_62 rfl) (gM rfl (gE ?_))
      obtain ⟨p2_3, c2_3, rfl, hl2_3⟩ := ro_slice (hm.ow_rep 4 rfl)
      obtain ⟨p2_4, c2_4, rfl, hl2_4⟩ := ro_slice (hm.ow_rep 5 rfl)
      obtain ⟨p2_5, c2_5, rfl, hl2_5⟩ := ro_slice (hm.ow_rep 0 rfl)
      refine gBk (gNf hm (fun i3_1 xs3_1 => [(0, (pV bp0)), (3, (.bool (main))), (9, (pV b0_2)), (10, (pV b0_3)), (11, (nV xs1_1.2.2.2.2.2.2.1)), (13, (pV b1_2)), (15, (.slice p2_5 r2_3.length c2_5)), (68, (.slice p2_2 x1_1.phis.length c2_2)), (69, (nV ((x1_1.phis.length : Int)))), (70, (nV i3_1))]) (fun i3_1 xs3_1 => [blk bp0 ((sV b0_1 o0_1 m.u.codes.length c0_1) :: (nV xs1_1.1) :: (nV xs1_1.2.1) :: (.slice p2_3 xs1_1.2.2.1.length c2_3) :: q16 xs1_1.2.2.2.1 [(.slice p2_4 s1_1.length c2_4)]) 80, ow [(.slice p2_3 xs1_1.2.2.1.length c2_3)] xs1_1.2.2.1, ow [(.slice p2_4 s1_1.length c2_4)] s1_1, blk b0_2 [(nV x0_1.params), (nV x0_1.regs), (sV b1_1 o1_1 x0_1.blocks.length c1_1)] 45, blk b0_3 [(.slice p0_3 (copyL ys0_1 in_ 0 ys0_1.length).length c0_4)] 29, ow [(.slice p0_3 (copyL ys0_1 in_ 0 ys0_1.length).length c0_4)] xs3_1, blk b1_2 [(.slice p2_2 x1_1.phis.length c2_2), v1_5, (nV x1_1.jump), (nV x1_1.on), v1_6] 65, ow [(.slice p2_5 r2_3.length c2_5)] r2_3]) [3, 4, 5, 6, 7, 8, 9, 0] rfl ?_ ?_)
      ·
       repeat clear hm
       intro _ _ i3_1 xs3_1 w hm hi2_1 hi2_2 q2_1 _
       refine gS (gR (gB rfl (gE (gS (go _ 71 rfl (decide_eq_true (by omega)) (gct rfl (gSk (gS (gBk (gS (gR (gM rfl (gg fun x3_1 h3_1 hx3_2 => ?_)))))))))))))
       obtain ⟨b3_1, o3_1, c3_1, he⟩ := idx_form' h1_2 hx3_2
       simp only [Value.slice.injEq, Option.some.injEq] at he; obtain ⟨rfl, _, rfl⟩ := he
       obtain ⟨v3_1, hc3_1, h3_2⟩ := rk_Phi_ h1_2 hx3_2
       refine gI st_62 h3_1 (idx_lt hx3_2) rfl (gY (yn (hc3_1.mono hm.lez) isAgg70 sizeOf70 rfl) (gAl hm zeroValue70 rfl fun b3_2 w hm => gA rfl (gSN hm 0 sizeOf70 (one_cons rfl (one_cons (rep_one h3_2) one_nil)) rfl fun w hm => gE (gWx (.p 1 (.p 3 (.p 4 (.p 5 (.q 0 (.q 2 (.e 6 (.p 7 (.e 8 .fin .nil)) .nil))))))) [0, 2, 6] [1, 3, 4, 5, 7] hm [0, 1, 2, 3, 4, 5, 6, 7, 8] [blk b3_2 [(nV x3_1.to), v3_1] 70, blk bp0 ((sV b0_1 o0_1 m.u.codes.length c0_1) :: (nV xs1_1.1) :: (nV xs1_1.2.1) :: (.slice p2_3 xs1_1.2.2.1.length c2_3) :: q16 xs1_1.2.2.2.1 [(.slice p2_4 s1_1.length c2_4)]) 80, ow [(.slice p2_3 xs1_1.2.2.1.length c2_3)] xs1_1.2.2.1, ow [(.slice p2_4 s1_1.length c2_4)] s1_1, blk b0_2 [(nV x0_1.params), (nV x0_1.regs), (sV b1_1 o1_1 x0_1.blocks.length c1_1)] 45, blk b0_3 [(.slice p0_3 (copyL ys0_1 in_ 0 ys0_1.length).length c0_4)] 29, ow [(.slice p0_3 (copyL ys0_1 in_ 0 ys0_1.length).length c0_4)] xs3_1, blk b1_2 [(sV b3_1 o3_1 x1_1.phis.length c2_2), v1_5, (nV x1_1.jump), (nV x1_1.on), v1_6] 65, ow [(.slice p2_5 r2_3.length c2_5)] r2_3] rfl mxo (by kernel_rfl) (fun _ _ _ _ e h => ⟨e.symm.trans h.1, h.2⟩) fun w hm hS => tP rfl (fun w => yF fo_70_0 rfl) (tP rfl (fun w => yM rfl) (tP rfl (fun w => yM rfl) (gg fun x3_2 h3_3 hx3_4 => ?_)))))))
       obtain ⟨b3_3, o3_2, c3_2, he⟩ := idx_form (hm.ow_rep 8 rfl) hx3_4
       simp only [Value.slice.injEq, Option.some.injEq] at he; obtain ⟨rfl, _, rfl⟩ := he
       refine tP rfl (fun w => yI st_29 h3_3 (idx_lt hx3_4) rfl) (tQ rfl hS (fun w hm => yL hm 5 isAgg29 rfl) (tQ rfl hS (fun w hm => yL hm 0 isAgg3 rfl) (tO (tY rfl (yl isAgg3 ((flat_cells (cs := [(nV x3_2)]) (hm.ow_rep 8 rfl) hx3_4 rfl).cell (j := 0) rfl) rfl) (tAs hS (gg fun x3_3 h3_4 hx3_6 => ?_))))))
       obtain ⟨b3_4, o3_3, c3_3, he⟩ := idx_form (hm.ow_rep 6 rfl) hx3_6
       simp only [Value.slice.injEq, Option.some.injEq] at he; obtain ⟨rfl, _, rfl⟩ := he
       have hL3_1 := rep_slice_len (hm.ow_rep 6 rfl)
       refine tP rfl (fun w => yI st_29 h3_4 (idx_lt2 hx3_6 hL3_1) rfl) (tO (tf0 rfl rfl (fun a hf => e_setElem (x1 := x3_2) (j := 0) (vs := [(nV x3_2)]) 6 hf hm rfl hx3_6 rfl sizeOf3 rfl rfl rfl (one_cons rfl one_nil) rfl rfl) ?_))
       rintro _ w hm
       have hx3_7 := List.getElem?_set_self (a := x3_2) (idx_lt hx3_6)
       exact tAn rfl (tE (gR (gP (by omega) (by omega) rfl (gM rfl (gE (gze hm [1, 2, 3, 4, 5, 6, 7, 8] rfl))))))
      repeat clear hm
      intro i2_1 xs2_1 w hm hi2_3 hi2_4
      exact gS (gR (gB rfl (gE (gS (go _ 71 rfl (decide_eq_false (by omega)) (gcf rfl (gXt (gHh (gz hm [0, 1, 2, 3, 4, 5, 6] rfl)))))))))
     exact gcf rfl (gSk (gz hm [0, 1, 2, 3, 4, 5, 6] rfl))
    repeat clear hm
    intro s1_3 w hm
    refine gS (gS (gR (gF fo_65_1 rfl (gL hm 6 isAgg63 rfl ?_))))
    obtain ⟨p1_1, c1_2, rfl, hl1_1⟩ := ro_slice h1_3
    refine gY (yV st_63 rfl) (gM rfl (gE ?_))
    obtain ⟨p1_2, c1_3, rfl, hl1_2⟩ := ro_slice (hm.ow_rep 1 rfl)
    obtain ⟨p1_3, c1_4, rfl, hl1_3⟩ := ro_slice (hm.ow_rep 2 rfl)
    refine gBk (gNg (fun i2_2 xs2_2 a w => ∃ (v2_7 : Value) (v2_8 : Value), St 128 [(0, (pV bp0)), (3, (.bool (main))), (9, (pV b0_2)), (10, (pV b0_3)), (11, (nV xs1_1.2.2.2.2.2.2.1)), (13, (pV b1_2)), (85, (.slice p1_1 x1_1.ins.length c1_2)), (86, (nV ((x1_1.ins.length : Int)))), (87, (nV i2_2))] w0 hz [blk bp0 ((sV b0_1 o0_1 m.u.codes.length c0_1) :: (nV xs2_2.1) :: (nV xs2_2.2.1) :: v2_7 :: q16 xs2_2.2.2.2.1 [v2_8]) 80, ow [v2_7] xs2_2.2.2.1, ow [v2_8] xs2_2.2.2.2.2.1, blk b0_2 [(nV x0_1.params), (nV x0_1.regs), (sV b1_1 o1_1 x0_1.blocks.length c1_1)] 45, blk b0_3 [(.slice p0_3 (copyL ys0_1 in_ 0 ys0_1.length).length c0_4)] 29, ow [(.slice p0_3 (copyL ys0_1 in_ 0 ys0_1.length).length c0_4)] xs2_2.2.2.2.2.2, blk b1_2 [v1_4, (.slice p1_1 x1_1.ins.length c1_2), (nV x1_1.jump), (nV x1_1.on), v1_6] 65] a w) (fun a hf => ⟨(.slice p1_2 xs1_1.2.2.1.length c1_3), (.slice p1_3 s1_1.length c1_4), hf.sb rfl, hm.pk [0, 1, 2, 3, 4, 5, 6] rfl rfl⟩) ?_ ?_)
    ·
     repeat clear hm
     rintro r1_1 hq1_4 i2_2 xs2_2 a w ⟨v2_7, v2_8, hf, hm⟩ hi1_1 hi1_2 q1_1 ho1_1
     refine gv hf (gS (gR (gB rfl (gE (gS (go _ 88 rfl (decide_eq_true (by omega)) (gct rfl (gSk (gS (gBk (gS (gR (gg fun x2_1 h2_5 hx2_6 => ?_)))))))))))))
     obtain ⟨b2_3, o2_1, c2_6, he⟩ := idx_form' h1_3 hx2_6
     simp only [Value.slice.injEq, Option.some.injEq] at he; obtain ⟨rfl, _, rfl⟩ := he
     obtain ⟨v2_9, hc2_1, h2_6⟩ := rk_Ins_ h1_3 hx2_6
     refine gI st_63 h2_5 (idx_lt hx2_6) rfl (gY (yn (hc2_1.mono hm.lez) isAgg68 sizeOf68 rfl) (gAl hm zeroValue68 rfl fun b2_4 w hm => gSN hm 0 sizeOf68 (one_cons rfl (one_cons rfl (one_cons (rep_one h2_6) (one_cons rfl one_nil)))) rfl fun w hm => gE (gR (gM rfl (gY (yn (hm.blk_at 0 rfl) isAgg68 sizeOf68 rfl) (gL hm 5 isAgg29 rfl ?_))))))
     obtain ⟨hz2_3, hle, hm1, hsub, hk2_1⟩ := hm.take2 (L1 := [blk bp0 ((sV b0_1 o0_1 m.u.codes.length c0_1) :: (nV xs2_2.1) :: (nV xs2_2.2.1) :: v2_7 :: q16 xs2_2.2.2.2.1 [v2_8]) 80, ow [v2_7] xs2_2.2.2.1, ow [v2_8] xs2_2.2.2.2.2.1, ow [(.slice p0_3 (copyL ys0_1 in_ 0 ys0_1.length).length c0_4)] xs2_2.2.2.2.2.2]) (L2 := [blk b2_4 [(nV x2_1.op), (nV x2_1.to), v2_9, (nV x2_1.n_)] 68, blk b0_2 [(nV x0_1.params), (nV x0_1.regs), (sV b1_1 o1_1 x0_1.blocks.length c1_1)] 45, blk b0_3 [(.slice p0_3 (copyL ys0_1 in_ 0 ys0_1.length).length c0_4)] 29, blk b1_2 [v1_4, (sV b2_3 o2_1 x1_1.ins.length c1_2), (nV x1_1.jump), (nV x1_1.on), v1_6] 65]) [1, 2, 3, 6] [0, 4, 5, 7] (by decide) rfl rfl
     refine gb fun r2_5 hx2_7 => gfx rfl (fun a hf => e_callx hf rfl call60 rfl (pimpl_running__doIns_rec _ hz2_3 (⟨m.u, xs2_2.1, xs2_2.2.1, xs2_2.2.2.1, xs2_2.2.2.2.1, xs2_2.2.2.2.2.1⟩ : running) bp0 (sV b0_1 o0_1 m.u.codes.length c0_1) (GT.mono hle h1p) v2_7 v2_8 x2_1 v2_9 (GT.mono hle h2_6) xs2_2.2.2.2.2.2 (.slice p0_3 (copyL ys0_1 in_ 0 ys0_1.length).length c0_4) hm1  _ hx2_7)) ?_ ?_
     ·
      rintro c w ⟨q2_3, rfl, ho2_5⟩
      obtain ⟨v2_10, v2_11, rfl, hB⟩ := ho2_5
      replace hm := hk2_1 _ _ hB; clear hB
      exact gr (gLr ho1_1 hq1_4 (gLp ho0_1 hq0_1 (gth ⟨_, rfl, v2_10, v2_11, rfl, hm.pk [0, 1, 2] rfl rfl⟩)))
     rintro v2_12 w ⟨q2_2, rfl, ho2_5⟩
     obtain ⟨v2_13, v2_14, rfl, hB⟩ := ho2_5
     replace hm := hk2_1 _ _ hB; clear hB
     exact gl (gE (gR (gP (by omega) (by omega) rfl (gM rfl (gE (gZe fun a hf => ⟨v2_13, v2_14, hf.sb rfl, hm.pk [0, 1, 2, 5, 6, 3, 7] rfl rfl⟩))))))
    repeat clear hm
    rintro i1_2 xs1_2 a w ⟨v1_7, v1_8, hf, hm⟩ hi1_3 hi1_4
    refine gv hf (gS (gR (gB rfl (gE (gS (go _ 88 rfl (decide_eq_false (by omega)) (gcf rfl (gXt (gHh (gS (gR (gM rfl ?_))))))))))))
    obtain ⟨hz1_1, hle, hm1, hsub, hk1_1⟩ := hm.take2 (L1 := [blk bp0 ((sV b0_1 o0_1 m.u.codes.length c0_1) :: (nV xs1_2.1) :: (nV xs1_2.2.1) :: v1_7 :: q16 xs1_2.2.2.2.1 [v1_8]) 80, ow [v1_7] xs1_2.2.2.1, ow [v1_8] xs1_2.2.2.2.2.1]) (L2 := [blk b0_2 [(nV x0_1.params), (nV x0_1.regs), (sV b1_1 o1_1 x0_1.blocks.length c1_1)] 45, blk b0_3 [(.slice p0_3 (copyL ys0_1 in_ 0 ys0_1.length).length c0_4)] 29, ow [(.slice p0_3 (copyL ys0_1 in_ 0 ys0_1.length).length c0_4)] xs1_2.2.2.2.2.2, blk b1_2 [v1_4, (.slice p1_1 x1_1.ins.length c1_2), (nV x1_1.jump), (nV x1_1.on), v1_6] 65]) [0, 1, 2] [3, 4, 5, 6] (by decide) rfl rfl
    refine gb fun r1_2 hx1_3 => gfx rfl (fun a hf => e_callx hf rfl call61 rfl (pimpl_running__tick_ok _ hz1_1 (⟨m.u, xs1_2.1, xs1_2.2.1, xs1_2.2.2.1, xs1_2.2.2.2.1, xs1_2.2.2.2.2.1⟩ : running) bp0 (sV b0_1 o0_1 m.u.codes.length c0_1) (GT.mono hle h1p) v1_7 v1_8 hm1  _ hx1_3)) ?_ ?_
    ·
     rintro c w ⟨q1_3, rfl, ho1_2⟩
     obtain ⟨v1_9, v1_10, rfl, hB⟩ := ho1_2
     replace hm := hk1_1 _ _ hB; clear hB
     exact gr (gLp ho0_1 hq0_1 (gth ⟨_, rfl, v1_9, v1_10, rfl, hm.pk [0, 1, 2] rfl rfl⟩))
    rintro v1_11 w ⟨q1_2, rfl, ho1_2⟩
    obtain ⟨v1_12, v1_13, rfl, hB⟩ := ho1_2
    replace hm := hk1_1 _ _ hB; clear hB
    refine gl (gE (gS (gR (gM rfl (gA rfl (gE (gJe hm (fun s1_4 => [(0, (pV bp0)), (3, (.bool (main))), (9, (pV b0_2)), (10, (pV b0_3)), (11, (nV s1_4)), (12, (nV xs1_1.2.2.2.2.2.2.1))]) (fun s1_4 => [blk bp0 ((sV b0_1 o0_1 m.u.codes.length c0_1) :: (nV q1_2.steps) :: (nV q1_2.used) :: v1_12 :: q16 q1_2.cells [v1_13]) 80, ow [v1_12] q1_2.said, ow [v1_13] q1_2.trace, blk b0_2 [(nV x0_1.params), (nV x0_1.regs), (sV b1_1 o1_1 x0_1.blocks.length c1_1)] 45, blk b0_3 [(.slice p0_3 (copyL ys0_1 in_ 0 ys0_1.length).length c0_4)] 29, ow [(.slice p0_3 (copyL ys0_1 in_ 0 ys0_1.length).length c0_4)] xs1_2.2.2.2.2.2]) (fun c1_5 hq1_5 => ?_) ?_)))))))
    ·
     refine gBk (gS (gR (gF fo_65_2 rfl (gL hm 6 isAgg3 rfl (gB rfl (gA rfl (gE (gsd 103 rfl (fun h2_7 => ?_) fun h2_7 => ?_))))))))
     ·
      refine gct rfl (gS (gR (gL hm 4 isAgg29 rfl (gF fo_65_3 rfl (gL hm 6 isAgg3 rfl (gg fun x2_2 h2_8 hx2_9 => ?_))))))
      obtain ⟨b2_5, o2_2, c2_7, he⟩ := idx_form (hm.ow_rep 5 rfl) hx2_9
      simp only [Value.slice.injEq, Option.some.injEq] at he; obtain ⟨rfl, _, rfl⟩ := he
      have hL2_1 := rep_slice_len (hm.ow_rep 5 rfl)
      exact gI st_29 h2_8 (idx_lt2 hx2_9 hL2_1) rfl (gY (yl isAgg3 ((flat_cells (cs := [(nV x2_2)]) (hm.ow_rep 5 rfl) hx2_9 rfl).cell (j := 0) rfl) rfl) (gA rfl (gE (gRt (gEr hq1_5 (gLp ho0_1 hq0_1 (gx (gr1 results36 rfl ⟨_, rfl, ⟨v1_12, v1_13, rfl, hm.pk [0, 1, 2] rfl rfl⟩⟩))))))))
     refine gcf rfl (gS (gJ hm (fun s2_1 => [(0, (pV bp0)), (3, (.bool (main))), (9, (pV b0_2)), (10, (pV b0_3)), (12, (nV xs1_1.2.2.2.2.2.2.1)), (13, (pV b1_2)), (112, (.bool (s2_1)))]) (fun s2_1 => [blk bp0 ((sV b0_1 o0_1 m.u.codes.length c0_1) :: (nV q1_2.steps) :: (nV q1_2.used) :: v1_12 :: q16 q1_2.cells [v1_13]) 80, ow [v1_12] q1_2.said, ow [v1_13] q1_2.trace, blk b0_2 [(nV x0_1.params), (nV x0_1.regs), (sV b1_1 o1_1 x0_1.blocks.length c1_1)] 45, blk b0_3 [(.slice p0_3 (copyL ys0_1 in_ 0 ys0_1.length).length c0_4)] 29, ow [(.slice p0_3 (copyL ys0_1 in_ 0 ys0_1.length).length c0_4)] xs1_2.2.2.2.2.2, blk b1_2 [v1_4, (.slice p1_1 x1_1.ins.length c1_2), (nV x1_1.jump), (nV x1_1.on), v1_6] 65]) (fun s2_1 => ?_) ?_))
     ·
      refine gR (gF fo_65_2 rfl (gL hm 6 isAgg3 rfl (gB rfl (gM rfl (gsd 116 rfl (fun h3_5 => ?_) fun h3_5 => ?_)))))
      ·
       refine gL hm 4 isAgg29 rfl (gF fo_65_3 rfl (gL hm 6 isAgg3 rfl (gg fun x3_4 h3_6 hx3_9 => ?_)))
       obtain ⟨b3_5, o3_4, c3_4, he⟩ := idx_form (hm.ow_rep 5 rfl) hx3_9
       simp only [Value.slice.injEq, Option.some.injEq] at he; obtain ⟨rfl, _, rfl⟩ := he
       have hL3_2 := rep_slice_len (hm.ow_rep 5 rfl)
       exact gI st_29 h3_6 (idx_lt2 hx3_9 hL3_2) rfl (gY (yl isAgg3 ((flat_cells (cs := [(nV x3_4)]) (hm.ow_rep 5 rfl) hx3_9 rfl).cell (j := 0) rfl) rfl) (gB rfl (gKt rfl (gA rfl (gE (gz hm [0, 1, 2, 3, 4, 5, 6] rfl))))))
      exact gO rfl (gO rfl (gO rfl (gO rfl (gO rfl (gO rfl (gKf rfl (gA rfl (gE (gz hm [0, 1, 2, 3, 4, 5, 6] rfl)))))))))
     repeat clear hm
     intro s2_1 w hm
     refine gJ hm (fun s2_2 => [(0, (pV bp0)), (3, (.bool (main))), (9, (pV b0_2)), (10, (pV b0_3)), (11, (nV s2_2)), (12, (nV xs1_1.2.2.2.2.2.2.1))]) (fun s2_2 => [blk bp0 ((sV b0_1 o0_1 m.u.codes.length c0_1) :: (nV q1_2.steps) :: (nV q1_2.used) :: v1_12 :: q16 q1_2.cells [v1_13]) 80, ow [v1_12] q1_2.said, ow [v1_13] q1_2.trace, blk b0_2 [(nV x0_1.params), (nV x0_1.regs), (sV b1_1 o1_1 x0_1.blocks.length c1_1)] 45, blk b0_3 [(.slice p0_3 (copyL ys0_1 in_ 0 ys0_1.length).length c0_4)] 29, ow [(.slice p0_3 (copyL ys0_1 in_ 0 ys0_1.length).length c0_4)] xs1_2.2.2.2.2.2]) (fun s2_2 => ?_) ?_
     ·
      refine gs 112 rfl (fun h3_7 => ?_) fun h3_7 => ?_
      ·
       refine gct rfl (gR (gF fo_65_4 rfl (gL hm 6 isAgg29 rfl (gg fun x3_5 h3_8 hx3_11 => ?_))))
       obtain ⟨b3_6, o3_5, c3_5, he⟩ := idx_form h1_4 hx3_11
       subst he
       exact gI st_29 h3_8 (idx_lt hx3_11) rfl (gY (yl isAgg3 ((flat_cells (cs := [(nV x3_5)]) (hm.now h1_4) hx3_11 rfl).cell (j := 0) rfl) rfl) (gA rfl (gE (gz hm [0, 1, 2, 3, 4, 5] rfl))))
      refine gcf rfl (gR (gF fo_65_4 rfl (gL hm 6 isAgg29 rfl (gg fun x3_6 h3_9 hx3_13 => ?_))))
      obtain ⟨b3_7, o3_6, c3_6, he⟩ := idx_form h1_4 hx3_13
      subst he
      exact gI st_29 h3_9 (idx_lt hx3_13) rfl (gY (yl isAgg3 ((flat_cells (cs := [(nV x3_6)]) (hm.now h1_4) hx3_13 rfl).cell (j := 0) rfl) rfl) (gA rfl (gE (gz hm [0, 1, 2, 3, 4, 5] rfl))))
     repeat clear hm
     intro s2_2 w hm
     exact gze hm [0, 1, 2, 3, 4, 5] rfl
    repeat clear hm
    intro s1_4 w hm
    exact gZe fun a hf => ⟨v1_12, v1_13, hf.sb rfl, hm.pk [0, 1, 2, 3, 4, 5] rfl rfl⟩
  · intro rec_ ih_ m x_ regs r hq w0 hz bp0 v1p h1p v2p v3p v1 h1 v2 hm0
    have pimpl_running__code_rec : ∀ (w0 : World) (hz : Heap) (m : running) (bp0 : Nat) (v1p : Value) (h1p : GT.rep hz [v1p] m.u.codes) (v2p : Value) (v3p : Value) (k_ : Int) (in_ : List Int) (v1 : Value) (h1 : GT.rep hz [v1] in_) (main : Bool) (hm0 : Mem w0 hz w0 [blk bp0 (v1p :: (nV m.steps) :: (nV m.used) :: v2p :: q16 m.cells [v3p]) 80, ow [v2p] m.said, ow [v3p] m.trace]) (r : (Int × running) ⊕ (Int × running)) (hq : rec_ m k_ in_ main = some r), ConX Tryd.prog 36 [(pV bp0), (nV k_), v1, (.bool (main))] w0 (fun v w' => ∃ q, r = .inl q ∧ (∃ (x2 : Value) (x3 : Value), v = (nV q.1) ∧ Mem w0 hz w' [blk bp0 (v1p :: (nV q.2.steps) :: (nV q.2.used) :: x2 :: q16 q.2.cells [x3]) 80, ow [x2] q.2.said, ow [x3] q.2.trace])) (fun c w' => ∃ q, r = .inr q ∧ (∃ (x2 : Value) (x3 : Value), c = pch 94 q.1 ∧ Mem w0 hz w' [blk bp0 (v1p :: (nV q.2.steps) :: (nV q.2.used) :: x2 :: q16 q.2.cells [x3]) 80, ow [x2] q.2.said, ow [x3] q.2.trace])) := fun w0 hz m bp0 v1p h1p v2p v3p k_ in_ v1 h1 main hm0 r hq => ih_ m k_ in_ main r hq w0 hz bp0 v1p h1p v2p v3p v1 h1 hm0
    refine gconxr (ρ := (running × (List Int)) ⊕ (Int × running × (List Int))) (R := fun r v w' => ∃ q, r = .inl q ∧ (∃ (x2 : Value) (x3 : Value), v = (.tuple #[]) ∧ Mem w0 hz w' [blk bp0 (v1p :: (nV q.1.steps) :: (nV q.1.used) :: x2 :: q16 q.1.cells [x3]) 80, ow [x2] q.1.said, ow [x3] q.1.trace, ow [v2] q.2])) (X := fun r c w' => ∃ q, r = .inr q ∧ (∃ (x2 : Value) (x3 : Value), c = pch 94 q.1 ∧ Mem w0 hz w' [blk bp0 (v1p :: (nV q.2.1.steps) :: (nV q.2.1.used) :: x2 :: q16 q.2.1.cells [x3]) 80, ow [x2] q.2.1.said, ow [x3] q.2.1.trace, ow [v2] q.2.2])) func60 rfl hq ?_
    have hm := hm0
    refine gS (gR (gBx hm rfl fun b0_1 w hm => ?_))
    obtain ⟨p0_1, c0_1, rfl, hl0_1⟩ := ro_slice (hm.ow_rep 4 rfl)
    refine gBx hm rfl fun b0_2 w hm => gE (gS (gR (gM rfl ?_)))
    obtain ⟨hz0_1, hle, hm1, hsub, hk0_1⟩ := hm.take2 (L1 := [blk bp0 (v1p :: (nV m.steps) :: (nV m.used) :: v2p :: q16 m.cells [v3p]) 80, ow [v2p] m.said, ow [v3p] m.trace]) (L2 := [blk b0_2 [(.slice p0_1 regs.length c0_1)] 29, blk b0_1 [(nV x_.op), (nV x_.to), v1, (nV x_.n_)] 68, ow [(.slice p0_1 regs.length c0_1)] regs]) [2, 3, 4] [0, 1, 5] (by decide) rfl rfl
    refine gb fun r0_1 hx0_1 => gfx rfl (fun a hf => e_callx hf rfl call61 rfl (pimpl_running__tick_ok _ hz0_1 m bp0 v1p (GT.mono hle h1p) v2p v3p hm1  _ hx0_1)) ?_ ?_
    ·
     rintro c w ⟨q0_2, rfl, ho0_1⟩
     obtain ⟨v0_1, v0_2, rfl, hB⟩ := ho0_1
     replace hm := hk0_1 _ _ hB; clear hB
     exact gr (gth ⟨_, rfl, v0_1, v0_2, rfl, hm.pk [0, 1, 2, 5] rfl rfl⟩)
    rintro v0_3 w ⟨q0_1, rfl, ho0_1⟩
    obtain ⟨v0_4, v0_5, rfl, hB⟩ := ho0_1
    replace hm := hk0_1 _ _ hB; clear hB
    refine gl (gE (gS (gR (gY (yU rfl) (gA rfl (gE (gS (gR (gF fo_68_0 rfl (gL hm 4 isAgg3 rfl (gE (gJge (fun s0_1 a w => ∃ (v0_6 : Value) (v0_7 : Value), St 120 [] w0 hz [blk bp0 (v1p :: (nV s0_1.1) :: (nV s0_1.2.1) :: v0_6 :: q16 s0_1.2.2.2.1 [v0_7]) 80, ow [v0_6] s0_1.2.2.1, ow [v0_7] s0_1.2.2.2.2.1, ow [(.slice p0_1 regs.length c0_1)] s0_1.2.2.2.2.2] a w) (fun c0_2 hq0_1 => ?_) ?_))))))))))))
    ·
     refine gBk (gS (gR (gB rfl (gA rfl (gE (gJge (fun s1_1 a w => ∃ (v1_1 : Value) (v1_2 : Value), St 120 [] w0 hz [blk bp0 (v1p :: (nV s1_1.1) :: (nV s1_1.2.1) :: v1_1 :: q16 s1_1.2.2.2.1 [v1_2]) 80, ow [v1_1] s1_1.2.2.1, ow [v1_2] s1_1.2.2.2.2.1, ow [(.slice p0_1 regs.length c0_1)] s1_1.2.2.2.2.2] a w) (fun c1_1 hq1_1 => ?_) ?_))))))
     ·
      refine gsd 34 rfl (fun h2_1 => ?_) fun h2_1 => ?_
      ·
       refine gct rfl (gR (gL hm 3 isAgg29 rfl (gF fo_68_1 rfl (gL hm 4 isAgg3 rfl (gF fo_68_3 rfl (gL hm 4 isAgg3 rfl (gg fun x2_1 h2_2 hx2_2 => ?_)))))))
       obtain ⟨b2_1, o2_1, c2_1, he⟩ := idx_form (hm.ow_rep 5 rfl) hx2_2
       simp only [Value.slice.injEq, Option.some.injEq] at he; obtain ⟨rfl, _, rfl⟩ := he
       refine gI st_29 h2_2 (idx_lt hx2_2) rfl (gf0 rfl (fun a hf => e_setElem (x1 := x_.n_) (j := 0) (vs := [(nV x_.n_)]) 5 hf hm rfl hx2_2 rfl sizeOf3 rfl rfl rfl (one_cons rfl one_nil) rfl rfl) ?_)
       rintro _ w hm
       have hx2_3 := List.getElem?_set_self (a := x_.n_) (idx_lt hx2_2)
       exact gE (gZe fun a hf => ⟨v0_4, v0_5, hf.sb rfl, hm.pk [0, 1, 2, 5] rfl rfl⟩)
      refine gcf rfl (gS (gR (gB rfl (gA rfl (gE (gJge (fun s2_1 a w => ∃ (v2_1 : Value) (v2_2 : Value), St 120 [] w0 hz [blk bp0 (v1p :: (nV s2_1.1) :: (nV s2_1.2.1) :: v2_1 :: q16 s2_1.2.2.2.1 [v2_2]) 80, ow [v2_1] s2_1.2.2.1, ow [v2_2] s2_1.2.2.2.2.1, ow [(.slice p0_1 regs.length c0_1)] s2_1.2.2.2.2.2] a w) (fun c2_2 hq2_1 => ?_) ?_))))))
      ·
       refine gsd 42 rfl (fun h3_1 => ?_) fun h3_1 => ?_
       ·
        refine gct rfl (gWx (.p 1 (.p 3 (.p 4 (.q 0 (.q 2 (.e 5 (.e 6 (.p 7 (.e 8 (.p 9 (.e 10 .fin .nil)) .nil)) .nil) .nil)))))) [0, 2, 5, 6, 8] [1, 3, 4, 7, 9] hm [0, 1, 2, 3, 4, 5] [blk bp0 (v1p :: (nV q0_1.steps) :: (nV q0_1.used) :: v0_4 :: q16 q0_1.cells [v0_5]) 80, ow [v0_4] q0_1.said, ow [v0_5] q0_1.trace, blk b0_2 [(.slice p0_1 regs.length c0_1)] 29, blk b0_1 [(nV x_.op), (nV x_.to), v1, (nV x_.n_)] 68, ow [(.slice p0_1 regs.length c0_1)] regs] rfl mxo (by kernel_rfl) (fun _ _ _ _ e h => ⟨e.symm.trans h.1, h.2⟩) fun w hm hS => tP rfl (fun w => yF fo_68_1 rfl) (tP rfl (fun w => yM rfl) (tP rfl (fun w => yM rfl) (tQ rfl hS (fun w hm => yL hm 3 isAgg29 rfl) (tQ rfl hS (fun w hm => yL hm 4 isAgg3 rfl) (tO (gb fun r3_1 hx3_1 => tf rfl rfl (fun a hf => e_callv hf rfl rfl rfl ⟨78, [(pV b0_2), (pV b0_1)], rfl, call78, pimpl_running__doIns_1_ok _ 0 regs (.slice p0_1 regs.length c0_1) (rep_later (hm.ow_rep 5 rfl) (Below.refl _ _)) b0_2 (hm.blk_later 3 rfl (Below.refl _ _)) x_ v1 (rep_later (hm.now h1) (Below.refl _ _)) b0_1 (hm.blk_later 4 rfl (Below.refl _ _)) _ hx3_1⟩) ?_)))))))
        rintro v3_1 w ⟨rfl, hB⟩
        replace hm := hm.below' hB; clear hB
        refine tAk hm [0, 1, 2, 3, 4, 5] rfl fun hS => tO (gb fun r3_2 hx3_2 => tfx rfl rfl (fun a hf => e_callx hf rfl call79 rfl (pimpl_running__cell_ok _ (⟨m.u, q0_1.steps, q0_1.used, q0_1.said, q0_1.cells, q0_1.trace⟩ : running) bp0 v1p (hm.now h1p) v0_4 (hm.ow_rep 1 rfl) v0_5 (hm.ow_rep 2 rfl) (hm.blk_cells 0 rfl).1 r3_1 _ hx3_2)) ?_ ?_)
        ·
         rintro c w ⟨q3_2, rfl, ho3_2⟩
         obtain ⟨rfl, hB⟩ := ho3_2
         replace hm := hm.below' hB; clear hB
         exact gr (gEr hq2_1 (gEr hq1_1 (gEr hq0_1 (gth ⟨_, rfl, v0_4, v0_5, rfl, hm.pk [0, 1, 2, 5] rfl rfl⟩))))
        rintro v3_2 w ⟨q3_1, rfl, ho3_2⟩
        obtain ⟨rfl, ⟨h3_2, h3_3⟩, hB⟩ := ho3_2
        replace hm := hm.below' hB; clear hB
        refine gl (tAk hm [0, 1, 2, 3, 4, 5] rfl fun hS => tP rfl (fun w => yG rfl (y_nilptr rfl rfl)) (tO (tY rfl (yl isAgg3 (hm.arr_cell (pre := [v1p, (nV q0_1.steps), (nV q0_1.used), v0_4]) (post := [v0_5]) (arr := q0_1.cells) (n := 16) 0 rfl h3_3) rfl) (tAs hS (gg fun x3_1 h3_4 hx3_4 => ?_)))))
        obtain ⟨b3_1, o3_1, c3_1, he⟩ := idx_form (hm.ow_rep 5 rfl) hx3_4
        simp only [Value.slice.injEq, Option.some.injEq] at he; obtain ⟨rfl, _, rfl⟩ := he
        refine tP rfl (fun w => yI st_29 h3_4 (idx_lt hx3_4) rfl) (tO (tf0 rfl rfl (fun a hf => e_setElem (x1 := (q0_1.cells.getD (q3_1).toNat 0)) (j := 0) (vs := [(nV ((q0_1.cells.getD (q3_1).toNat 0)))]) 5 hf hm rfl hx3_4 rfl sizeOf3 rfl rfl rfl (one_cons rfl one_nil) rfl rfl) ?_))
        rintro _ w hm
        have hx3_5 := List.getElem?_set_self (a := (q0_1.cells.getD (q3_1).toNat 0)) (idx_lt hx3_4)
        exact tAn rfl (tE (gZe fun a hf => ⟨v0_4, v0_5, hf.sb rfl, hm.pk [0, 1, 2, 5] rfl rfl⟩))
       refine gcf rfl (gS (gR (gB rfl (gA rfl (gE (gJge (fun s3_1 a w => ∃ (v3_3 : Value) (v3_4 : Value), St 120 [] w0 hz [blk bp0 (v1p :: (nV s3_1.1) :: (nV s3_1.2.1) :: v3_3 :: q16 s3_1.2.2.2.1 [v3_4]) 80, ow [v3_3] s3_1.2.2.1, ow [v3_4] s3_1.2.2.2.2.1, ow [(.slice p0_1 regs.length c0_1)] s3_1.2.2.2.2.2] a w) (fun c3_2 hq3_1 => ?_) ?_))))))
       ·
        refine gsd 54 rfl (fun h4_1 => ?_) fun h4_1 => ?_
        ·
         refine gct rfl (gR (gM rfl (gM rfl (gb fun r4_1 hx4_1 => gf rfl (fun a hf => e_callv hf rfl rfl rfl ⟨78, [(pV b0_2), (pV b0_1)], rfl, call78, pimpl_running__doIns_1_ok _ 0 regs (.slice p0_1 regs.length c0_1) (rep_later (hm.ow_rep 5 rfl) (Below.refl _ _)) b0_2 (hm.blk_later 3 rfl (Below.refl _ _)) x_ v1 (rep_later (hm.now h1) (Below.refl _ _)) b0_1 (hm.blk_later 4 rfl (Below.refl _ _)) _ hx4_1⟩) ?_))))
         rintro v4_1 w ⟨rfl, hB⟩
         replace hm := hm.below' hB; clear hB
         refine gb fun r4_2 hx4_2 => gfx rfl (fun a hf => e_callx hf rfl call79 rfl (pimpl_running__cell_ok _ (⟨m.u, q0_1.steps, q0_1.used, q0_1.said, q0_1.cells, q0_1.trace⟩ : running) bp0 v1p (hm.now h1p) v0_4 (hm.ow_rep 1 rfl) v0_5 (hm.ow_rep 2 rfl) (hm.blk_cells 0 rfl).1 r4_1 _ hx4_2)) ?_ ?_
         ·
          rintro c w ⟨q4_2, rfl, ho4_2⟩
          obtain ⟨rfl, hB⟩ := ho4_2
          replace hm := hm.below' hB; clear hB
          exact gr (gEr hq3_1 (gEr hq2_1 (gEr hq1_1 (gEr hq0_1 (gth ⟨_, rfl, v0_4, v0_5, rfl, hm.pk [0, 1, 2, 5] rfl rfl⟩)))))
         rintro v4_2 w ⟨q4_1, rfl, ho4_2⟩
         obtain ⟨rfl, ⟨h4_2, h4_3⟩, hB⟩ := ho4_2
         replace hm := hm.below' hB; clear hB
         refine gl (gM rfl (gb fun r4_3 hx4_3 => gf rfl (fun a hf => e_callv hf rfl rfl rfl ⟨78, [(pV b0_2), (pV b0_1)], rfl, call78, pimpl_running__doIns_1_ok _ 1 regs (.slice p0_1 regs.length c0_1) (rep_later (hm.ow_rep 5 rfl) (Below.refl _ _)) b0_2 (hm.blk_later 3 rfl (Below.refl _ _)) x_ v1 (rep_later (hm.now h1) (Below.refl _ _)) b0_1 (hm.blk_later 4 rfl (Below.refl _ _)) _ hx4_3⟩) ?_))
         rintro v4_3 w ⟨rfl, hB⟩
         replace hm := hm.below' hB; clear hB
         refine gY (yG rfl (y_nilptr rfl rfl)) (gf0 rfl (fun a hf => e_storeA (pre := [v1p, (nV q0_1.steps), (nV q0_1.used), v0_4]) (post := [v0_5]) (arr := q0_1.cells) (n := 16) 0 hf hm rfl sizeOf3 rfl rfl rfl h4_3) ?_)
         rintro _ w hm
         replace hm : Mem w0 hz _ [blk bp0 (v1p :: (nV q0_1.steps) :: (nV q0_1.used) :: v0_4 :: q16 ((setA 16 q0_1.cells (q4_1).toNat r4_3)) [v0_5]) 80, ow [v0_4] q0_1.said, ow [v0_5] q0_1.trace, blk b0_2 [(.slice p0_1 regs.length c0_1)] 29, blk b0_1 [(nV x_.op), (nV x_.to), v1, (nV x_.n_)] 68, ow [(.slice p0_1 regs.length c0_1)] regs] := hm
         exact gE (gZe fun a hf => ⟨v0_4, v0_5, hf.sb rfl, hm.pk [0, 1, 2, 5] rfl rfl⟩)
        refine gcf rfl (gS (gR (gB rfl (gA rfl (gE (gJge (fun s4_1 a w => ∃ (v4_4 : Value) (v4_5 : Value), St 120 [] w0 hz [blk bp0 (v1p :: (nV s4_1.1) :: (nV s4_1.2.1) :: v4_4 :: q16 s4_1.2.2.2.1 [v4_5]) 80, ow [v4_4] s4_1.2.2.1, ow [v4_5] s4_1.2.2.2.2.1, ow [(.slice p0_1 regs.length c0_1)] s4_1.2.2.2.2.2] a w) (fun c4_1 hq4_1 => ?_) ?_))))))
        ·
         refine gsd 63 rfl (fun h5_1 => ?_) fun h5_1 => ?_
         ·
          refine gct rfl (gWx (.p 0 (.p 1 (.p 2 (.p 3 (.p 5 (.q 4 (.e 6 (.e 7 (.e 8 (.p 9 (.p 10 (.e 11 .fin .nil))) .nil) .nil) .nil))))))) [6, 7] [0, 1, 2, 3, 5, 9, 10] hm [0, 1, 2, 3, 4, 5] [blk bp0 (v1p :: (nV q0_1.steps) :: (nV q0_1.used) :: v0_4 :: q16 q0_1.cells [v0_5]) 80, ow [v0_4] q0_1.said, ow [v0_5] q0_1.trace, blk b0_2 [(.slice p0_1 regs.length c0_1)] 29, blk b0_1 [(nV x_.op), (nV x_.to), v1, (nV x_.n_)] 68, ow [(.slice p0_1 regs.length c0_1)] regs] rfl mxo (by kernel_rfl) (fun _ _ _ _ e h => ⟨e.symm.trans h.1, h.2⟩) fun w hm hS => tP rfl (fun w => yM rfl) (tP rfl (fun w => yM rfl) (tP rfl (fun w => yG rfl (y_nilptr rfl rfl)) (tP rfl (fun w => yF fo_80_3 rfl) (tP rfl (fun w => yM rfl) (tQ rfl hS (fun w hm => yL hm 0 isAgg29 rfl) (tO (gb fun r5_1 hx5_1 => tf rfl rfl (fun a hf => e_callv hf rfl rfl rfl ⟨78, [(pV b0_2), (pV b0_1)], rfl, call78, pimpl_running__doIns_1_ok _ 0 regs (.slice p0_1 regs.length c0_1) (rep_later (hm.ow_rep 5 rfl) (Below.refl _ _)) b0_2 (hm.blk_later 3 rfl (Below.refl _ _)) x_ v1 (rep_later (hm.now h1) (Below.refl _ _)) b0_1 (hm.blk_later 4 rfl (Below.refl _ _)) _ hx5_1⟩) ?_))))))))
          rintro v5_1 w ⟨rfl, hB⟩
          replace hm := hm.below' hB; clear hB
          refine tAk hm [0, 1, 2, 3, 4, 5] rfl fun hS => tO (tf rfl rfl (fun a hf => e_build (vs := #[(0, (nV r5_1))]) (cs := [(nV r5_1)]) et_29 hf hm rfl rfl (by kernel_rfl) rfl rfl) ?_)
          rintro _ w ⟨b5_1, rfl, hm⟩
          replace hm := hm.lit (xs := ([r5_1] : List Int)) 0 rfl rfl rfl rfl
          refine tAk hm [1, 2, 3, 4, 5, 6] rfl fun hS => tO (gb fun ys5_1 hx5_2 => ?_)
          obtain ⟨h5_2, h5_2e⟩ := appM_some.1 hx5_2
          refine tf rfl rfl (fun a hf => e_append 2 et_29 hf hm rfl (hm.ow_rep 0 rfl) rfl rfl rfl h5_2) ?_
          rintro v5_2 w hm
          rw [h5_2e] at hm
          refine tAn rfl (tP rfl (fun w => yG rfl (y_nilptr rfl rfl)) (tP rfl (fun w => yF fo_80_3 rfl) (tO (tf0 rfl rfl (fun a hf => e_store1 1 hf hm rfl sizeOf29 rfl rfl rfl (rep_one (hm.ow_rep 2 rfl)) rfl) ?_))))
          rintro _ w hm
          exact tAn rfl (tE (gZe fun a hf => ⟨v5_2, v0_5, hf.sb rfl, hm.pk [1, 2, 3, 6] rfl rfl⟩))
         refine gcf rfl (gS (gR (gB rfl (gA rfl (gE (gJge (fun s5_1 a w => ∃ (v5_3 : Value) (v5_4 : Value), St 120 [] w0 hz [blk bp0 (v1p :: (nV s5_1.1) :: (nV s5_1.2.1) :: v5_3 :: q16 s5_1.2.2.2.1 [v5_4]) 80, ow [v5_3] s5_1.2.2.1, ow [v5_4] s5_1.2.2.2.2.1, ow [(.slice p0_1 regs.length c0_1)] s5_1.2.2.2.2.2] a w) (fun c5_1 hq5_1 => ?_) ?_))))))
         ·
          refine gsd 76 rfl (fun h6_1 => ?_) fun h6_1 => ?_
          ·
           refine gct rfl (gS (gR (gA rfl (gE (gS (gS (gR (gF fo_68_2 rfl (gL hm 4 isAgg29 rfl ?_)))))))))
           obtain ⟨p6_1, c6_1, rfl, hl6_1⟩ := ro_slice h1
           refine gY (yV st_29 rfl) (gM rfl (gE ?_))
           obtain ⟨p6_2, c6_2, rfl, hl6_2⟩ := ro_slice (hm.ow_rep 1 rfl)
           obtain ⟨p6_3, c6_3, rfl, hl6_3⟩ := ro_slice (hm.ow_rep 2 rfl)
           refine gBk ?_
           replace hm := hm.nilow (α := Int)
           refine gNg (fun i7_1 xs7_1 a w => ∃ (v7_1 : Value), St 120 [(0, (pV bp0)), (4, (pV b0_1)), (5, (pV b0_2)), (6, (.func (.func 78) #[] #[(pV b0_2), (pV b0_1)])), (7, v7_1), (80, (nV ((x_.args.length : Int)))), (81, (nV i7_1))] w0 hz [blk bp0 (v1p :: (nV q0_1.steps) :: (nV q0_1.used) :: (.slice p6_2 q0_1.said.length c6_2) :: q16 q0_1.cells [(.slice p6_3 q0_1.trace.length c6_3)]) 80, ow [(.slice p6_2 q0_1.said.length c6_2)] q0_1.said, ow [(.slice p6_3 q0_1.trace.length c6_3)] q0_1.trace, blk b0_1 [(nV x_.op), (nV x_.to), (.slice p6_1 x_.args.length c6_1), (nV x_.n_)] 68, blk b0_2 [(.slice p0_1 regs.length c0_1)] 29, ow [(.slice p0_1 regs.length c0_1)] regs, ow [v7_1] xs7_1] a w) (fun a hf => ⟨(.slice none 0 0), hf.sb rfl, hm.pk [1, 2, 3, 5, 4, 6, 0] rfl rfl⟩) ?_ ?_
           ·
            repeat clear hm
            rintro _ _ i7_1 xs7_1 a w ⟨v7_1, hf, hm⟩ hi6_1 hi6_2 q6_1 _
            refine gv hf (gS (gR (gB rfl (gE (gS (go _ 82 rfl (decide_eq_true (by omega)) (gct rfl (gSk (gS (gBk (gS (gR (gM rfl (gA rfl (gE (gR (gM rfl (gM rfl (gM rfl (gb fun r7_1 hx7_1 => gf rfl (fun a hf => e_callv hf rfl rfl rfl ⟨78, [(pV b0_2), (pV b0_1)], rfl, call78, pimpl_running__doIns_1_ok _ i7_1 regs (.slice p0_1 regs.length c0_1) (rep_later (hm.ow_rep 5 rfl) (Below.refl _ _)) b0_2 (hm.blk_later 4 rfl (Below.refl _ _)) x_ (.slice p6_1 x_.args.length c6_1) (rep_later (hm.now h1) (Below.refl _ _)) b0_1 (hm.blk_later 3 rfl (Below.refl _ _)) _ hx7_1⟩) ?_))))))))))))))))))))
            rintro v7_2 w ⟨rfl, hB⟩
            replace hm := hm.below' hB; clear hB
            refine gf rfl (fun a hf => e_build (vs := #[(0, (nV r7_1))]) (cs := [(nV r7_1)]) et_29 hf hm rfl rfl (by kernel_rfl) rfl rfl) ?_
            rintro _ w ⟨b7_1, rfl, hm⟩
            replace hm := hm.lit (xs := ([r7_1] : List Int)) 0 rfl rfl rfl rfl
            refine gb fun ys7_1 hx7_2 => ?_
            obtain ⟨h7_1, h7_1e⟩ := appM_some.1 hx7_2
            refine gf rfl (fun a hf => e_append 7 et_29 hf hm rfl (hm.ow_rep 0 rfl) rfl rfl rfl h7_1) ?_
            rintro v7_3 w hm
            rw [h7_1e] at hm
            exact gA rfl (gE (gR (gP (by omega) (by omega) rfl (gM rfl (gE (gZe fun a hf => ⟨v7_3, hf.sb rfl, hm.pk [1, 2, 3, 4, 5, 6, 7] rfl rfl⟩))))))
           repeat clear hm
           rintro i6_1 xs6_1 a w ⟨v6_1, hf, hm⟩ hi6_3 hi6_4
           refine gv hf (gS (gR (gB rfl (gE (gS (go _ 82 rfl (decide_eq_false (by omega)) (gcf rfl (gXt (gHh (gWx (.p 1 (.p 3 (.p 4 (.p 6 (.q 0 (.q 2 (.e 5 (.e 7 (.p 8 (.e 9 .fin .nil)) .nil) .nil))))))) [0, 2, 5, 7] [1, 3, 4, 6, 8] hm [3, 4, 5, 6] [blk b0_1 [(nV x_.op), (nV x_.to), (.slice p6_1 x_.args.length c6_1), (nV x_.n_)] 68, blk b0_2 [(.slice p0_1 regs.length c0_1)] 29, ow [(.slice p0_1 regs.length c0_1)] regs, ow [v6_1] xs6_1] rfl mxo (by kernel_rfl) (fun _ _ _ _ e h => ⟨e.symm.trans h.1, h.2⟩) fun w hm hS => tP rfl (fun w => yF fo_68_1 rfl) (tP rfl (fun w => yM rfl) (tP rfl (fun w => yF fo_68_3 rfl) (tP rfl (fun w => yM rfl) (tQ rfl hS (fun w hm => yL hm 1 isAgg29 rfl) (tQ rfl hS (fun w hm => yL hm 0 isAgg3 rfl) (tO (tY rfl (yL hm 3 isAgg3 rfl) (tAs hS (tO (gb fun r6_2 hx6_1 => ?_))))))))))))))))))))
           obtain ⟨hz6_1, hle, hm1, hsub, hk6_1⟩ := hm.take2 (L1 := [blk bp0 (v1p :: (nV q0_1.steps) :: (nV q0_1.used) :: (.slice p6_2 q0_1.said.length c6_2) :: q16 q0_1.cells [(.slice p6_3 q0_1.trace.length c6_3)]) 80, ow [(.slice p6_2 q0_1.said.length c6_2)] q0_1.said, ow [(.slice p6_3 q0_1.trace.length c6_3)] q0_1.trace]) (L2 := [blk b0_1 [(nV x_.op), (nV x_.to), (.slice p6_1 x_.args.length c6_1), (nV x_.n_)] 68, blk b0_2 [(.slice p0_1 regs.length c0_1)] 29, ow [(.slice p0_1 regs.length c0_1)] regs, ow [v6_1] xs6_1]) [0, 1, 2] [3, 4, 5, 6] (by decide) rfl rfl
           refine tfx rfl rfl (fun a hf => e_callx hf rfl call36 rfl (pimpl_running__code_rec _ hz6_1 (⟨m.u, q0_1.steps, q0_1.used, q0_1.said, q0_1.cells, q0_1.trace⟩ : running) bp0 v1p (GT.mono hle h1p) (.slice p6_2 q0_1.said.length c6_2) (.slice p6_3 q0_1.trace.length c6_3) x_.n_ xs6_1 v6_1 (fz_ow (hsub 3 _ rfl)) false hm1  _ hx6_1)) ?_ ?_
           ·
            rintro c w ⟨q6_3, rfl, ho6_2⟩
            obtain ⟨v6_2, v6_3, rfl, hB⟩ := ho6_2
            replace hm := hk6_1 _ _ hB; clear hB
            exact gr (gEr hq5_1 (gEr hq4_1 (gEr hq3_1 (gEr hq2_1 (gEr hq1_1 (gEr hq0_1 (gth ⟨_, rfl, v6_2, v6_3, rfl, hm.pk [0, 1, 2, 5] rfl rfl⟩)))))))
           rintro v6_4 w ⟨q6_2, rfl, ho6_2⟩
           obtain ⟨v6_5, v6_6, rfl, hB⟩ := ho6_2
           replace hm := hk6_1 _ _ hB; clear hB
           refine gl (tAk hm [3, 4, 5, 6] rfl fun hS => gg fun x6_1 h6_2 hx6_3 => ?_)
           obtain ⟨b6_1, o6_1, c6_4, he⟩ := idx_form (hm.ow_rep 5 rfl) hx6_3
           simp only [Value.slice.injEq, Option.some.injEq] at he; obtain ⟨rfl, _, rfl⟩ := he
           refine tP rfl (fun w => yI st_29 h6_2 (idx_lt hx6_3) rfl) (tO (tf0 rfl rfl (fun a hf => e_setElem (x1 := q6_2.1) (j := 0) (vs := [(nV q6_2.1)]) 5 hf hm rfl hx6_3 rfl sizeOf3 rfl rfl rfl (one_cons rfl one_nil) rfl rfl) ?_))
           rintro _ w hm
           have hx6_4 := List.getElem?_set_self (a := q6_2.1) (idx_lt hx6_3)
           exact tAn rfl (tE (gZe fun a hf => ⟨v6_5, v6_6, hf.sb rfl, hm.pk [0, 1, 2, 5] rfl rfl⟩))
          refine gcf rfl (gS (gR (gB rfl (gA rfl (gE (gJe hm (fun s6_1 => []) (fun s6_1 => [blk bp0 (v1p :: (nV q0_1.steps) :: (nV q0_1.used) :: v0_4 :: q16 q0_1.cells [v0_5]) 80, ow [v0_4] q0_1.said, ow [v0_5] q0_1.trace, ow [(.slice p0_1 regs.length c0_1)] s6_1]) (fun c6_5 hq6_2 => ?_) ?_))))))
          ·
           refine gsd 100 rfl (fun h7_2 => ?_) fun h7_2 => ?_
           ·
            refine gct rfl (gWx (.p 1 (.p 3 (.q 0 (.q 2 (.e 4 (.p 5 (.e 6 .fin .nil)) .nil))))) [0, 2, 4] [1, 3, 5] hm [0, 1, 2, 3, 4, 5] [blk bp0 (v1p :: (nV q0_1.steps) :: (nV q0_1.used) :: v0_4 :: q16 q0_1.cells [v0_5]) 80, ow [v0_4] q0_1.said, ow [v0_5] q0_1.trace, blk b0_2 [(.slice p0_1 regs.length c0_1)] 29, blk b0_1 [(nV x_.op), (nV x_.to), v1, (nV x_.n_)] 68, ow [(.slice p0_1 regs.length c0_1)] regs] rfl mxo (by kernel_rfl) (fun _ _ _ _ e h => ⟨e.symm.trans h.1, h.2⟩) fun w hm hS => tP rfl (fun w => yF fo_68_1 rfl) (tP rfl (fun w => yM rfl) (tQ rfl hS (fun w hm => yL hm 3 isAgg29 rfl) (tQ rfl hS (fun w hm => yL hm 4 isAgg3 rfl) (tO (gb fun r7_2 hx7_3 => tf rfl rfl (fun a hf => e_callv hf rfl rfl rfl ⟨78, [(pV b0_2), (pV b0_1)], rfl, call78, pimpl_running__doIns_1_ok _ 0 regs (.slice p0_1 regs.length c0_1) (rep_later (hm.ow_rep 5 rfl) (Below.refl _ _)) b0_2 (hm.blk_later 3 rfl (Below.refl _ _)) x_ v1 (rep_later (hm.now h1) (Below.refl _ _)) b0_1 (hm.blk_later 4 rfl (Below.refl _ _)) _ hx7_3⟩) ?_))))))
            rintro v7_4 w ⟨rfl, hB⟩
            replace hm := hm.below' hB; clear hB
            refine tAk hm [0, 1, 2, 3, 4, 5] rfl fun hS => gg fun x7_1 h7_3 hx7_5 => ?_
            obtain ⟨b7_2, o7_1, c7_1, he⟩ := idx_form (hm.ow_rep 5 rfl) hx7_5
            simp only [Value.slice.injEq, Option.some.injEq] at he; obtain ⟨rfl, _, rfl⟩ := he
            refine tP rfl (fun w => yI st_29 h7_3 (idx_lt hx7_5) rfl) (tO (tf0 rfl rfl (fun a hf => e_setElem (x1 := r7_2) (j := 0) (vs := [(nV r7_2)]) 5 hf hm rfl hx7_5 rfl sizeOf3 rfl rfl rfl (one_cons rfl one_nil) rfl rfl) ?_))
            rintro _ w hm
            have hx7_6 := List.getElem?_set_self (a := r7_2) (idx_lt hx7_5)
            exact tAn rfl (tE (gze hm [0, 1, 2, 5] rfl))
           refine gcf rfl (gS (gR (gB rfl (gA rfl (gE (gJe hm (fun s7_1 => []) (fun s7_1 => [blk bp0 (v1p :: (nV q0_1.steps) :: (nV q0_1.used) :: v0_4 :: q16 q0_1.cells [v0_5]) 80, ow [v0_4] q0_1.said, ow [v0_5] q0_1.trace, ow [(.slice p0_1 regs.length c0_1)] s7_1]) (fun c7_2 hq7_1 => ?_) ?_))))))
           ·
            refine gsd 108 rfl (fun h8_1 => ?_) fun h8_1 => ?_
            ·
             refine gct rfl (gWx (.p 1 (.p 3 (.q 0 (.q 2 (.e 4 (.e 5 (.p 6 (.p 7 (.p 8 (.p 9 (.e 10 .fin .nil))))) .nil) .nil))))) [0, 2, 4, 5] [1, 3, 6, 7, 8, 9] hm [0, 1, 2, 3, 4, 5] [blk bp0 (v1p :: (nV q0_1.steps) :: (nV q0_1.used) :: v0_4 :: q16 q0_1.cells [v0_5]) 80, ow [v0_4] q0_1.said, ow [v0_5] q0_1.trace, blk b0_2 [(.slice p0_1 regs.length c0_1)] 29, blk b0_1 [(nV x_.op), (nV x_.to), v1, (nV x_.n_)] 68, ow [(.slice p0_1 regs.length c0_1)] regs] rfl mxo (by kernel_rfl) (fun _ _ _ _ e h => ⟨e.symm.trans h.1, h.2⟩) fun w hm hS => tP rfl (fun w => yF fo_68_1 rfl) (tP rfl (fun w => yM rfl) (tQ rfl hS (fun w hm => yL hm 3 isAgg29 rfl) (tQ rfl hS (fun w hm => yL hm 4 isAgg3 rfl) (tO (gb fun r8_1 hx8_1 => tf rfl rfl (fun a hf => e_callv hf rfl rfl rfl ⟨78, [(pV b0_2), (pV b0_1)], rfl, call78, pimpl_running__doIns_1_ok _ 0 regs (.slice p0_1 regs.length c0_1) (rep_later (hm.ow_rep 5 rfl) (Below.refl _ _)) b0_2 (hm.blk_later 3 rfl (Below.refl _ _)) x_ v1 (rep_later (hm.now h1) (Below.refl _ _)) b0_1 (hm.blk_later 4 rfl (Below.refl _ _)) _ hx8_1⟩) ?_))))))
             rintro v8_1 w ⟨rfl, hB⟩
             replace hm := hm.below' hB; clear hB
             refine tAk hm [0, 1, 2, 3, 4, 5] rfl fun hS => tO (gb fun r8_2 hx8_2 => tf rfl rfl (fun a hf => e_call hf rfl call80 rfl (impl_arith_ok _ 11 r8_1 0 _ hx8_2)) ?_)
             rintro v8_2 w ⟨rfl, hB⟩
             replace hm := hm.below' hB; clear hB
             refine tAk hm [0, 1, 2, 3, 4, 5] rfl fun hS => tP rfl (fun w => yM rfl) (tP rfl (fun w => yX rfl) (tP rfl (fun w => yX rfl) (gg fun x8_1 h8_2 hx8_4 => ?_)))
             obtain ⟨b8_1, o8_1, c8_1, he⟩ := idx_form (hm.ow_rep 5 rfl) hx8_4
             simp only [Value.slice.injEq, Option.some.injEq] at he; obtain ⟨rfl, _, rfl⟩ := he
             refine tP rfl (fun w => yI st_29 h8_2 (idx_lt hx8_4) rfl) (tO (tf0 rfl rfl (fun a hf => e_setElem (x1 := r8_2.1) (j := 0) (vs := [(nV r8_2.1)]) 5 hf hm rfl hx8_4 rfl sizeOf3 rfl rfl rfl (one_cons rfl one_nil) rfl rfl) ?_))
             rintro _ w hm
             have hx8_5 := List.getElem?_set_self (a := r8_2.1) (idx_lt hx8_4)
             exact tAn rfl (tE (gze hm [0, 1, 2, 5] rfl))
            refine gcf rfl (gS (gWx (.p 0 (.p 2 (.p 4 (.q 1 (.e 3 (.e 5 (.e 6 (.p 7 (.p 8 (.p 9 (.p 10 (.p 11 .fin))))) .nil) .nil) .nil))))) [3, 5] [0, 2, 4, 7, 8, 9, 10, 11] hm [0, 1, 2, 3, 4, 5] [blk bp0 (v1p :: (nV q0_1.steps) :: (nV q0_1.used) :: v0_4 :: q16 q0_1.cells [v0_5]) 80, ow [v0_4] q0_1.said, ow [v0_5] q0_1.trace, blk b0_2 [(.slice p0_1 regs.length c0_1)] 29, blk b0_1 [(nV x_.op), (nV x_.to), v1, (nV x_.n_)] 68, ow [(.slice p0_1 regs.length c0_1)] regs] rfl mxo (by kernel_rfl) (fun _ _ _ _ e h => ⟨e.symm.trans h.1, h.2⟩) fun w hm hS => tP rfl (fun w => yF fo_68_0 rfl) (tP rfl (fun w => yM rfl) (tP rfl (fun w => yM rfl) (tQ rfl hS (fun w hm => yL hm 4 isAgg3 rfl) (tO (gb fun r8_3 hx8_6 => tf rfl rfl (fun a hf => e_callv hf rfl rfl rfl ⟨78, [(pV b0_2), (pV b0_1)], rfl, call78, pimpl_running__doIns_1_ok _ 0 regs (.slice p0_1 regs.length c0_1) (rep_later (hm.ow_rep 5 rfl) (Below.refl _ _)) b0_2 (hm.blk_later 3 rfl (Below.refl _ _)) x_ v1 (rep_later (hm.now h1) (Below.refl _ _)) b0_1 (hm.blk_later 4 rfl (Below.refl _ _)) _ hx8_6⟩) ?_)))))))
            rintro v8_3 w ⟨rfl, hB⟩
            replace hm := hm.below' hB; clear hB
            refine tAk hm [0, 1, 2, 3, 4, 5] rfl fun hS => tO (gb fun r8_4 hx8_7 => tf rfl rfl (fun a hf => e_callv hf rfl rfl rfl ⟨78, [(pV b0_2), (pV b0_1)], rfl, call78, pimpl_running__doIns_1_ok _ 1 regs (.slice p0_1 regs.length c0_1) (rep_later (hm.ow_rep 5 rfl) (Below.refl _ _)) b0_2 (hm.blk_later 3 rfl (Below.refl _ _)) x_ v1 (rep_later (hm.now h1) (Below.refl _ _)) b0_1 (hm.blk_later 4 rfl (Below.refl _ _)) _ hx8_7⟩) ?_)
            rintro v8_4 w ⟨rfl, hB⟩
            replace hm := hm.below' hB; clear hB
            refine tAk hm [0, 1, 2, 3, 4, 5] rfl fun hS => tO (gb fun r8_5 hx8_8 => tf rfl rfl (fun a hf => e_call hf rfl call80 rfl (impl_arith_ok _ x_.op r8_3 r8_4 _ hx8_8)) ?_)
            rintro v8_5 w ⟨rfl, hB⟩
            replace hm := hm.below' hB; clear hB
            refine tAn rfl (tP rfl (fun w => yM rfl) (tP rfl (fun w => yX rfl) (tP rfl (fun w => yX rfl) (tP rfl (fun w => yA rfl) (tP rfl (fun w => yA rfl) (tE (gS (gS (gR (gM rfl (gN rfl (gE (gJe hm (fun s8_1 => [(4, (pV b0_1)), (5, (pV b0_2)), (9, (nV r8_5.1))]) (fun s8_1 => [blk b0_1 [(nV x_.op), (nV x_.to), v1, (nV x_.n_)] 68, blk b0_2 [(.slice p0_1 regs.length c0_1)] 29, ow [(.slice p0_1 regs.length c0_1)] regs, blk bp0 (v1p :: (nV q0_1.steps) :: (nV q0_1.used) :: v0_4 :: q16 q0_1.cells [v0_5]) 80, ow [v0_4] q0_1.said, ow [v0_5] q0_1.trace]) (fun c8_2 hq8_1 => ?_) ?_)))))))))))))
            ·
             refine gsn 27 rfl (fun h9_1 => ?_) fun h9_1 => ?_
             ·
              refine gct rfl (gR (gb fun r9_1 hx9_1 => gfx rfl (fun a hf => e_callx hf rfl call81 rfl (impl_stop_ok _ 1 _ hx9_1)) ?_ ?_))
              ·
               rintro c w ⟨q9_2, rfl, ho9_1⟩
               obtain ⟨rfl, hB⟩ := ho9_1
               replace hm := hm.below' hB; clear hB
               exact gr (gEr hq8_1 (gEr hq7_1 (gEr hq6_2 (gEr hq5_1 (gEr hq4_1 (gEr hq3_1 (gEr hq2_1 (gEr hq1_1 (gEr hq0_1 (gth ⟨_, rfl, v0_4, v0_5, rfl, hm.pk [0, 1, 2, 5] rfl rfl⟩))))))))))
              rintro v9_1 w ⟨q9_1, rfl, ho9_1⟩
              obtain ⟨rfl, hB⟩ := ho9_1
              replace hm := hm.below' hB; clear hB
              exact gl (gE (gze hm [4, 3, 5, 0, 1, 2] rfl))
             exact gcf rfl (gSk (gze hm [4, 3, 5, 0, 1, 2] rfl))
            repeat clear hm
            intro s8_1 w hm
            refine gR (gL hm 1 isAgg29 rfl (gF fo_68_1 rfl (gL hm 0 isAgg3 rfl (gM rfl (gg fun x8_2 h8_3 hx8_10 => ?_)))))
            obtain ⟨b8_2, o8_2, c8_3, he⟩ := idx_form (hm.ow_rep 2 rfl) hx8_10
            simp only [Value.slice.injEq, Option.some.injEq] at he; obtain ⟨rfl, _, rfl⟩ := he
            refine gI st_29 h8_3 (idx_lt hx8_10) rfl (gf0 rfl (fun a hf => e_setElem (x1 := r8_5.1) (j := 0) (vs := [(nV r8_5.1)]) 2 hf hm rfl hx8_10 rfl sizeOf3 rfl rfl rfl (one_cons rfl one_nil) rfl rfl) ?_)
            rintro _ w hm
            have hx8_11 := List.getElem?_set_self (a := r8_5.1) (idx_lt hx8_10)
            exact gE (gze hm [3, 4, 5, 2] rfl)
           repeat clear hm
           intro s7_1 w hm
           exact gze hm [0, 1, 2, 3] rfl
          repeat clear hm
          intro s6_1 w hm
          exact gZe fun a hf => ⟨v0_4, v0_5, hf.sb rfl, hm.pk [0, 1, 2, 3] rfl rfl⟩
         repeat clear hm
         rintro s5_1 a w ⟨v5_3, v5_4, hf, hm⟩
         exact gv hf (gZe fun a hf => ⟨v5_3, v5_4, hf.sb rfl, hm.pk [0, 1, 2, 3] rfl rfl⟩)
        repeat clear hm
        rintro s4_1 a w ⟨v4_4, v4_5, hf, hm⟩
        exact gv hf (gZe fun a hf => ⟨v4_4, v4_5, hf.sb rfl, hm.pk [0, 1, 2, 3] rfl rfl⟩)
       repeat clear hm
       rintro s3_1 a w ⟨v3_3, v3_4, hf, hm⟩
       exact gv hf (gZe fun a hf => ⟨v3_3, v3_4, hf.sb rfl, hm.pk [0, 1, 2, 3] rfl rfl⟩)
      repeat clear hm
      rintro s2_1 a w ⟨v2_1, v2_2, hf, hm⟩
      exact gv hf (gZe fun a hf => ⟨v2_1, v2_2, hf.sb rfl, hm.pk [0, 1, 2, 3] rfl rfl⟩)
     repeat clear hm
     rintro s1_1 a w ⟨v1_1, v1_2, hf, hm⟩
     exact gv hf (gZe fun a hf => ⟨v1_1, v1_2, hf.sb rfl, hm.pk [0, 1, 2, 3] rfl rfl⟩)
    repeat clear hm
    rintro s0_1 a w ⟨v0_6, v0_7, hf, hm⟩
    exact gv hf (gxn (gre results60 ⟨_, rfl, ⟨v0_6, v0_7, rfl, hm.pk [0, 1, 2, 3] rfl rfl⟩⟩))

theorem pimpl_running__code_ok (w0 : World) (hz : Heap) (m : running) (bp0 : Nat) (v1p : Value) (h1p : GT.rep hz [v1p] m.u.codes) (v2p : Value) (v3p : Value) (k_ : Int) (in_ : List Int) (v1 : Value) (h1 : GT.rep hz [v1] in_) (main : Bool) (hm0 : Mem w0 hz w0 [blk bp0 (v1p :: (nV m.steps) :: (nV m.used) :: v2p :: q16 m.cells [v3p]) 80, ow [v2p] m.said, ow [v3p] m.trace]) (r : (Int × running) ⊕ (Int × running)) (hq : pimpl_running__code m k_ in_ main = some r) : ConX Tryd.prog 36 [(pV bp0), (nV k_), v1, (.bool (main))] w0 (fun v w' => ∃ q, r = .inl q ∧ (∃ (x2 : Value) (x3 : Value), v = (nV q.1) ∧ Mem w0 hz w' [blk bp0 (v1p :: (nV q.2.steps) :: (nV q.2.used) :: x2 :: q16 q.2.cells [x3]) 80, ow [x2] q.2.said, ow [x3] q.2.trace])) (fun c w' => ∃ q, r = .inr q ∧ (∃ (x2 : Value) (x3 : Value), c = pch 94 q.1 ∧ Mem w0 hz w' [blk bp0 (v1p :: (nV q.2.steps) :: (nV q.2.used) :: x2 :: q16 q.2.cells [x3]) 80, ow [x2] q.2.said, ow [x3] q.2.trace])) := pimpl_running__code_all.1 m k_ in_ main r hq w0 hz bp0 v1p h1p v2p v3p v1 h1 hm0

theorem impl_runUnit_1_ok (w0 : World) (hz : Heap) (c0_ : running) (bpc0 : Nat) (bpd0 : Nat) (v1p : Value) (h1p : GT.rep hz [v1p] c0_.u.codes) (v2p : Value) (v3p : Value) (hbbpc0 : hz bpc0 = some (.cells ([(pV bpd0)] : List Value).toArray 47 (0, 0))) (c1_ : Unit_) (bpc1 : Nat) (v4p : Value) (h4p : GT.rep hz [v4p] c1_.codes) (hbbpc1 : hz bpc1 = some (.cells ([v4p] : List Value).toArray 25 (0, 0))) (c2_ : List Int) (bpc2 : Nat) (v5p : Value) (h5p : GT.rep hz [v5p] c2_) (hbbpc2 : hz bpc2 = some (.cells ([v5p] : List Value).toArray 29 (0, 0))) (c3_ : Outcome_) (bpc3 : Nat) (v6p : Value) (v7p : Value) (hm0 : Mem w0 hz w0 [blk bpd0 (v1p :: (nV c0_.steps) :: (nV c0_.used) :: v2p :: q16 c0_.cells [v3p]) 80, ow [v2p] c0_.said, ow [v3p] c0_.trace, blk bpc3 [v6p, (nV c3_.end_), (nV c3_.value), v7p] 31, ow [v6p] c3_.said, ow [v7p] c3_.cells]) :
    ConXM Tryd.prog 35 [(pV bpc0), (pV bpc1), (pV bpc2), (pV bpc3)] w0 (impl_runUnit_1 c0_ c1_ c2_ c3_) (fun r v w' => ∃ q, r = .inl q ∧ (∃ (x2 : Value) (x3 : Value) (x4 : Value) (x5 : Value), v = (.tuple #[]) ∧ Mem w0 hz w' [blk bpd0 (v1p :: (nV q.1.steps) :: (nV q.1.used) :: x2 :: q16 q.1.cells [x3]) 80, blk bpc3 [x4, (nV q.2.end_), (nV q.2.value), x5] 31, ow [x2] q.1.said, ow [x3] q.1.trace, ow [x4] q.2.said, ow [x5] q.2.cells])) fun r c w' => ∃ q, r = .inr q ∧ (∃ (x2 : Value) (x3 : Value) (x4 : Value) (x5 : Value), c = pch 94 q.1 ∧ Mem w0 hz w' [blk bpd0 (v1p :: (nV q.2.1.steps) :: (nV q.2.1.used) :: x2 :: q16 q.2.1.cells [x3]) 80, blk bpc3 [x4, (nV q.2.2.end_), (nV q.2.2.value), x5] 31, ow [x2] q.2.1.said, ow [x3] q.2.1.trace, ow [x4] q.2.2.said, ow [x5] q.2.2.cells]) := by
  unfold impl_runUnit_1
  refine gconx func35 rfl fun r => ?_
  have hm := hm0
  refine gR (gY (yl isAgg47 (hm.hz_cell hbbpc0 rfl) rfl) (gF fo_25_0 rfl (gY (yl isAgg23 (hm.hz_cell hbbpc1 rfl) rfl) ?_)))
  obtain ⟨p0_1, c0_1, rfl, hl0_1⟩ := ro_slice h4p
  refine gY (yV st_23 rfl) (gY (yS (by omega) (by omega) rfl) (gY (yl isAgg29 (hm.hz_cell hbbpc2 rfl) rfl) ?_))
  obtain ⟨hz0_1, hle, hm1, hsub, hk0_1⟩ := hm.take2 (L1 := [blk bpd0 (v1p :: (nV c0_.steps) :: (nV c0_.used) :: v2p :: q16 c0_.cells [v3p]) 80, ow [v2p] c0_.said, ow [v3p] c0_.trace]) (L2 := [blk bpc3 [v6p, (nV c3_.end_), (nV c3_.value), v7p] 31, ow [v6p] c3_.said, ow [v7p] c3_.cells]) [0, 1, 2] [3, 4, 5] (by decide) rfl rfl
  refine gb fun r0_1 hx0_1 => gfx rfl (fun a hf => e_callx hf rfl call36 rfl (pimpl_running__code_ok _ hz0_1 c0_ bpd0 v1p (GT.mono hle h1p) v2p v3p (((c1_.codes.length : Int)) - 1) c2_ v5p (GT.mono hle h5p) true hm1  _ hx0_1)) ?_ ?_
  ·
   rintro c w ⟨q0_2, rfl, ho0_1⟩
   obtain ⟨v0_1, v0_2, rfl, hB⟩ := ho0_1
   replace hm := hk0_1 _ _ hB; clear hB
   exact gr (gth ⟨_, rfl, v0_1, v0_2, v6p, v7p, rfl, hm.pk [0, 3, 1, 2, 4, 5] rfl rfl⟩)
  rintro v0_3 w ⟨q0_1, rfl, ho0_1⟩
  obtain ⟨v0_4, v0_5, rfl, hB⟩ := ho0_1
  replace hm := hk0_1 _ _ hB; clear hB
  exact gl (gF fo_31_2 rfl (gS1 hm 3 sizeOf3 rfl rfl fun w hm => gE (gxn (gre results35 ⟨_, rfl, ⟨v0_4, v0_5, v6p, v7p, rfl, hm.pk [0, 3, 1, 2, 4, 5] rfl rfl⟩⟩))))

theorem run_endOf (e : Int) (w : World) : (Instr.typeAssert (.iface 94 (.int .i64 e)) 20 94 true).run Tryd.prog w = .ok (.tuple #[.int .i64 e, .bool true]) w := by kernel_rfl

theorem catch_panicking (p : Addr) (x e : Int) (older : List PanicEntry) (w : World) (hc : w.cell? p = some (.int .i64 x)) (hz : w.frozen? p = false) :
    CallsD Tryd.prog 56 #[.pointer (some p)] (.panicking ({ v := .iface 94 (.int .i64 e), recovered := false } :: older)) w fun r u' w' =>
      r = .returned (.tuple #[]) ∧ u' = .panicking ({ v := .iface 94 (.int .i64 e), recovered := true } :: older) ∧ w' = w.setCell p (.int .i64 e) := by
  refine callsD_of_wpS func56 rfl fun c₀ cs hu => ?_
  apply wpS_seq
  apply wpS_region
  simp [wpOpsS, go_sem, recoverD, hu, ntmps56, Exit.thenS]
  apply wpS_seq
  apply wpS_region
  simp [wpOpsS, go_sem, recoverD, hu, ntmps56, Exit.thenS]
  refine wpS_cond (t := true) (by simp [Act.eval, Array.replicate]) ?_
  simp only [if_true]
  apply wpS_seq
  apply wpS_region
  simp [wpOpsS, go_sem, Exit.thenS, run_endOf]
  apply wpS_seq
  apply wpS_seq
  apply wpS_region
  simp [wpOpsS, go_sem, Exit.thenS]
  refine wpS_cond (t := false) (by simp [Act.eval, Array.replicate]) ?_
  simp only [Bool.false_eq_true, if_false]
  refine wpS_of_wp (wp_skip ?_)
  simp only [Exit.thenS]
  apply wpS_region
  simp [wpOpsS, go_sem, hc, hz, bodyPostS, results, results56]

theorem catch_idle (p : Addr) (w : World) :
    CallsD Tryd.prog 56 #[.pointer (some p)] .returning w fun e u' w' => e = .returned (.tuple #[]) ∧ u' = .returning ∧ w' = w := by
  refine callsD_of_wpS func56 rfl fun c₀ cs hu => ?_
  apply wpS_seq
  apply wpS_region
  simp [wpOpsS, go_sem, recoverD, hu, ntmps56, Exit.thenS]
  apply wpS_seq
  apply wpS_region
  simp [wpOpsS, go_sem, recoverD, hu, ntmps56, Exit.thenS]
  refine wpS_cond (t := false) (by simp [Act.eval, Array.replicate]) ?_
  simp only [Bool.false_eq_true, if_false]
  refine wpS_of_wp (wp_skip ?_)
  cases c₀
  simp_all [bodyPostS, results, results56]

theorem caught_ok (w0 : World) (hz : Heap) (L : List Ch) (fid : Nat) (cs : List Value) (PR : List Ch → Prop) (PX : Int → List Ch → Prop)
    (hm0 : Mem w0 hz w0 L) (hcall : ∀ us w, (callFunc fid us).run Tryd.prog w = .ok (.enter fid us) w)
    (hrun : ∀ w1 hz1, Heap.le hz hz1 → Mem w1 hz1 w1 L → ConX Tryd.prog fid cs w1 (fun v w' => ∃ M, PR M ∧ Mem w1 hz1 w' M) (fun c w' => ∃ e M, PX e M ∧ c = pch 94 e ∧ Mem w1 hz1 w' M)) :
    Con Tryd.prog 34 [.func (.func fid) #[] cs.toArray] w0 (fun v w' => (∃ M, PR M ∧ v = .int .i64 0 ∧ Mem w0 hz w' M) ∨ (∃ e M, PX e M ∧ v = .int .i64 e ∧ Mem w0 hz w' M)) := by
  have hmf : ∀ (fn : Fn) (first cap : Array Value) (w : World), (Instr.makeFunc fn first cap).run Tryd.prog w = .ok (.func fn first cap) w := fun _ _ _ _ => rfl
  unfold Con
  go_enter_defers func34, ntmps34
  go_wp2
  have hm := hm0.alloc [.int .i64 0] 3
  obtain ⟨hz', hle, hm1, hk⟩ := hm.lent1
  refine Calls.mono (hrun _ hz' hle hm1) ?_
  intro e w' he
  cases e with
  | returned v =>
    obtain ⟨M, hP, hM⟩ := he
    have hm2 := hk _ _ hM
    have hkk : (M ++ [blk w0.heap.size [.int .i64 0] 3])[M.length]? = some (blk w0.heap.size [.int .i64 0] 3) := by simp
    have hb := (hm2.blk_cells M.length hkk).1
    have hc : w'.cell? ⟨w0.heap.size, 0, none⟩ = some (.int .i64 0) := by simp [World.cell?, hb]
    have hf : w'.frozen? ⟨w0.heap.size, 0, none⟩ = false := by simp [World.frozen?, hb]
    go_wp2
    have hc2 : (w'.setCell ⟨w0.heap.size, 0, none⟩ (.int .i64 0)).cell? ⟨w0.heap.size, 0, none⟩ = some (.int .i64 0) := World.cell?_setCell_same _ _ _ hc
    have hm3 : Mem w0 hz (w'.setCell ⟨w0.heap.size, 0, none⟩ (.int .i64 0)) M := by
      have h3 := hm2.blk_set (i := 0) (v := .int .i64 0) M.length hkk
      refine h3.pick (List.range M.length) List.nodup_range ?_
      apply List.ext_getElem?
      intro i
      by_cases hi : i < M.length
      · rw [List.getElem?_map, List.getElem?_range hi, List.getElem?_map, Option.map_some, List.getElem?_set_ne (by omega), List.getElem?_append_left hi, List.getElem?_eq_getElem hi]; rfl
      · simp [List.getElem?_map, List.getElem?_eq_none (show M.length ≤ i by omega), List.getElem?_eq_none (show (List.range M.length).length ≤ i by simp; omega)]
    refine leaves_cons (f := 56) (args := #[.pointer (some ⟨w0.heap.size, 0, none⟩)]) (by simp) (by simp [go_sem]) ?_
    refine (catch_idle ⟨w0.heap.size, 0, none⟩ _).mono ?_
    rintro e' u' w'' ⟨rfl, rfl, rfl⟩
    simp [Leaves, settle, results, results34, go_sem, hc2]
    exact .inl ⟨M, hP, rfl, hm3⟩
  | panicked c =>
    obtain ⟨e, M, hP, rfl, hM⟩ := he
    have hm2 := hk _ _ hM
    have hkk : (M ++ [blk w0.heap.size [.int .i64 0] 3])[M.length]? = some (blk w0.heap.size [.int .i64 0] 3) := by simp
    have hb := (hm2.blk_cells M.length hkk).1
    have hc : w'.cell? ⟨w0.heap.size, 0, none⟩ = some (.int .i64 0) := by simp [World.cell?, hb]
    have hf : w'.frozen? ⟨w0.heap.size, 0, none⟩ = false := by simp [World.frozen?, hb]
    refine leaves_cons (f := 56) (args := #[.pointer (some ⟨w0.heap.size, 0, none⟩)]) (by simp) (by simp [go_sem]) ?_
    refine (catch_panicking ⟨w0.heap.size, 0, none⟩ 0 e [] _ hc hf).mono ?_
    rintro e' u' w'' ⟨rfl, rfl, rfl⟩
    have hc2 : (w'.setCell ⟨w0.heap.size, 0, none⟩ (.int .i64 e)).cell? ⟨w0.heap.size, 0, none⟩ = some (.int .i64 e) := World.cell?_setCell_same _ _ _ hc
    have hm3 : Mem w0 hz (w'.setCell ⟨w0.heap.size, 0, none⟩ (.int .i64 e)) M := by
      have h3 := hm2.blk_set (i := 0) (v := .int .i64 e) M.length hkk
      refine h3.pick (List.range M.length) List.nodup_range ?_
      apply List.ext_getElem?
      intro i
      by_cases hi : i < M.length
      · rw [List.getElem?_map, List.getElem?_range hi, List.getElem?_map, Option.map_some, List.getElem?_set_ne (by omega), List.getElem?_append_left hi, List.getElem?_eq_getElem hi]; rfl
      · simp [List.getElem?_map, List.getElem?_eq_none (show M.length ≤ i by omega), List.getElem?_eq_none (show (List.range M.length).length ≤ i by simp; omega)]
    simp [Leaves, settle, results, results34, go_sem, hc2]
    exact .inr ⟨e, M, hP, rfl, hm3⟩
  | outgrown => exact he.elim

theorem caught_ok2 {w0 : World} (hz : Heap) (L : List Ch) (fid : Nat) (cs : List Value) (PR : List Ch → Prop) (PX : Int → List Ch → Prop) (post : World → Value → World → Prop)
    (hm0 : Mem w0 hz w0 L) (hcall : ∀ us w, (callFunc fid us).run Tryd.prog w = .ok (.enter fid us) w)
    (hrun : ∀ w1 hz1, Heap.le hz hz1 → Mem w1 hz1 w1 L → ConX Tryd.prog fid cs w1 (fun v w' => ∃ M, PR M ∧ Mem w1 hz1 w' M) (fun c w' => ∃ e M, PX e M ∧ c = pch 94 e ∧ Mem w1 hz1 w' M))
    (hp : ∀ w v w', ((∃ M, PR M ∧ v = .int .i64 0 ∧ Mem w hz w' M) ∨ (∃ e M, PX e M ∧ v = .int .i64 e ∧ Mem w hz w' M)) → post w v w') :
    Con Tryd.prog 34 [.func (.func fid) #[] cs.toArray] w0 (post w0) := Con.weak (caught_ok w0 hz L fid cs PR PX hm0 hcall hrun) (hp w0)

theorem impl_runUnit_ok (w0 : World) (hz : Heap) (hle0 : Heap.le hz (hp w0)) (u : Unit_) (v1 : Value) (h1 : GT.rep hz [v1] u.codes) (in_ : List Int) (v2 : Value) (h2 : GT.rep hz [v2] in_) (steps : Int) :
    ConM Tryd.prog 19 [(.agg #[v1]), v2, (nV steps)] w0 (impl_runUnit u in_ steps) fun r v w' => ∃ (x1 : Value) (x2 : Value) (b3 : Nat) (x4 : Value) (x6 : Value) (hz2 : Heap), v = (.tuple #[(.agg #[x1, (nV r.1.end_), (nV r.1.value), x2]), (pV b3)]) ∧ Heap.le hz hz2 ∧ GT.rep hz2 [x4] r.2.u.codes ∧ Mem w0 hz2 w' [junk w0 hz, blk b3 (x4 :: (nV r.2.steps) :: (nV r.2.used) :: x1 :: q16 r.2.cells [x6]) 80, ow [x1] r.1.said, ow [x2] r.1.cells, ow [x6] r.2.trace] := by
  unfold impl_runUnit
  refine gcon func19 rfl fun r => ?_
  have hm := Mem.startA hle0
  refine gS (gR (gBx hm rfl fun b0_1 w hm => ?_))
  obtain ⟨p0_1, c0_1, rfl, hl0_1⟩ := ro_slice h2
  refine gBx hm rfl fun b0_2 w hm => gAl hm zeroValue31 rfl fun b0_3 w hm => gA rfl (gE (gS (gR (gY (yn (hm.blk_at 2 rfl) isAgg25 sizeOf25 rfl) (gM rfl ?_)))))
  obtain ⟨p0_2, c0_2, rfl, hl0_2⟩ := ro_slice h1
  refine gY (yG rfl (y_build (vs := [(0, (.agg #[(.slice p0_2 u.codes.length c0_2)])), (1, (nV steps))]) (cs := #[(.slice p0_2 u.codes.length c0_2), (nV steps), (nV 0), (.slice none 0 0), (nV 0), (nV 0), (nV 0), (nV 0), (nV 0), (nV 0), (nV 0), (nV 0), (nV 0), (nV 0), (nV 0), (nV 0), (nV 0), (nV 0), (nV 0), (nV 0), (.slice none 0 0)]) rfl rfl (by kernel_rfl))) (gBx hm rfl fun b0_4 w hm => gAl hm zeroValue47 rfl fun b0_5 w hm => gS1 hm 0 sizeOf47 rfl rfl fun w hm => gE (gS (gR (gAl hm zeroValue31 rfl fun b0_6 w hm => gE (gS (gR (gY (yU rfl) ?_)))))))
  replace hm := hm.nilow (α := Int)
  replace hm := hm.nilow (α := Int)
  replace hm := hm.nilow (α := Int)
  replace hm := hm.nilow (α := Int)
  refine gb fun r0_1 hx0_1 => ?_
  obtain ⟨hz0_1, hle, hm1, hsub, hk0_1⟩ := hm.take2 (L1 := [blk b0_4 [(.slice p0_2 u.codes.length c0_2), (nV steps), (nV 0), (.slice none 0 0), (nV 0), (nV 0), (nV 0), (nV 0), (nV 0), (nV 0), (nV 0), (nV 0), (nV 0), (nV 0), (nV 0), (nV 0), (nV 0), (nV 0), (nV 0), (nV 0), (.slice none 0 0)] 80, ow [(.slice none 0 0)] ([] : List Int), ow [(.slice none 0 0)] ([] : List Int), blk b0_6 [(.slice none 0 0), (nV 0), (nV 0), (.slice none 0 0)] 31, ow [(.slice none 0 0)] ([] : List Int), ow [(.slice none 0 0)] ([] : List Int)]) (L2 := [blk b0_5 [(pV b0_4)] 47, blk b0_3 [(.slice none 0 0), (nV 0), (nV 0), (.slice none 0 0)] 31, blk b0_2 [(.slice p0_1 in_.length c0_1)] 29, blk b0_1 [(.slice p0_2 u.codes.length c0_2)] 25, junk w0 hz]) [6, 3, 2, 4, 1, 0] [5, 7, 8, 9, 10] (by decide) rfl rfl
  have hcc0_1 := caught_ok2 hz0_1 [blk b0_4 [(.slice p0_2 u.codes.length c0_2), (nV steps), (nV 0), (.slice none 0 0), (nV 0), (nV 0), (nV 0), (nV 0), (nV 0), (nV 0), (nV 0), (nV 0), (nV 0), (nV 0), (nV 0), (nV 0), (nV 0), (nV 0), (nV 0), (nV 0), (.slice none 0 0)] 80, ow [(.slice none 0 0)] ([] : List Int), ow [(.slice none 0 0)] ([] : List Int), blk b0_6 [(.slice none 0 0), (nV 0), (nV 0), (.slice none 0 0)] 31, ow [(.slice none 0 0)] ([] : List Int), ow [(.slice none 0 0)] ([] : List Int)] 35 [(pV b0_5), (pV b0_1), (pV b0_2), (pV b0_6)] (fun M => ∃ q, r0_1 = .inl q ∧ ∃ (x2 : Value) (x3 : Value) (x4 : Value) (x5 : Value), M = [blk b0_4 ((.slice p0_2 u.codes.length c0_2) :: (nV q.1.steps) :: (nV q.1.used) :: x2 :: q16 q.1.cells [x3]) 80, blk b0_6 [x4, (nV q.2.end_), (nV q.2.value), x5] 31, ow [x2] q.1.said, ow [x3] q.1.trace, ow [x4] q.2.said, ow [x5] q.2.cells]) (fun e M => ∃ q, r0_1 = .inr q ∧ ∃ (x2 : Value) (x3 : Value) (x4 : Value) (x5 : Value), e = q.1 ∧ M = [blk b0_4 ((.slice p0_2 u.codes.length c0_2) :: (nV q.2.1.steps) :: (nV q.2.1.used) :: x2 :: q16 q.2.1.cells [x3]) 80, blk b0_6 [x4, (nV q.2.2.end_), (nV q.2.2.value), x5] 31, ow [x2] q.2.1.said, ow [x3] q.2.1.trace, ow [x4] q.2.2.said, ow [x5] q.2.2.cells]) (fun w v w' => ∃ (x2 : Value) (x3 : Value) (x4 : Value) (x5 : Value), v = (nV ((caughtM r0_1).1)) ∧ Mem w hz0_1 w' [blk b0_4 ((.slice p0_2 u.codes.length c0_2) :: (nV ((caughtM r0_1).2.1.steps)) :: (nV ((caughtM r0_1).2.1.used)) :: x2 :: q16 (((caughtM r0_1).2.1.cells)) [x3]) 80, blk b0_6 [x4, (nV ((caughtM r0_1).2.2.end_)), (nV ((caughtM r0_1).2.2.value)), x5] 31, ow [x2] ((caughtM r0_1).2.1.said), ow [x3] ((caughtM r0_1).2.1.trace), ow [x4] ((caughtM r0_1).2.2.said), ow [x5] ((caughtM r0_1).2.2.cells)]) hm1 call35 (fun w1 hz1 hle1 hm2 => ConX.mono (impl_runUnit_1_ok w1 hz1 (⟨u, steps, 0, ([] : List Int), (List.replicate 16 0), ([] : List Int)⟩ : running) b0_5 b0_4 (.slice p0_2 u.codes.length c0_2) (GT.mono hle1 (GT.mono hle h1)) (.slice none 0 0) (.slice none 0 0) (hle1 _ _ (fz_blk (hsub 0 _ rfl))) u b0_1 (.slice p0_2 u.codes.length c0_2) (GT.mono hle1 (GT.mono hle h1)) (hle1 _ _ (fz_blk (hsub 3 _ rfl))) in_ b0_2 (.slice p0_1 in_.length c0_1) (GT.mono hle1 (GT.mono hle h2)) (hle1 _ _ (fz_blk (hsub 2 _ rfl))) (⟨([] : List Int), 0, 0, ([] : List Int)⟩ : Outcome_) b0_6 (.slice none 0 0) (.slice none 0 0) hm2  r0_1 hx0_1) (by rintro v w' ⟨q, hr, x2, x3, x4, x5, rfl, hB⟩; exact ⟨_, ⟨q, hr, x2, x3, x4, x5, rfl⟩, hB⟩) (by rintro c w' ⟨q, hr, x2, x3, x4, x5, rfl, hB⟩; exact ⟨_, _, ⟨q, hr, x2, x3, x4, x5, rfl, rfl⟩, rfl, hB⟩)) (by rintro w v w' (⟨M, ⟨q, rfl, x2, x3, x4, x5, rfl⟩, rfl, hB⟩ | ⟨e, M, ⟨q, rfl, x2, x3, x4, x5, rfl, rfl⟩, rfl, hB⟩) <;> exact ⟨x2, x3, x4, x5, rfl, hB⟩)
  refine gf rfl (fun a hf => e_call hf rfl call34 rfl hcc0_1) ?_
  rintro v0_1 w ⟨v0_2, v0_3, v0_4, v0_5, rfl, hB⟩
  replace hm := hk0_1 _ _ hB; clear hB
  refine gF fo_31_1 rfl (gS1 hm 1 sizeOf3 rfl rfl fun w hm => gE (gS (gW (.q 0 (.p 1 (.p 2 (.q 3 (.p 9 (.e 4 (.p 5 (.p 6 (.p 7 (.e 8 (.e 10 (.p 11 (.e 12 .fin .nil)) .nil) .nil)))) .nil)))))) [4, 8] [1, 2, 5, 6, 7, 9, 11] hm [0, 1, 2, 3, 4, 5, 6, 7, 8, 9, 10] [blk b0_4 ((.slice p0_2 u.codes.length c0_2) :: (nV ((caughtM r0_1).2.1.steps)) :: (nV ((caughtM r0_1).2.1.used)) :: v0_2 :: q16 (((caughtM r0_1).2.1.cells)) [v0_3]) 80, blk b0_6 [v0_4, (nV ((caughtM r0_1).1)), (nV ((caughtM r0_1).2.2.value)), v0_5] 31, ow [v0_2] ((caughtM r0_1).2.1.said), ow [v0_3] ((caughtM r0_1).2.1.trace), ow [v0_4] ((caughtM r0_1).2.2.said), ow [v0_5] ((caughtM r0_1).2.2.cells), blk b0_5 [(pV b0_4)] 47, blk b0_3 [(.slice none 0 0), (nV 0), (nV 0), (.slice none 0 0)] 31, blk b0_2 [(.slice p0_1 in_.length c0_1)] 29, blk b0_1 [(.slice p0_2 u.codes.length c0_2)] 25, junk w0 hz] rfl mxo (by kernel_rfl) (fun _ _ _ h => h.2) fun w hm hS => tQ rfl hS (fun w hm => yL hm 6 isAgg47 rfl) (tP rfl (fun w => yG rfl (y_nilptr rfl rfl)) (tP rfl (fun w => yF fo_80_3 rfl) (tQ rfl hS (fun w hm => yL hm 0 isAgg29 rfl) (tP rfl (fun w => yF fo_31_0 rfl) (tO (tY rfl (yL hm 6 isAgg47 rfl) (tAs hS (tP rfl (fun w => yG rfl (y_nilptr rfl rfl)) (tP rfl (fun w => yF fo_80_4 rfl) (tP rfl (fun w => yG rfl (y_slcArr (n := 16) underlying78 rfl rfl sizeOf3)) (tO (gb fun r0_2 hx0_2 => ?_)))))))))))))))
  refine tf rfl rfl (fun a hf => e_call hf rfl call31 rfl (slices_Clone_S_int_int_ok _ (normA 16 ((caughtM r0_1).2.1.cells)) (sV b0_4 4 16 16) (hm.arr_rep (pre := [(.slice p0_2 u.codes.length c0_2), (nV ((caughtM r0_1).2.1.steps)), (nV ((caughtM r0_1).2.1.used)), v0_2]) (post := [v0_3]) (arr := ((caughtM r0_1).2.1.cells)) (n := 16) 0 rfl (by decide)) _ hx0_2)) ?_
  rintro v0_6 w ⟨_, rfl, hB⟩
  replace hm := hm.give hB; clear hB
  refine tAk hm [1, 2, 3, 4, 5, 6, 7, 8, 9, 10, 11] rfl fun hS => tO (tf0 rfl rfl (fun a hf => e_store1 2 hf hm rfl sizeOf29 rfl rfl rfl (rep_one (hm.ow_rep 3 rfl)) rfl) ?_)
  rintro _ w hm
  refine tAn rfl (tP rfl (fun w => yF fo_31_3 rfl) (tO (tf0 rfl rfl (fun a hf => e_store1 2 hf hm rfl sizeOf29 rfl rfl rfl (rep_one (hm.ow_rep 0 rfl)) rfl) ?_)))
  rintro _ w hm
  refine tAn rfl (tE (gS (gW (.q 0 (.q 1 (.e 2 (.p 3 .fin) .nil))) [0, 1, 2] [3] hm [0, 1, 2, 3, 4, 5, 6, 7, 9, 10, 11] [ow [v0_6] r0_2, blk b0_4 ((.slice p0_2 u.codes.length c0_2) :: (nV ((caughtM r0_1).2.1.steps)) :: (nV ((caughtM r0_1).2.1.used)) :: v0_2 :: q16 (((caughtM r0_1).2.1.cells)) [v0_3]) 80, blk b0_6 [v0_2, (nV ((caughtM r0_1).1)), (nV ((caughtM r0_1).2.2.value)), v0_6] 31, ow [v0_2] ((caughtM r0_1).2.1.said), ow [v0_3] ((caughtM r0_1).2.1.trace), ow [v0_4] ((caughtM r0_1).2.2.said), ow [v0_5] ((caughtM r0_1).2.2.cells), blk b0_5 [(pV b0_4)] 47, blk b0_2 [(.slice p0_1 in_.length c0_1)] 29, blk b0_1 [(.slice p0_2 u.codes.length c0_2)] 25, junk w0 hz] rfl mxo (by kernel_rfl) (fun _ _ _ h => h.2) fun w hm hS => tQ rfl hS (fun w hm => yn (hm.blk_at 2 rfl) isAgg31 sizeOf31 rfl) (tQ rfl hS (fun w hm => yL hm 7 isAgg47 rfl) (tO (tf0 rfl rfl (fun a hf => e_storeN 8 hf hm rfl sizeOf31 rfl rfl rfl (one_cons (rep_one (hm.ow_rep 3 rfl)) (one_cons rfl (one_cons rfl (one_cons (rep_one (hm.ow_rep 0 rfl)) one_nil)))) rfl rfl) ?_))))))
  rintro _ w hm
  exact tAk hm [0, 1, 2, 3, 4, 5, 6, 7, 9, 10, 11] rfl fun hS => tP rfl (fun w => yA rfl) (tE (gRt (grct 8 results19 hm rfl isAgg31 sizeOf31 ⟨v0_2, v0_6, b0_4, (.slice p0_2 u.codes.length c0_2), v0_3, hz, rfl, (Heap.le_refl _), h1, hm.pk [11, 1, 3, 0, 4] rfl rfl⟩)))

theorem impl_RunUnit_ok (w0 : World) (u : Unit_) (v1 : Value) (h1 : GT.rep (hp w0) [v1] u.codes) (in_ : List Int) (v2 : Value) (h2 : GT.rep (hp w0) [v2] in_) (steps : Int) :
    ConM Tryd.prog 7 [(.agg #[v1]), v2, (nV steps)] w0 (impl_RunUnit u in_ steps) fun r v w' => ∃ (x1 : Value) (x2 : Value), v = (.tuple #[(.agg #[x1, (nV r.1.end_), (nV r.1.value), x2]), (.bool (r.2))]) ∧ Mem w0 (hp w0) w' [ow [x1] r.1.said, ow [x2] r.1.cells] := by
  unfold impl_RunUnit
  refine gcon func7 rfl fun r => ?_
  have hm := Mem.start w0
  refine gS (gR (gBx hm rfl fun b0_1 w hm => gAl hm zeroValue31 rfl fun b0_2 w hm => gA rfl (gE (gS (gS (gR (gY (yn (hm.blk_at 1 rfl) isAgg25 sizeOf25 rfl) (gM rfl (gM rfl (gC hm rfl call18 (impl_unitRuns_ok _ u v1 (hm.now h1) in_ v2 (hm.now h2) steps) fun r0_1 hx0_1 w hm => gN rfl (gE (gsn 14 rfl (fun h0_1 => ?_) fun h0_1 => ?_))))))))))))
  ·
   refine gct rfl (gS (gR (gY (yG rfl (y_build (vs := []) (cs := #[(.slice none 0 0), (nV 0), (nV 0), (.slice none 0 0)]) rfl rfl (by kernel_rfl))) (gSN hm 0 sizeOf31 (one_cons rfl (one_cons rfl (one_cons rfl (one_cons rfl one_nil)))) rfl fun w hm => gA rfl (gE (gRt ?_))))))
   replace hm := hm.nilow (α := Int)
   replace hm := hm.nilow (α := Int)
   exact grct 2 results7 hm rfl isAgg31 sizeOf31 ⟨(.slice none 0 0), (.slice none 0 0), rfl, hm.pk [1, 0] rfl rfl⟩
  refine gcf rfl (gSk (gS (gR (gY (yn (hm.blk_at 1 rfl) isAgg25 sizeOf25 rfl) (gM rfl (gM rfl (gCg rfl call19 (impl_runUnit_ok _ _ hm.lez u v1 h1 in_ v2 h2 steps ) ?_)))))))
  rintro r0_2 hx0_2 v0_2 w ⟨v0_3, v0_4, b0_3, v0_5, v0_6, hz0_1, rfl, hle0_1, h0_2, hB⟩
  replace hm := Mem.giveA hm hle0_1 hB; clear hB
  refine gM rfl (gX rfl (gX rfl (gAl hm zeroValue31 rfl fun b0_4 w hm => gSN hm 0 sizeOf31 (one_cons (rep_one (hm.ow_rep 2 rfl)) (one_cons rfl (one_cons rfl (one_cons (rep_one (hm.ow_rep 3 rfl)) one_nil)))) rfl fun w hm => gA rfl (gE (gS (gR (gY (yn (hm.blk_at 0 rfl) isAgg31 sizeOf31 rfl) (gSN hm 5 sizeOf31 (one_cons (rep_one (hm.ow_rep 2 rfl)) (one_cons rfl (one_cons rfl (one_cons (rep_one (hm.ow_rep 3 rfl)) one_nil)))) rfl fun w hm => gA rfl (gE (gRt ?_))))))))))
  replace hm := hm.thaw hle0_1
  exact grct 5 results7 hm rfl isAgg31 sizeOf31 ⟨v0_3, v0_4, rfl, hm.pk [2, 3] rfl rfl⟩

theorem spec_l5Values_ok (w0 : World) (list : List Int) (v1 : Value) (h1 : GT.rep (hp w0) [v1] list) :
    ConM Tryd.prog 37 [v1] w0 (spec_l5Values list) fun r v w' => v = (.bool (r)) ∧ Below w0.heap.size w0 w' := by
  unfold spec_l5Values
  refine gcon func37 rfl fun r => ?_
  have hm := Mem.start w0
  refine gS (gR (gA rfl (gE (gS (gS (gR (gA rfl (gE (gBk (gNf hm (fun i1_1 xs1_1 => [(0, v1), (3, (nV i1_1))]) (fun i1_1 xs1_1 => []) [] rfl ?_ ?_))))))))))
  ·
   repeat clear hm
   intro r0_1 hq0_1 i1_1 xs1_1 w hm hi0_1 hi0_2 q0_1 ho0_1
   refine gS (gS (gR (gM rfl (gM rfl ?_))))
   obtain ⟨p1_1, c1_1, rfl, hl1_1⟩ := ro_slice h1
   refine gY (yV st_29 rfl) (gB rfl (gE (go _ 7 rfl (decide_eq_true (by omega)) (gct rfl (gSk (gS (gBk (gS (gR (gM rfl (gM rfl (gg fun x1_1 h1_1 hx1_2 => ?_))))))))))))
   obtain ⟨b1_1, o1_1, c1_2, he⟩ := idx_form h1 hx1_2
   simp only [Value.slice.injEq, Option.some.injEq] at he; obtain ⟨rfl, _, rfl⟩ := he
   refine gI st_29 h1_1 (idx_lt hx1_2) rfl (gY (yl isAgg3 ((flat_cells (cs := [(nV x1_1)]) (hm.now h1) hx1_2 rfl).cell (j := 0) rfl) rfl) (gC hm rfl call21 (spec_l1In_ok _ x1_1 0 255) fun r1_1 hx1_3 w hm => gN rfl (gE (gsn 15 rfl (fun h1_2 => ?_) fun h1_2 => ?_))))
   ·
    exact gct rfl (gS (gR (gA rfl (gE (gRt (gLr ho0_1 hq0_1 (gr1 results37 rfl ⟨rfl, hm.below⟩)))))))
   exact gcf rfl (gSk (gR (gM rfl (gP (by omega) (by omega) rfl (gA rfl (gE (gze hm [] rfl)))))))
  repeat clear hm
  intro i0_1 xs0_1 w hm hi0_3 hi0_4
  refine gS (gS (gR (gM rfl (gM rfl ?_))))
  obtain ⟨p0_1, c0_1, rfl, hl0_1⟩ := ro_slice h1
  exact gY (yV st_29 rfl) (gB rfl (gE (go _ 7 rfl (decide_eq_false (by omega)) (gcf rfl (gXt (gHh (gS (gR (gA rfl (gE (gRt (gr1 results37 rfl ⟨rfl, hm.below⟩))))))))))))

theorem spec_l8Fits_ok (w0 : World) (u : Unit_) (v1 : Value) (h1 : GT.rep (hp w0) [v1] u.codes) (in_ : List Int) (v2 : Value) (h2 : GT.rep (hp w0) [v2] in_) :
    ConM Tryd.prog 20 [(.agg #[v1]), v2] w0 (spec_l8Fits u in_) fun r v w' => v = (.bool (r)) ∧ Below w0.heap.size w0 w' := by
  unfold spec_l8Fits
  refine gcon func20 rfl fun r => ?_
  have hm := Mem.start w0
  refine gS (gR (gBx hm rfl fun b0_1 w hm => gA rfl (gE (gS (gJ hm (fun s0_1 => [(4, (.bool (s0_1)))]) (fun s0_1 => []) (fun s0_1 => ?_) ?_)))))
  ·
   refine gR (gY (yn (hm.blk_at 0 rfl) isAgg25 sizeOf25 rfl) (gC hm rfl call16 (spec_UnitValid_ok _ u v1 (hm.now h1)) fun r1_1 hx1_1 w hm => gM rfl (gs 7 rfl (fun h1_1 => ?_) fun h1_1 => ?_)))
   ·
    refine gM rfl (gC hm rfl call37 (spec_l5Values_ok _ in_ v2 (hm.now h2)) fun r1_2 hx1_2 w hm => gKt rfl (gM rfl (gs 11 rfl (fun h1_2 => ?_) fun h1_2 => ?_)))
    ·
     refine gM rfl ?_
     obtain ⟨p1_1, c1_1, rfl, hl1_1⟩ := ro_slice h2
     refine gY (yV st_29 rfl) (gF fo_25_0 rfl (gL hm 0 isAgg23 rfl (gF fo_25_0 rfl (gL hm 0 isAgg23 rfl ?_))))
     obtain ⟨p1_2, c1_2, rfl, hl1_2⟩ := ro_slice h1
     refine gY (yV st_23 rfl) (gY (yS (by omega) (by omega) rfl) (gg fun x1_1 h1_3 hx1_4 => ?_))
     obtain ⟨b1_1, o1_1, c1_3, he⟩ := idx_form' h1 hx1_4
     simp only [Value.slice.injEq, Option.some.injEq] at he; obtain ⟨rfl, _, rfl⟩ := he
     obtain ⟨v1_3, hc1_1, h1_4⟩ := rk_Code_ h1 hx1_4
     exact gI st_23 h1_3 (idx_lt hx1_4) rfl (gF fo_45_0 rfl (gY (yl isAgg3 ((hc1_1.mono hm.lez).cell (j := 0) rfl) rfl) (gB rfl (gKt rfl (gA rfl (gE (gz hm [] rfl)))))))
    exact gO rfl (gO rfl (gO rfl (gO rfl (gO rfl (gO rfl (gO rfl (gO rfl (gO rfl (gO rfl (gO rfl (gO rfl (gKf rfl (gA rfl (gE (gz hm [] rfl)))))))))))))))
   exact gO rfl (gO rfl (gKf rfl (gM rfl (gO rfl (gO rfl (gO rfl (gO rfl (gO rfl (gO rfl (gO rfl (gO rfl (gO rfl (gO rfl (gO rfl (gO rfl (gKf rfl (gA rfl (gE (gz hm [] rfl)))))))))))))))))))
  repeat clear hm
  intro s0_1 w hm
  exact gRt (gr1 results20 rfl ⟨rfl, hm.below⟩)

theorem pspec_l8Run__stop_ok (w0 : World) (hz : Heap) (r_ : l8Run) (bp0 : Nat) (v1p : Value) (h1p : GT.rep hz [v1p] r_.u.codes) (v2p : Value) (v3p : Value) (v4p : Value) (end_ : Int) (hm0 : Mem w0 hz w0 [blk bp0 [v1p, v2p, (nV r_.out.end_), (nV r_.out.value), v3p, (nV r_.steps), (.bool (r_.over)), v4p] 53, ow [v2p] r_.out.said, ow [v3p] r_.out.cells, ow [v4p] r_.trace]) :
    ConM Tryd.prog 82 [(pV bp0), (nV end_)] w0 (pspec_l8Run__stop r_ end_) fun r v w' => ∃ (x2 : Value) (x3 : Value) (x4 : Value), v = (.tuple #[]) ∧ Mem w0 hz w' [blk bp0 [v1p, x2, (nV r.out.end_), (nV r.out.value), x3, (nV r.steps), (.bool (r.over)), x4] 53, ow [x2] r.out.said, ow [x3] r.out.cells, ow [x4] r.trace] := by
  unfold pspec_l8Run__stop
  refine gcon func82 rfl fun r => ?_
  have hm := hm0
  refine gS (gR (gM rfl (gY (yG rfl (y_nilptr rfl rfl)) (gF fo_53_3 rfl (gL hm 0 isAgg4 rfl (gN rfl (gE (gJ hm (fun s0_1 => []) (fun s0_1 => [blk bp0 [v1p, v2p, (nV s0_1.1), (nV r_.out.value), v3p, (nV r_.steps), (.bool (s0_1.2)), v4p] 53, ow [v2p] r_.out.said, ow [v3p] r_.out.cells, ow [v4p] r_.trace]) (fun s0_1 => ?_) ?_))))))))
  ·
   refine gsn 8 rfl (fun h1_1 => ?_) fun h1_1 => ?_
   ·
    exact gct rfl (gS (gR (gM rfl (gM rfl (gY (yG rfl (y_nilptr rfl rfl)) (gF fo_53_1 rfl (gF fo_31_1 rfl (gS1 hm 0 sizeOf3 rfl rfl fun w hm => gE (gR (gM rfl (gY (yG rfl (y_nilptr rfl rfl)) (gF fo_53_3 rfl (gS1 hm 0 sizeOf4 rfl rfl fun w hm => gE (gz hm [0, 1, 2, 3] rfl))))))))))))))
   exact gcf rfl (gSk (gz hm [0, 1, 2, 3] rfl))
  repeat clear hm
  intro s0_1 w hm
  exact gre results82 ⟨v2p, v3p, v4p, rfl, hm.pk [0, 1, 2, 3] rfl rfl⟩

theorem pspec_l8Run__take_ok (w0 : World) (hz : Heap) (r_ : l8Run) (bp0 : Nat) (v1p : Value) (h1p : GT.rep hz [v1p] r_.u.codes) (v2p : Value) (v3p : Value) (v4p : Value) (hm0 : Mem w0 hz w0 [blk bp0 [v1p, v2p, (nV r_.out.end_), (nV r_.out.value), v3p, (nV r_.steps), (.bool (r_.over)), v4p] 53, ow [v2p] r_.out.said, ow [v3p] r_.out.cells, ow [v4p] r_.trace]) :
    ConM Tryd.prog 62 [(pV bp0)] w0 (pspec_l8Run__take r_) fun r v w' => ∃ (x2 : Value) (x3 : Value) (x4 : Value), v = (.bool (r.1)) ∧ Mem w0 hz w' [blk bp0 [v1p, x2, (nV r.2.out.end_), (nV r.2.out.value), x3, (nV r.2.steps), (.bool (r.2.over)), x4] 53, ow [x2] r.2.out.said, ow [x3] r.2.out.cells, ow [x4] r.2.trace] := by
  unfold pspec_l8Run__take
  refine gcon func62 rfl fun r => ?_
  have hm := hm0
  refine gS (gR (gA rfl (gE (gS (gS (gR (gM rfl (gY (yG rfl (y_nilptr rfl rfl)) (gF fo_53_2 rfl (gL hm 0 isAgg3 rfl (gB rfl (gE (gJg (fun s0_1 a w => ∃ (v0_1 : Value) (v0_2 : Value) (v0_3 : Value), St 22 [(0, (pV bp0))] w0 hz [blk bp0 [v1p, v0_1, (nV s0_1.2.1), (nV s0_1.2.2.1), v0_2, (nV s0_1.2.2.2.2.1), (.bool (s0_1.2.2.2.2.2.1)), v0_3] 53, ow [v0_1] s0_1.1, ow [v0_2] s0_1.2.2.2.1, ow [v0_3] s0_1.2.2.2.2.2.2] a w) (fun s0_1 => ?_) ?_)))))))))))))
  ·
   refine gsd 7 rfl (fun h1_1 => ?_) fun h1_1 => ?_
   ·
    refine gct rfl (gR (gM rfl ?_))
    obtain ⟨hz1_1, hle, hm1, hsub, hk1_1⟩ := hm.take2 (L1 := [blk bp0 [v1p, v2p, (nV r_.out.end_), (nV r_.out.value), v3p, (nV r_.steps), (.bool (r_.over)), v4p] 53, ow [v2p] r_.out.said, ow [v3p] r_.out.cells, ow [v4p] r_.trace]) (L2 := []) [0, 1, 2, 3] [] (by decide) rfl rfl
    refine gCg rfl call82 (pspec_l8Run__stop_ok _ hz1_1 r_ bp0 v1p (GT.mono hle h1p) v2p v3p v4p 3 hm1 ) ?_
    rintro r1_1 hx1_1 v1_1 w ⟨v1_2, v1_3, v1_4, rfl, hB⟩
    replace hm := hk1_1 _ _ hB; clear hB
    exact gE (gZ fun a hf => ⟨v1_2, v1_3, v1_4, hf.sb rfl, hm.pk [0, 1, 2, 3] rfl rfl⟩)
   exact gcf rfl (gSk (gZ fun a hf => ⟨v2p, v3p, v4p, hf.sb rfl, hm.pk [0, 1, 2, 3] rfl rfl⟩))
  repeat clear hm
  rintro s0_1 a w ⟨v0_1, v0_2, v0_3, hf, hm⟩
  refine gv hf (gS (gS (gR (gM rfl (gY (yG rfl (y_nilptr rfl rfl)) (gF fo_53_3 rfl (gL hm 0 isAgg4 rfl (gE (gs 13 rfl (fun h0_1 => ?_) fun h0_1 => ?_)))))))))
  ·
   exact gct rfl (gS (gR (gA rfl (gE (gRt (gr1 results62 rfl ⟨v0_1, v0_2, v0_3, rfl, hm.pk [0, 1, 2, 3] rfl rfl⟩))))))
  exact gcf rfl (gSk (gS (gR (gM rfl (gM rfl (gY (yG rfl (y_nilptr rfl rfl)) (gF fo_53_2 rfl (gL hm 0 isAgg3 rfl (gB rfl (gY (yG rfl (y_nilptr rfl rfl)) (gF fo_53_2 rfl (gS1 hm 0 sizeOf3 rfl rfl fun w hm => gE (gS (gR (gA rfl (gE (gRt (gr1 results62 rfl ⟨v0_1, v0_2, v0_3, rfl, hm.pk [0, 1, 2, 3] rfl rfl⟩))))))))))))))))))

theorem pspec_l8Run__phis_ok (w0 : World) (hz : Heap) (r_ : l8Run) (bp0 : Nat) (v1p : Value) (h1p : GT.rep hz [v1p] r_.u.codes) (v2p : Value) (h2p : GT.rep hz [v2p] r_.out.said) (v3p : Value) (h3p : GT.rep hz [v3p] r_.out.cells) (v4p : Value) (h4p : GT.rep hz [v4p] r_.trace) (hbbp0 : hz bp0 = some (.cells ([v1p, v2p, (nV r_.out.end_), (nV r_.out.value), v3p, (nV r_.steps), (.bool (r_.over)), v4p] : List Value).toArray 53 (0, 0))) (c_ : Code_) (v1 : Value) (h1 : GT.rep hz [v1] c_.blocks) (from_ : Int) (b_ : Int) (regs : List Int) (v2 : Value) (hm0 : Mem w0 hz w0 [ow [v2] regs]) :
    ConM Tryd.prog 64 [(pV bp0), (.agg #[(nV c_.params), (nV c_.regs), v1]), (nV from_), (nV b_), v2] w0 (pspec_l8Run__phis r_ c_ from_ b_ regs) fun r v w' => v = (.tuple #[]) ∧ Mem w0 hz w' [ow [v2] r] := by
  unfold pspec_l8Run__phis
  refine gcon func64 rfl fun r => ?_
  have hm := hm0
  refine gS (gR (gBx hm rfl fun b0_1 w hm => gE (gS (gS (gR (gF fo_45_2 rfl (gL hm 0 isAgg43 rfl (gM rfl (gg fun x0_1 h0_1 hx0_2 => ?_)))))))))
  obtain ⟨b0_2, o0_1, c0_1, he⟩ := idx_form' h1 hx0_2
  subst he
  obtain ⟨v0_1, v0_2, v0_3, hc0_1, h0_2, h0_3, h0_4⟩ := rk_Block_ h1 hx0_2
  refine gI st_43 h0_1 (idx_lt hx0_2) rfl (gF fo_65_0 rfl (gY (yl isAgg62 ((hc0_1.mono hm.lez).cell (j := 0) rfl) rfl) ?_))
  obtain ⟨p0_1, c0_2, rfl, hl0_1⟩ := ro_slice h0_2
  refine gY (yV st_62 rfl) (gB rfl (gE (gsd 22 rfl (fun h0_5 => ?_) fun h0_5 => ?_)))
  ·
   exact gct rfl (gRt (gr0 results64 ⟨rfl, hm.pk [1] rfl rfl⟩))
  refine gcf rfl (gSk (gS (gR (gY (yn (hm.blk_at 0 rfl) isAgg45 sizeOf45 rfl) (gM rfl (gCg rfl call51 (spec_l7Preds_ok _ c_ (sV b0_2 o0_1 c_.blocks.length c0_1) (hm.now h1) b_) ?_))))))
  rintro r0_1 hx0_3 v0_4 w ⟨_, rfl, hB⟩
  replace hm := hm.give hB; clear hB
  refine gA rfl (gE (gS (gR (gA rfl (gE (gS ?_))))))
  obtain ⟨p0_2, c0_3, rfl, hl0_2⟩ := ro_slice (hm.ow_rep 2 rfl)
  obtain ⟨p0_3, c0_4, rfl, hl0_3⟩ := ro_slice (hm.ow_rep 0 rfl)
  refine gJ hm (fun s0_1 => [(3, (nV b_)), (4, (.slice p0_2 regs.length c0_3)), (6, (pV b0_1)), (11, (nV s0_1))]) (fun s0_1 => [ow [(.slice p0_2 regs.length c0_3)] regs, blk b0_1 [(nV c_.params), (nV c_.regs), (sV b0_2 o0_1 c_.blocks.length c0_1)] 45]) (fun s0_1 => ?_) ?_
  ·
   refine gBk (gMf hm (fun xs2_1 => [(2, (nV from_)), (3, (nV b_)), (4, (.slice p0_2 regs.length c0_3)), (6, (pV b0_1)), (10, (.slice p0_3 r0_1.length c0_4)), (11, (nV xs2_1))]) (fun xs2_1 => [ow [(.slice p0_2 regs.length c0_3)] regs, blk b0_1 [(nV c_.params), (nV c_.regs), (sV b0_2 o0_1 c_.blocks.length c0_1)] 45, ow [(.slice p0_3 r0_1.length c0_4)] r0_1]) [2, 1, 0] rfl ?_)
   repeat clear hm
   intro r1_1 hq1_1 xs2_1 w hm q1_1 ho1_1
   refine gS (gS (gR (gM rfl (gM rfl (gg fun x2_1 h2_1 hx2_2 => ?_)))))
   obtain ⟨b2_1, o2_1, c2_1, he⟩ := idx_form (hm.ow_rep 2 rfl) hx2_2
   simp only [Value.slice.injEq, Option.some.injEq] at he; obtain ⟨rfl, _, rfl⟩ := he
   refine gI st_29 h2_1 (idx_lt hx2_2) rfl (gY (yl isAgg3 ((flat_cells (cs := [(nV x2_1)]) (hm.ow_rep 2 rfl) hx2_2 rfl).cell (j := 0) rfl) rfl) (gM rfl (gB rfl (gE (gsd 31 rfl (fun h2_2 => ?_) fun h2_2 => ?_)))))
   ·
    exact gct rfl (gSk (gBk (gR (gM rfl (gB rfl (gA rfl (gE (gze hm [0, 1, 2] rfl))))))))
   exact gcf rfl (gXt (gHh (gLp ho1_1 hq1_1 (gz hm [0, 1] rfl))))
  repeat clear hm
  intro s0_1 w hm
  refine gS (gR (gf rfl (fun a hf => e_build0 (α := Int) et_29 hm rfl) ?_))
  rintro v0_6 w hm
  refine gA rfl (gE (gS (gS (gR (gA rfl (gE ?_))))))
  obtain ⟨p0_4, c0_5, rfl, hl0_4⟩ := ro_slice (hm.ow_rep 0 rfl)
  refine gBk (gNg (fun i1_1 xs1_1 a w => ∃ (v1_1 : Value), St 87 [(3, (nV b_)), (4, (.slice p0_2 regs.length c0_3)), (6, (pV b0_1)), (11, (nV s0_1)), (12, v1_1), (13, (nV i1_1))] w0 hz [ow [(.slice p0_2 regs.length c0_3)] regs, blk b0_1 [(nV c_.params), (nV c_.regs), (sV b0_2 o0_1 c_.blocks.length c0_1)] 45, ow [v1_1] xs1_1] a w) (fun a hf => ⟨(.slice p0_4 ([] : List Int).length c0_5), hf.sb rfl, hm.pk [1, 2, 0] rfl rfl⟩) ?_ ?_)
  ·
   repeat clear hm
   rintro _ _ i1_1 xs1_1 a w ⟨v1_1, hf, hm⟩ hi0_1 hi0_2 q0_1 _
   refine gv hf (gS (gS (gR (gM rfl (gF fo_45_2 rfl (gL hm 1 isAgg43 rfl (gM rfl (gI st_43 h0_1 (idx_lt hx0_2) rfl (gF fo_65_0 rfl (gY (yl isAgg62 ((hc0_1.mono hm.lez).cell (j := 0) rfl) rfl) (gY (yV st_62 rfl) (gB rfl (gE (go _ 43 rfl (decide_eq_true (by omega)) (gct rfl (gSk (gS (gBk (gR (gM rfl (gM rfl (gF fo_45_2 rfl (gL hm 1 isAgg43 rfl (gM rfl (gI st_43 h0_1 (idx_lt hx0_2) rfl (gF fo_65_0 rfl (gY (yl isAgg62 ((hc0_1.mono hm.lez).cell (j := 0) rfl) rfl) (gM rfl (gg fun x1_1 h1_1 hx1_2 => ?_)))))))))))))))))))))))))))))
   obtain ⟨b1_1, o1_1, c1_1, he⟩ := idx_form' h0_2 hx1_2
   simp only [Value.slice.injEq, Option.some.injEq] at he; obtain ⟨rfl, _, rfl⟩ := he
   obtain ⟨v1_2, hc1_1, h1_2⟩ := rk_Phi_ h0_2 hx1_2
   refine gI st_62 h1_1 (idx_lt hx1_2) rfl (gF fo_70_1 rfl (gY (yl isAgg29 ((hc1_1.mono hm.lez).cell (j := 1) rfl) rfl) (gM rfl (gg fun x1_2 h1_3 hx1_4 => ?_))))
   obtain ⟨b1_2, o1_2, c1_2, he⟩ := idx_form h1_2 hx1_4
   subst he
   refine gI st_29 h1_3 (idx_lt hx1_4) rfl (gY (yl isAgg3 ((flat_cells (cs := [(nV x1_2)]) (hm.now h1_2) hx1_4 rfl).cell (j := 0) rfl) rfl) (gg fun x1_3 h1_4 hx1_6 => ?_))
   obtain ⟨b1_3, o1_3, c1_3, he⟩ := idx_form (hm.ow_rep 0 rfl) hx1_6
   simp only [Value.slice.injEq, Option.some.injEq] at he; obtain ⟨rfl, _, rfl⟩ := he
   refine gI st_29 h1_4 (idx_lt hx1_6) rfl (gY (yl isAgg3 ((flat_cells (cs := [(nV x1_3)]) (hm.ow_rep 0 rfl) hx1_6 rfl).cell (j := 0) rfl) rfl) (gf rfl (fun a hf => e_build (vs := #[(0, (nV x1_3))]) (cs := [(nV x1_3)]) et_29 hf hm rfl rfl (by kernel_rfl) rfl rfl) ?_))
   rintro _ w ⟨b1_4, rfl, hm⟩
   replace hm := hm.lit (xs := ([x1_3] : List Int)) 0 rfl rfl rfl rfl
   refine gb fun ys1_1 hx1_7 => ?_
   obtain ⟨h1_5, h1_5e⟩ := appM_some.1 hx1_7
   refine gf rfl (fun a hf => e_append 3 et_29 hf hm rfl (hm.ow_rep 0 rfl) rfl rfl rfl h1_5) ?_
   rintro v1_3 w hm
   rw [h1_5e] at hm
   exact gA rfl (gE (gR (gM rfl (gP (by omega) (by omega) rfl (gA rfl (gE (gZe fun a hf => ⟨v1_3, hf.sb rfl, hm.pk [1, 2, 3] rfl rfl⟩)))))))
  repeat clear hm
  rintro i0_1 xs0_1 a w ⟨v0_7, hf, hm⟩ hi0_3 hi0_4
  refine gv hf (gS (gS (gR (gM rfl (gF fo_45_2 rfl (gL hm 1 isAgg43 rfl (gM rfl (gI st_43 h0_1 (idx_lt hx0_2) rfl (gF fo_65_0 rfl (gY (yl isAgg62 ((hc0_1.mono hm.lez).cell (j := 0) rfl) rfl) (gY (yV st_62 rfl) (gB rfl (gE (go _ 43 rfl (decide_eq_false (by omega)) (gcf rfl (gXt (gHh (gS (gR (gA rfl (gE ?_)))))))))))))))))))))
  obtain ⟨p0_5, c0_6, rfl, hl0_5⟩ := ro_slice (hm.ow_rep 2 rfl)
  refine gBk (gNf hm (fun i1_2 xs1_2 => [(3, (nV b_)), (4, (.slice p0_2 regs.length c0_3)), (6, (pV b0_1)), (12, (.slice p0_5 xs0_1.length c0_6)), (14, (nV i1_2))]) (fun i1_2 xs1_2 => [ow [(.slice p0_2 regs.length c0_3)] xs1_2, blk b0_1 [(nV c_.params), (nV c_.regs), (sV b0_2 o0_1 c_.blocks.length c0_1)] 45, ow [(.slice p0_5 xs0_1.length c0_6)] xs0_1]) [0, 1, 2] rfl ?_ ?_)
  ·
   repeat clear hm
   intro _ _ i1_2 xs1_2 w hm hi0_5 hi0_6 q0_2 _
   refine gS (gS (gR (gM rfl (gM rfl (gY (yV st_29 rfl) (gB rfl (gE (go _ 68 rfl (decide_eq_true (by omega)) (gct rfl (gSk (gS (gBk (gW (.p 0 (.p 1 (.p 3 (.p 7 (.p 11 (.p 12 (.p 13 (.q 2 (.p 4 (.p 5 (.q 6 (.p 8 (.p 9 (.q 10 (.e 14 (.p 15 (.e 16 .fin .nil)) .nil))))))))))))))) [14] [0, 1, 3, 4, 5, 7, 8, 9, 11, 12, 13, 15] hm [0, 1, 2] [ow [(.slice p0_2 regs.length c0_3)] xs1_2, blk b0_1 [(nV c_.params), (nV c_.regs), (sV b0_2 o0_1 c_.blocks.length c0_1)] 45, ow [(.slice p0_5 xs0_1.length c0_6)] xs0_1] rfl mxo (by kernel_rfl) (fun _ _ _ h => h.2) fun w hm hS => tP rfl (fun w => yM rfl) (tP rfl (fun w => yF fo_45_2 rfl) (tP rfl (fun w => yM rfl) (tP rfl (fun w => yM rfl) (tP rfl (fun w => yM rfl) (tP rfl (fun w => yM rfl) (gg fun x1_4 h1_6 hx1_9 => ?_)))))))))))))))))))
   obtain ⟨b1_5, o1_4, c1_4, he⟩ := idx_form (hm.ow_rep 2 rfl) hx1_9
   simp only [Value.slice.injEq, Option.some.injEq] at he; obtain ⟨rfl, _, rfl⟩ := he
   refine tP rfl (fun w => yI st_29 h1_6 (idx_lt hx1_9) rfl) (tQ rfl hS (fun w hm => yL hm 1 isAgg43 rfl) (tP rfl (fun w => yI st_43 h0_1 (idx_lt hx0_2) rfl) (tP rfl (fun w => yF fo_65_0 rfl) (tQ rfl hS (fun w hm => yl isAgg62 ((hc0_1.mono hm.lez).cell (j := 0) rfl) rfl) (gg fun x1_5 h1_7 hx1_11 => ?_)))))
   obtain ⟨b1_6, o1_5, c1_5, he⟩ := idx_form' h0_2 hx1_11
   simp only [Value.slice.injEq, Option.some.injEq] at he; obtain ⟨rfl, _, rfl⟩ := he
   obtain ⟨v1_4, hc1_2, h1_8⟩ := rk_Phi_ h0_2 hx1_11
   refine tP rfl (fun w => yI st_62 h1_7 (idx_lt hx1_11) rfl) (tP rfl (fun w => yF fo_70_0 rfl) (tQ rfl hS (fun w hm => yl isAgg3 ((hc1_2.mono hm.lez).cell (j := 0) rfl) rfl) (tO (tY rfl (yl isAgg3 ((flat_cells (cs := [(nV x1_4)]) (hm.ow_rep 2 rfl) hx1_9 rfl).cell (j := 0) rfl) rfl) (tAs hS (gg fun x1_6 h1_9 hx1_13 => ?_))))))
   obtain ⟨b1_7, o1_6, c1_6, he⟩ := idx_form (hm.ow_rep 0 rfl) hx1_13
   simp only [Value.slice.injEq, Option.some.injEq] at he; obtain ⟨rfl, _, rfl⟩ := he
   have hL1_1 := rep_slice_len (hm.ow_rep 0 rfl)
   refine tP rfl (fun w => yI st_29 h1_9 (idx_lt2 hx1_13 hL1_1) rfl) (tO (tf0 rfl rfl (fun a hf => e_setElem (x1 := x1_4) (j := 0) (vs := [(nV x1_4)]) 0 hf hm rfl hx1_13 rfl sizeOf3 rfl rfl rfl (one_cons rfl one_nil) rfl rfl) ?_))
   rintro _ w hm
   have hx1_14 := List.getElem?_set_self (a := x1_4) (idx_lt hx1_13)
   exact tAn rfl (tE (gR (gM rfl (gP (by omega) (by omega) rfl (gA rfl (gE (gze hm [0, 1, 2] rfl)))))))
  repeat clear hm
  intro i0_2 xs0_2 w hm hi0_7 hi0_8
  exact gS (gS (gR (gM rfl (gM rfl (gY (yV st_29 rfl) (gB rfl (gE (go _ 68 rfl (decide_eq_false (by omega)) (gcf rfl (gXt (gHh (gre results64 ⟨rfl, hm.pk [0] rfl rfl⟩))))))))))))

theorem spec_l8Pure_ok (w0 : World) (op : Int) :
    ConM Tryd.prog 83 [(nV op)] w0 (spec_l8Pure op) fun r v w' => v = (.bool (r)) ∧ Below w0.heap.size w0 w' := by
  unfold spec_l8Pure
  refine gcon func83 rfl fun r => ?_
  have hm := Mem.start w0
  exact gS (gR (gA rfl (gE (gS (gR (gM rfl (gC hm rfl call21 (spec_l1In_ok _ op 1 10) fun r0_1 hx0_1 w hm => gA rfl (gE (gRt (gr1 results83 rfl ⟨rfl, hm.below⟩))))))))))

theorem spec_l5Truth_ok (w0 : World) (is : Bool) :
    ConM Tryd.prog 86 [(.bool (is))] w0 (spec_l5Truth is) fun r v w' => v = (nV r) ∧ Below w0.heap.size w0 w' := by
  unfold spec_l5Truth
  refine gcon func86 rfl fun r => ?_
  have hm := Mem.start w0
  refine gS (gR (gA rfl (gE (gS (gS (gR (gM rfl (gE (gs 3 rfl (fun h0_1 => ?_) fun h0_1 => ?_)))))))))
  ·
   exact gct rfl (gS (gR (gA rfl (gE (gRt (gr1 results86 rfl ⟨rfl, hm.below⟩))))))
  exact gcf rfl (gSk (gS (gR (gA rfl (gE (gRt (gr1 results86 rfl ⟨rfl, hm.below⟩)))))))

theorem spec_l5Two_ok (w0 : World) (op : Int) (a_ : Int) (b_ : Int) :
    ConM Tryd.prog 87 [(nV op), (nV a_), (nV b_)] w0 (spec_l5Two op a_ b_) fun r v w' => v = (.tuple #[(nV r.1), (nV r.2)]) ∧ Below w0.heap.size w0 w' := by
  unfold spec_l5Two
  refine gcon func87 rfl fun r => ?_
  have hm := Mem.start w0
  refine gS (gR (gA rfl (gA rfl (gE (gS (gS (gR (gM rfl (gE (gBk (gS (gR (gB rfl (gA rfl (gE (gsd 9 rfl (fun h0_1 => ?_) fun h0_1 => ?_))))))))))))))))
  ·
   exact gct rfl (gS (gR (gM rfl (gM rfl (gB rfl (gY (yG rfl (y_rem rfl rfl rfl (by decide))) (gA rfl (gA rfl (gE (gRt (gr2 results87 rfl ⟨rfl, hm.below⟩)))))))))))
  refine gcf rfl (gS (gR (gB rfl (gA rfl (gE (gsd 15 rfl (fun h0_2 => ?_) fun h0_2 => ?_))))))
  ·
   exact gct rfl (gS (gR (gM rfl (gM rfl (gB rfl (gB rfl (gY (yG rfl (y_rem rfl rfl rfl (by decide))) (gA rfl (gA rfl (gE (gRt (gr2 results87 rfl ⟨rfl, hm.below⟩))))))))))))
  refine gcf rfl (gS (gR (gB rfl (gA rfl (gE (gsd 22 rfl (fun h0_3 => ?_) fun h0_3 => ?_))))))
  ·
   exact gct rfl (gS (gR (gM rfl (gM rfl (gB rfl (gY (yG rfl (y_rem rfl rfl rfl (by decide))) (gA rfl (gA rfl (gE (gRt (gr2 results87 rfl ⟨rfl, hm.below⟩)))))))))))
  refine gcf rfl (gS (gR (gB rfl (gA rfl (gE (gsd 28 rfl (fun h0_4 => ?_) fun h0_4 => ?_))))))
  ·
   exact gct rfl (gS (gR (gM rfl (gM rfl (gB rfl (gC hm rfl call86 (spec_l5Truth_ok _ (decide (a_ < b_))) fun r0_1 hx0_1 w hm => gA rfl (gA rfl (gE (gRt (gr2 results87 rfl ⟨rfl, hm.below⟩))))))))))
  refine gcf rfl (gS (gR (gB rfl (gA rfl (gE (gsd 34 rfl (fun h0_5 => ?_) fun h0_5 => ?_))))))
  ·
   exact gct rfl (gS (gR (gM rfl (gM rfl (gB rfl (gC hm rfl call86 (spec_l5Truth_ok _ (decide (a_ = b_))) fun r0_2 hx0_2 w hm => gA rfl (gA rfl (gE (gRt (gr2 results87 rfl ⟨rfl, hm.below⟩))))))))))
  refine gcf rfl (gSk (gS (gS (gR (gM rfl (gB rfl (gE (gsd 41 rfl (fun h0_6 => ?_) fun h0_6 => ?_))))))))
  ·
   exact gct rfl (gS (gR (gA rfl (gA rfl (gE (gRt (gr2 results87 rfl ⟨rfl, hm.below⟩)))))))
  refine gcf rfl (gSk (gS (gS (gR (gM rfl (gB rfl (gE (gsd 43 rfl (fun h0_7 => ?_) fun h0_7 => ?_))))))))
  ·
   refine gct rfl (gS (gR (gM rfl (gM rfl (gb fun q0_1 hx0_3 => ?_)))))
   obtain ⟨h0_8, rfl⟩ := quoM_some.1 hx0_3
   exact gY (yG rfl (y_quo rfl rfl rfl h0_8)) (gA rfl (gA rfl (gE (gRt (gr2 results87 rfl ⟨rfl, hm.below⟩)))))
  refine gcf rfl (gSk (gS (gR (gM rfl (gM rfl (gb fun q0_2 hx0_4 => ?_))))))
  obtain ⟨h0_9, rfl⟩ := remM_some.1 hx0_4
  exact gY (yG rfl (y_rem rfl rfl rfl h0_9)) (gA rfl (gA rfl (gE (gRt (gr2 results87 rfl ⟨rfl, hm.below⟩)))))

theorem spec_l8Do_ok (w0 : World) (op : Int) (a_ : Int) (b_ : Int) :
    ConM Tryd.prog 84 [(nV op), (nV a_), (nV b_)] w0 (spec_l8Do op a_ b_) fun r v w' => v = (.tuple #[(nV r.1), (nV r.2)]) ∧ Below w0.heap.size w0 w' := by
  unfold spec_l8Do
  refine gcon func84 rfl fun r => ?_
  have hm := Mem.start w0
  refine gS (gR (gA rfl (gA rfl (gE (gS (gS (gR (gM rfl (gE (gBk (gS (gS (gR (gB rfl (gA rfl (gE (gJ hm (fun s0_1 => [(0, (nV op)), (1, (nV a_)), (2, (nV b_)), (8, (nV op)), (9, (.bool (s0_1)))]) (fun s0_1 => []) (fun s0_1 => ?_) ?_)))))))))))))))))
  ·
   refine gsd 9 rfl (fun h1_1 => ?_) fun h1_1 => ?_
   ·
    exact gct rfl (gSk (gz hm [] rfl))
   exact gcf rfl (gR (gB rfl (gA rfl (gE (gz hm [] rfl)))))
  repeat clear hm
  intro s0_1 w hm
  refine gs 9 rfl (fun h0_1 => ?_) fun h0_1 => ?_
  ·
   exact gct rfl (gS (gR (gM rfl (gA rfl (gA rfl (gE (gRt (gr2 results84 rfl ⟨rfl, hm.below⟩))))))))
  refine gcf rfl (gS (gR (gB rfl (gA rfl (gE (gsd 13 rfl (fun h0_2 => ?_) fun h0_2 => ?_))))))
  ·
   exact gct rfl (gS (gR (gM rfl (gB rfl (gC hm rfl call86 (spec_l5Truth_ok _ (decide (a_ = 0))) fun r0_1 hx0_1 w hm => gA rfl (gA rfl (gE (gRt (gr2 results84 rfl ⟨rfl, hm.below⟩)))))))))
  exact gcf rfl (gSk (gS (gR (gM rfl (gM rfl (gM rfl (gC hm rfl call87 (spec_l5Two_ok _ op a_ b_) fun r0_2 hx0_2 w hm => gX rfl (gX rfl (gA rfl (gA rfl (gE (gRt (gr2 results84 rfl ⟨rfl, hm.below⟩)))))))))))))

theorem pspec_l8Run__code_all : (∀ (r_ : l8Run) (k_ : Int) (in_ : List Int) (r : Int × l8Run), pspec_l8Run__code r_ k_ in_ = some r → ∀ (w0 : World) (hz : Heap) (bp0 : Nat) (v1p : Value) (h1p : GT.rep hz [v1p] r_.u.codes) (v2p : Value) (v3p : Value) (v4p : Value) (v1 : Value) (h1 : GT.rep hz [v1] in_) (hm0 : Mem w0 hz w0 [blk bp0 [v1p, v2p, (nV r_.out.end_), (nV r_.out.value), v3p, (nV r_.steps), (.bool (r_.over)), v4p] 53, ow [v2p] r_.out.said, ow [v3p] r_.out.cells, ow [v4p] r_.trace]), Con Tryd.prog 38 [(pV bp0), (nV k_), v1] w0 (fun v w' => ∃ (x2 : Value) (x3 : Value) (x4 : Value), v = (nV r.1) ∧ Mem w0 hz w' [blk bp0 [v1p, x2, (nV r.2.out.end_), (nV r.2.out.value), x3, (nV r.2.steps), (.bool (r.2.over)), x4] 53, ow [x2] r.2.out.said, ow [x3] r.2.out.cells, ow [x4] r.2.trace])) ∧
    (∀ (r_ : l8Run) (x_ : Ins_) (regs : List Int) (r : l8Run × (List Int)), pspec_l8Run__ins r_ x_ regs = some r → ∀ (w0 : World) (hz : Heap) (bp0 : Nat) (v1p : Value) (h1p : GT.rep hz [v1p] r_.u.codes) (v2p : Value) (v3p : Value) (v4p : Value) (v1 : Value) (h1 : GT.rep hz [v1] x_.args) (v2 : Value) (hm0 : Mem w0 hz w0 [blk bp0 [v1p, v2p, (nV r_.out.end_), (nV r_.out.value), v3p, (nV r_.steps), (.bool (r_.over)), v4p] 53, ow [v2p] r_.out.said, ow [v3p] r_.out.cells, ow [v4p] r_.trace, ow [v2] regs]), Con Tryd.prog 63 [(pV bp0), (.agg #[(nV x_.op), (nV x_.to), v1, (nV x_.n_)]), v2] w0 (fun v w' => ∃ (x2 : Value) (x3 : Value) (x4 : Value), v = (.tuple #[]) ∧ Mem w0 hz w' [blk bp0 [v1p, x2, (nV r.1.out.end_), (nV r.1.out.value), x3, (nV r.1.steps), (.bool (r.1.over)), x4] 53, ow [x2] r.1.out.said, ow [x3] r.1.out.cells, ow [x4] r.1.trace, ow [v2] r.2])) := by
  refine pspec_l8Run__code.mutual_partial_correctness (motive_1 := fun r_ k_ in_ r => ∀ (w0 : World) (hz : Heap) (bp0 : Nat) (v1p : Value) (h1p : GT.rep hz [v1p] r_.u.codes) (v2p : Value) (v3p : Value) (v4p : Value) (v1 : Value) (h1 : GT.rep hz [v1] in_) (hm0 : Mem w0 hz w0 [blk bp0 [v1p, v2p, (nV r_.out.end_), (nV r_.out.value), v3p, (nV r_.steps), (.bool (r_.over)), v4p] 53, ow [v2p] r_.out.said, ow [v3p] r_.out.cells, ow [v4p] r_.trace]), Con Tryd.prog 38 [(pV bp0), (nV k_), v1] w0 (fun v w' => ∃ (x2 : Value) (x3 : Value) (x4 : Value), v = (nV r.1) ∧ Mem w0 hz w' [blk bp0 [v1p, x2, (nV r.2.out.end_), (nV r.2.out.value), x3, (nV r.2.steps), (.bool (r.2.over)), x4] 53, ow [x2] r.2.out.said, ow [x3] r.2.out.cells, ow [x4] r.2.trace])) (motive_2 := fun r_ x_ regs r => ∀ (w0 : World) (hz : Heap) (bp0 : Nat) (v1p : Value) (h1p : GT.rep hz [v1p] r_.u.codes) (v2p : Value) (v3p : Value) (v4p : Value) (v1 : Value) (h1 : GT.rep hz [v1] x_.args) (v2 : Value) (hm0 : Mem w0 hz w0 [blk bp0 [v1p, v2p, (nV r_.out.end_), (nV r_.out.value), v3p, (nV r_.steps), (.bool (r_.over)), v4p] 53, ow [v2p] r_.out.said, ow [v3p] r_.out.cells, ow [v4p] r_.trace, ow [v2] regs]), Con Tryd.prog 63 [(pV bp0), (.agg #[(nV x_.op), (nV x_.to), v1, (nV x_.n_)]), v2] w0 (fun v w' => ∃ (x2 : Value) (x3 : Value) (x4 : Value), v = (.tuple #[]) ∧ Mem w0 hz w' [blk bp0 [v1p, x2, (nV r.1.out.end_), (nV r.1.out.value), x3, (nV r.1.steps), (.bool (r.1.over)), x4] 53, ow [x2] r.1.out.said, ow [x3] r.1.out.cells, ow [x4] r.1.trace, ow [v2] r.2])) ?_ ?_
  · intro rec_ ih_ r_ k_ in_ r hq w0 hz bp0 v1p h1p v2p v3p v4p v1 h1 hm0
    have pspec_l8Run__ins_rec : ∀ (w0 : World) (hz : Heap) (r_ : l8Run) (bp0 : Nat) (v1p : Value) (h1p : GT.rep hz [v1p] r_.u.codes) (v2p : Value) (v3p : Value) (v4p : Value) (x_ : Ins_) (v1 : Value) (h1 : GT.rep hz [v1] x_.args) (regs : List Int) (v2 : Value) (hm0 : Mem w0 hz w0 [blk bp0 [v1p, v2p, (nV r_.out.end_), (nV r_.out.value), v3p, (nV r_.steps), (.bool (r_.over)), v4p] 53, ow [v2p] r_.out.said, ow [v3p] r_.out.cells, ow [v4p] r_.trace, ow [v2] regs]) (r : l8Run × (List Int)) (hq : rec_ r_ x_ regs = some r), Con Tryd.prog 63 [(pV bp0), (.agg #[(nV x_.op), (nV x_.to), v1, (nV x_.n_)]), v2] w0 (fun v w' => ∃ (x2 : Value) (x3 : Value) (x4 : Value), v = (.tuple #[]) ∧ Mem w0 hz w' [blk bp0 [v1p, x2, (nV r.1.out.end_), (nV r.1.out.value), x3, (nV r.1.steps), (.bool (r.1.over)), x4] 53, ow [x2] r.1.out.said, ow [x3] r.1.out.cells, ow [x4] r.1.trace, ow [v2] r.2]) := fun w0 hz r_ bp0 v1p h1p v2p v3p v4p x_ v1 h1 regs v2 hm0 r hq => ih_ r_ x_ regs r hq w0 hz bp0 v1p h1p v2p v3p v4p v1 h1 v2 hm0
    refine gconr (ρ := Int × l8Run) (R := fun r v w' => ∃ (x2 : Value) (x3 : Value) (x4 : Value), v = (nV r.1) ∧ Mem w0 hz w' [blk bp0 [v1p, x2, (nV r.2.out.end_), (nV r.2.out.value), x3, (nV r.2.steps), (.bool (r.2.over)), x4] 53, ow [x2] r.2.out.said, ow [x3] r.2.out.cells, ow [x4] r.2.trace]) func38 rfl hq ?_
    have hm := hm0
    refine gS (gR (gA rfl (gE (gS (gR (gM rfl (gY (yG rfl (y_nilptr rfl rfl)) (gF fo_53_0 rfl (gF fo_25_0 rfl (gL hm 0 isAgg23 rfl (gM rfl (gg fun x0_1 h0_1 hx0_2 => ?_))))))))))))
    obtain ⟨b0_1, o0_1, c0_1, he⟩ := idx_form' h1p hx0_2
    subst he
    obtain ⟨v0_1, hc0_1, h0_2⟩ := rk_Code_ h1p hx0_2
    refine gI st_23 h0_1 (idx_lt hx0_2) rfl (gY (yn (hc0_1.mono hm.lez) isAgg45 sizeOf45 rfl) (gAl hm zeroValue45 rfl fun b0_2 w hm => gSN hm 0 sizeOf45 (one_cons rfl (one_cons rfl (one_cons (rep_one h0_2) one_nil))) rfl fun w hm => gE (gS (gR (gF fo_45_1 rfl (gL hm 0 isAgg3 rfl (gb fun ys0_1 hx0_3 => ?_)))))))
    obtain ⟨⟨h0_31, h0_32⟩, h0_3e⟩ := makeM_some.1 hx0_3
    refine gf rfl (fun a hf => e_make (x0 := (0 : Int)) et_29 (fun _ => (Flat.own_iff.2 rfl)) hf hm rfl rfl rfl h0_31 (Int.le_refl _) h0_32) ?_
    rintro v0_2 w hm
    rw [h0_3e] at hm
    have h0_3l : (ys0_1.length : Int) = x0_1.regs := by rw [← h0_3e]; simp only [List.length_replicate]; omega
    refine gA rfl (gE (gS (gR (gM rfl (gM rfl (gf rfl (fun a hf => e_copy (α := Int) (xs := ys0_1) (ys := in_) (lo := 0) (hi := ys0_1.length) 0 st_29 (show 0 < 1 from by decide) hf hm rfl (hm.now h1) rfl (by rw [hm.subV_whole (α := Int) 0 rfl]; rfl) rfl (Nat.zero_le _) (Nat.le_refl _)) ?_))))))
    rintro _ w ⟨rfl, hm⟩
    refine gE (gS (gR (gA rfl (gE ?_))))
    obtain ⟨p0_1, c0_2, rfl, hl0_1⟩ := ro_slice (hm.ow_rep 3 rfl)
    obtain ⟨p0_2, c0_3, rfl, hl0_2⟩ := ro_slice (hm.ow_rep 4 rfl)
    obtain ⟨p0_3, c0_4, rfl, hl0_3⟩ := ro_slice (hm.ow_rep 5 rfl)
    obtain ⟨p0_4, c0_5, rfl, hl0_4⟩ := ro_slice (hm.ow_rep 0 rfl)
    refine gBk (gMg (fun xs1_1 a w => ∃ (v1_1 : Value) (v1_2 : Value) (v1_3 : Value), St 111 [(0, (pV bp0)), (1, (nV k_)), (7, (pV b0_2)), (8, (.slice p0_4 (copyL ys0_1 in_ 0 ys0_1.length).length c0_5)), (9, (nV xs1_1.2.2.2.2.2.2.2.2))] w0 hz [blk bp0 [(sV b0_1 o0_1 r_.u.codes.length c0_1), v1_1, (nV xs1_1.2.1), (nV xs1_1.2.2.1), v1_2, (nV xs1_1.2.2.2.2.1), (.bool (xs1_1.2.2.2.2.2.1)), v1_3] 53, ow [v1_1] xs1_1.1, ow [v1_2] xs1_1.2.2.2.1, ow [v1_3] xs1_1.2.2.2.2.2.2.1, blk b0_2 [(nV x0_1.params), (nV x0_1.regs), v0_1] 45, ow [(.slice p0_4 (copyL ys0_1 in_ 0 ys0_1.length).length c0_5)] xs1_1.2.2.2.2.2.2.2.1] a w) (fun a hf => ⟨(.slice p0_1 r_.out.said.length c0_2), (.slice p0_2 r_.out.cells.length c0_3), (.slice p0_3 r_.trace.length c0_4), hf.sb rfl, hm.pk [2, 3, 4, 5, 1, 0] rfl rfl⟩) ?_)
    repeat clear hm
    rintro r0_1 hq0_1 xs1_1 a w ⟨v1_1, v1_2, v1_3, hf, hm⟩ q0_1 ho0_1
    refine gv hf (gBk (gS (gR (gF fo_45_2 rfl (gL hm 4 isAgg43 rfl (gM rfl (gg fun x1_1 h1_1 hx1_2 => ?_)))))))
    obtain ⟨b1_1, o1_1, c1_1, he⟩ := idx_form' h0_2 hx1_2
    subst he
    obtain ⟨v1_4, v1_5, v1_6, hc1_1, h1_2, h1_3, h1_4⟩ := rk_Block_ h0_2 hx1_2
    refine gI st_43 h1_1 (idx_lt hx1_2) rfl (gY (yn (hc1_1.mono hm.lez) isAgg65 sizeOf65 rfl) (gAl hm zeroValue65 rfl fun b1_2 w hm => gSN hm 0 sizeOf65 (one_cons (rep_one h1_2) (one_cons (rep_one h1_3) (one_cons rfl (one_cons rfl (one_cons (rep_one h1_4) one_nil))))) rfl fun w hm => gE (gS (gS (gR (gM rfl (gM rfl (gY (yG rfl (y_nilptr rfl rfl)) (gF fo_53_0 rfl (gF fo_25_0 rfl (gL hm 1 isAgg23 rfl ?_)))))))))))
    have hl1_1 := rep_len h1p
    refine gY (yV st_23 rfl) (gY (yS (by omega) (by omega) rfl) (gB rfl (gE (gJg (fun s1_1 a w => ∃ (v1_7 : Value), St 111 [(0, (pV bp0)), (1, (nV k_)), (7, (pV b0_2)), (8, (.slice p0_4 (copyL ys0_1 in_ 0 ys0_1.length).length c0_5)), (9, (nV xs1_1.2.2.2.2.2.2.2.2)), (10, (pV b1_2))] w0 hz [blk bp0 [(sV b0_1 o0_1 r_.u.codes.length c0_1), v1_1, (nV xs1_1.2.1), (nV xs1_1.2.2.1), v1_2, (nV xs1_1.2.2.2.2.1), (.bool (xs1_1.2.2.2.2.2.1)), v1_7] 53, ow [v1_1] xs1_1.1, ow [v1_2] xs1_1.2.2.2.1, ow [v1_7] s1_1, blk b0_2 [(nV x0_1.params), (nV x0_1.regs), (sV b1_1 o1_1 x0_1.blocks.length c1_1)] 45, ow [(.slice p0_4 (copyL ys0_1 in_ 0 ys0_1.length).length c0_5)] xs1_1.2.2.2.2.2.2.2.1, blk b1_2 [v1_4, v1_5, (nV x1_1.jump), (nV x1_1.on), v1_6] 65] a w) (fun s1_1 => ?_) ?_))))
    ·
     refine gsd 40 rfl (fun h2_1 => ?_) fun h2_1 => ?_
     ·
      refine gct rfl (gR (gM rfl (gM rfl (gY (yG rfl (y_nilptr rfl rfl)) (gF fo_53_4 rfl (gL hm 1 isAgg29 rfl (gM rfl (gf rfl (fun a hf => e_build (vs := #[(0, (nV xs1_1.2.2.2.2.2.2.2.2))]) (cs := [(nV xs1_1.2.2.2.2.2.2.2.2)]) et_29 hf hm rfl rfl (by kernel_rfl) rfl rfl) ?_))))))))
      rintro _ w ⟨b2_1, rfl, hm⟩
      replace hm := hm.lit (xs := ([xs1_1.2.2.2.2.2.2.2.2] : List Int)) 0 rfl rfl rfl rfl
      refine gb fun ys2_1 hx2_1 => ?_
      obtain ⟨h2_2, h2_2e⟩ := appM_some.1 hx2_1
      refine gf rfl (fun a hf => e_append 5 et_29 hf hm rfl (hm.ow_rep 0 rfl) rfl rfl rfl h2_2) ?_
      rintro v2_1 w hm
      rw [h2_2e] at hm
      exact gY (yG rfl (y_nilptr rfl rfl)) (gF fo_53_4 rfl (gS1 hm 2 sizeOf29 (rep_one (hm.ow_rep 5 rfl)) rfl fun w hm => gE (gZ fun a hf => ⟨v2_1, hf.sb rfl, hm.pk [2, 3, 4, 5, 6, 7, 1] rfl rfl⟩)))
     exact gcf rfl (gSk (gZ fun a hf => ⟨v1_3, hf.sb rfl, hm.pk [1, 2, 3, 4, 5, 6, 0] rfl rfl⟩))
    repeat clear hm
    rintro s1_1 a w ⟨v1_7, hf, hm⟩
    refine gv hf (gS (gS (gR (gA rfl (gE ?_)))))
    obtain ⟨p1_1, c1_2, rfl, hl1_2⟩ := ro_slice (hm.ow_rep 1 rfl)
    obtain ⟨p1_2, c1_3, rfl, hl1_3⟩ := ro_slice (hm.ow_rep 2 rfl)
    obtain ⟨p1_3, c1_4, rfl, hl1_4⟩ := ro_slice (hm.ow_rep 3 rfl)
    refine gBk (gNg (fun i2_1 xs2_1 a w => ∃ (v2_2 : Value) (v2_3 : Value) (v2_4 : Value), St 111 [(0, (pV bp0)), (1, (nV k_)), (7, (pV b0_2)), (8, (.slice p0_4 (copyL ys0_1 in_ 0 ys0_1.length).length c0_5)), (9, (nV xs1_1.2.2.2.2.2.2.2.2)), (10, (pV b1_2)), (11, (nV i2_1))] w0 hz [blk bp0 [(sV b0_1 o0_1 r_.u.codes.length c0_1), v2_2, (nV xs2_1.2.1), (nV xs2_1.2.2.1), v2_3, (nV xs2_1.2.2.2.2.1), (.bool (xs2_1.2.2.2.2.2.1)), v2_4] 53, ow [v2_2] xs2_1.1, ow [v2_3] xs2_1.2.2.2.1, ow [v2_4] xs2_1.2.2.2.2.2.2.1, blk b0_2 [(nV x0_1.params), (nV x0_1.regs), (sV b1_1 o1_1 x0_1.blocks.length c1_1)] 45, ow [(.slice p0_4 (copyL ys0_1 in_ 0 ys0_1.length).length c0_5)] xs2_1.2.2.2.2.2.2.2, blk b1_2 [v1_4, v1_5, (nV x1_1.jump), (nV x1_1.on), v1_6] 65] a w) (fun a hf => ⟨(.slice p1_1 xs1_1.1.length c1_2), (.slice p1_2 xs1_1.2.2.2.1.length c1_3), (.slice p1_3 s1_1.length c1_4), hf.sb rfl, hm.pk [0, 1, 2, 3, 4, 5, 6] rfl rfl⟩) ?_ ?_)
    ·
     repeat clear hm
     rintro r1_1 hq1_2 i2_1 xs2_1 a w ⟨v2_2, v2_3, v2_4, hf, hm⟩ hi1_1 hi1_2 q1_1 ho1_1
     refine gv hf (gS (gS (gR (gM rfl (gF fo_65_1 rfl (gL hm 6 isAgg63 rfl ?_))))))
     obtain ⟨p2_1, c2_1, rfl, hl2_1⟩ := ro_slice h1_3
     refine gY (yV st_63 rfl) (gB rfl (gE (go _ 55 rfl (decide_eq_true (by omega)) (gct rfl (gSk (gS (gBk (gS (gS (gR (gM rfl ?_)))))))))))
     obtain ⟨hz2_1, hle, hm1, hsub, hk2_1⟩ := hm.take2 (L1 := [blk bp0 [(sV b0_1 o0_1 r_.u.codes.length c0_1), v2_2, (nV xs2_1.2.1), (nV xs2_1.2.2.1), v2_3, (nV xs2_1.2.2.2.2.1), (.bool (xs2_1.2.2.2.2.2.1)), v2_4] 53, ow [v2_2] xs2_1.1, ow [v2_3] xs2_1.2.2.2.1, ow [v2_4] xs2_1.2.2.2.2.2.2.1]) (L2 := [blk b0_2 [(nV x0_1.params), (nV x0_1.regs), (sV b1_1 o1_1 x0_1.blocks.length c1_1)] 45, ow [(.slice p0_4 (copyL ys0_1 in_ 0 ys0_1.length).length c0_5)] xs2_1.2.2.2.2.2.2.2, blk b1_2 [v1_4, (.slice p2_1 x1_1.ins.length c2_1), (nV x1_1.jump), (nV x1_1.on), v1_6] 65]) [0, 1, 2, 3] [4, 5, 6] (by decide) rfl rfl
     refine gCg rfl call62 (pspec_l8Run__take_ok _ hz2_1 (⟨r_.u, (⟨xs2_1.1, xs2_1.2.1, xs2_1.2.2.1, xs2_1.2.2.2.1⟩ : Outcome_), xs2_1.2.2.2.2.1, xs2_1.2.2.2.2.2.1, xs2_1.2.2.2.2.2.2.1⟩ : l8Run) bp0 (sV b0_1 o0_1 r_.u.codes.length c0_1) (GT.mono hle h1p) v2_2 v2_3 v2_4 hm1 ) ?_
     rintro r2_1 hx2_2 v2_5 w ⟨v2_6, v2_7, v2_8, rfl, hB⟩
     replace hm := hk2_1 _ _ hB; clear hB
     refine gE (gJg (fun s2_1 a w => ∃ (v2_9 : Value) (v2_10 : Value) (v2_11 : Value), St 111 [(0, (pV bp0)), (1, (nV k_)), (7, (pV b0_2)), (8, (.slice p0_4 (copyL ys0_1 in_ 0 ys0_1.length).length c0_5)), (9, (nV xs1_1.2.2.2.2.2.2.2.2)), (10, (pV b1_2)), (11, (nV i2_1))] w0 hz [blk bp0 [(sV b0_1 o0_1 r_.u.codes.length c0_1), v2_9, (nV s2_1.2.1), (nV s2_1.2.2.1), v2_10, (nV s2_1.2.2.2.2.1), (.bool (s2_1.2.2.2.2.2.1)), v2_11] 53, ow [v2_9] s2_1.1, ow [v2_10] s2_1.2.2.2.1, ow [v2_11] s2_1.2.2.2.2.2.2.1, blk b0_2 [(nV x0_1.params), (nV x0_1.regs), (sV b1_1 o1_1 x0_1.blocks.length c1_1)] 45, ow [(.slice p0_4 (copyL ys0_1 in_ 0 ys0_1.length).length c0_5)] s2_1.2.2.2.2.2.2.2, blk b1_2 [v1_4, (.slice p2_1 x1_1.ins.length c2_1), (nV x1_1.jump), (nV x1_1.on), v1_6] 65] a w) (fun s2_1 => ?_) ?_)
     ·
      refine gs 59 rfl (fun h3_1 => ?_) fun h3_1 => ?_
      ·
       refine gct rfl (gR (gM rfl (gF fo_65_1 rfl (gL hm 6 isAgg63 rfl (gM rfl (gg fun x3_1 h3_2 hx3_2 => ?_))))))
       obtain ⟨b3_1, o3_1, c3_1, he⟩ := idx_form' h1_3 hx3_2
       simp only [Value.slice.injEq, Option.some.injEq] at he; obtain ⟨rfl, _, rfl⟩ := he
       obtain ⟨v3_1, hc3_1, h3_3⟩ := rk_Ins_ h1_3 hx3_2
       refine gI st_63 h3_2 (idx_lt hx3_2) rfl (gY (yn (hc3_1.mono hm.lez) isAgg68 sizeOf68 rfl) (gM rfl ?_))
       obtain ⟨hz3_1, hle, hm1, hsub, hk3_1⟩ := hm.take2 (L1 := [blk bp0 [(sV b0_1 o0_1 r_.u.codes.length c0_1), v2_6, (nV r2_1.2.out.end_), (nV r2_1.2.out.value), v2_7, (nV r2_1.2.steps), (.bool (r2_1.2.over)), v2_8] 53, ow [v2_6] r2_1.2.out.said, ow [v2_7] r2_1.2.out.cells, ow [v2_8] r2_1.2.trace, ow [(.slice p0_4 (copyL ys0_1 in_ 0 ys0_1.length).length c0_5)] xs2_1.2.2.2.2.2.2.2]) (L2 := [blk b0_2 [(nV x0_1.params), (nV x0_1.regs), (sV b1_1 o1_1 x0_1.blocks.length c1_1)] 45, blk b1_2 [v1_4, (sV b3_1 o3_1 x1_1.ins.length c2_1), (nV x1_1.jump), (nV x1_1.on), v1_6] 65]) [0, 1, 2, 3, 5] [4, 6] (by decide) rfl rfl
       refine gCg rfl call63 (pspec_l8Run__ins_rec _ hz3_1 (⟨r_.u, r2_1.2.out, r2_1.2.steps, r2_1.2.over, r2_1.2.trace⟩ : l8Run) bp0 (sV b0_1 o0_1 r_.u.codes.length c0_1) (GT.mono hle h1p) v2_6 v2_7 v2_8 x3_1 v3_1 (GT.mono hle h3_3) xs2_1.2.2.2.2.2.2.2 (.slice p0_4 (copyL ys0_1 in_ 0 ys0_1.length).length c0_5) hm1 ) ?_
       rintro r3_1 hx3_3 v3_2 w ⟨v3_3, v3_4, v3_5, rfl, hB⟩
       replace hm := hk3_1 _ _ hB; clear hB
       exact gE (gZ fun a hf => ⟨v3_3, v3_4, v3_5, hf.sb rfl, hm.pk [0, 1, 2, 3, 5, 4, 6] rfl rfl⟩)
      exact gcf rfl (gSk (gZ fun a hf => ⟨v2_6, v2_7, v2_8, hf.sb rfl, hm.pk [0, 1, 2, 3, 4, 5, 6] rfl rfl⟩))
     repeat clear hm
     rintro s2_1 a w ⟨v2_9, v2_10, v2_11, hf, hm⟩
     refine gv hf (gS (gR (gM rfl (gY (yG rfl (y_nilptr rfl rfl)) (gF fo_53_3 rfl (gL hm 0 isAgg4 rfl (gE (gs 71 rfl (fun h2_3 => ?_) fun h2_3 => ?_))))))))
     ·
      exact gct rfl (gS (gR (gA rfl (gE (gRt (gLr ho1_1 hq1_2 (gLp ho0_1 hq0_1 (gr1 results38 rfl ⟨v2_9, v2_10, v2_11, rfl, hm.pk [0, 1, 2, 3] rfl rfl⟩))))))))
     exact gcf rfl (gSk (gR (gM rfl (gP (by omega) (by omega) rfl (gA rfl (gE (gZe fun a hf => ⟨v2_9, v2_10, v2_11, hf.sb rfl, hm.pk [0, 1, 2, 3, 4, 5, 6] rfl rfl⟩)))))))
    repeat clear hm
    rintro i1_2 xs1_2 a w ⟨v1_8, v1_9, v1_10, hf, hm⟩ hi1_3 hi1_4
    refine gv hf (gS (gS (gR (gM rfl (gF fo_65_1 rfl (gL hm 6 isAgg63 rfl ?_))))))
    obtain ⟨p1_4, c1_5, rfl, hl1_5⟩ := ro_slice h1_3
    refine gY (yV st_63 rfl) (gB rfl (gE (go _ 55 rfl (decide_eq_false (by omega)) (gcf rfl (gXt (gHh (gS (gS (gR (gM rfl ?_))))))))))
    obtain ⟨hz1_1, hle, hm1, hsub, hk1_1⟩ := hm.take2 (L1 := [blk bp0 [(sV b0_1 o0_1 r_.u.codes.length c0_1), v1_8, (nV xs1_2.2.1), (nV xs1_2.2.2.1), v1_9, (nV xs1_2.2.2.2.2.1), (.bool (xs1_2.2.2.2.2.2.1)), v1_10] 53, ow [v1_8] xs1_2.1, ow [v1_9] xs1_2.2.2.2.1, ow [v1_10] xs1_2.2.2.2.2.2.2.1]) (L2 := [blk b0_2 [(nV x0_1.params), (nV x0_1.regs), (sV b1_1 o1_1 x0_1.blocks.length c1_1)] 45, ow [(.slice p0_4 (copyL ys0_1 in_ 0 ys0_1.length).length c0_5)] xs1_2.2.2.2.2.2.2.2, blk b1_2 [v1_4, (.slice p1_4 x1_1.ins.length c1_5), (nV x1_1.jump), (nV x1_1.on), v1_6] 65]) [0, 1, 2, 3] [4, 5, 6] (by decide) rfl rfl
    refine gCg rfl call62 (pspec_l8Run__take_ok _ hz1_1 (⟨r_.u, (⟨xs1_2.1, xs1_2.2.1, xs1_2.2.2.1, xs1_2.2.2.2.1⟩ : Outcome_), xs1_2.2.2.2.2.1, xs1_2.2.2.2.2.2.1, xs1_2.2.2.2.2.2.2.1⟩ : l8Run) bp0 (sV b0_1 o0_1 r_.u.codes.length c0_1) (GT.mono hle h1p) v1_8 v1_9 v1_10 hm1 ) ?_
    rintro r1_2 hx1_3 v1_11 w ⟨v1_12, v1_13, v1_14, rfl, hB⟩
    replace hm := hk1_1 _ _ hB; clear hB
    refine gN rfl (gE (gsn 74 rfl (fun h1_5 => ?_) fun h1_5 => ?_))
    ·
     exact gct rfl (gS (gR (gA rfl (gE (gRt (gLp ho0_1 hq0_1 (gr1 results38 rfl ⟨v1_12, v1_13, v1_14, rfl, hm.pk [0, 1, 2, 3] rfl rfl⟩)))))))
    refine gcf rfl (gSk (gS (gR (gA rfl (gE (gS (gJe hm (fun s1_2 => [(0, (pV bp0)), (1, (nV k_)), (7, (pV b0_2)), (8, (.slice p0_4 (copyL ys0_1 in_ 0 ys0_1.length).length c0_5)), (9, (nV xs1_1.2.2.2.2.2.2.2.2)), (12, (nV s1_2))]) (fun s1_2 => [blk bp0 [(sV b0_1 o0_1 r_.u.codes.length c0_1), v1_12, (nV r1_2.2.out.end_), (nV r1_2.2.out.value), v1_13, (nV r1_2.2.steps), (.bool (r1_2.2.over)), v1_14] 53, ow [v1_12] r1_2.2.out.said, ow [v1_13] r1_2.2.out.cells, ow [v1_14] r1_2.2.trace, blk b0_2 [(nV x0_1.params), (nV x0_1.regs), (sV b1_1 o1_1 x0_1.blocks.length c1_1)] 45, ow [(.slice p0_4 (copyL ys0_1 in_ 0 ys0_1.length).length c0_5)] xs1_2.2.2.2.2.2.2.2]) (fun c1_6 hq1_3 => ?_) ?_)))))))
    ·
     refine gBk (gS (gR (gF fo_65_2 rfl (gL hm 6 isAgg3 rfl (gB rfl (gA rfl (gE (gsd 79 rfl (fun h2_4 => ?_) fun h2_4 => ?_))))))))
     ·
      refine gct rfl (gS (gR (gM rfl (gF fo_65_3 rfl (gL hm 6 isAgg3 rfl (gg fun x2_1 h2_5 hx2_4 => ?_))))))
      obtain ⟨b2_2, o2_1, c2_2, he⟩ := idx_form (hm.ow_rep 5 rfl) hx2_4
      simp only [Value.slice.injEq, Option.some.injEq] at he; obtain ⟨rfl, _, rfl⟩ := he
      have hL2_1 := rep_slice_len (hm.ow_rep 5 rfl)
      exact gI st_29 h2_5 (idx_lt2 hx2_4 hL2_1) rfl (gY (yl isAgg3 ((flat_cells (cs := [(nV x2_1)]) (hm.ow_rep 5 rfl) hx2_4 rfl).cell (j := 0) rfl) rfl) (gA rfl (gE (gRt (gEr hq1_3 (gLp ho0_1 hq0_1 (gr1 results38 rfl ⟨v1_12, v1_13, v1_14, rfl, hm.pk [0, 1, 2, 3] rfl rfl⟩)))))))
     refine gcf rfl (gS (gJ hm (fun s2_2 => [(0, (pV bp0)), (1, (nV k_)), (7, (pV b0_2)), (8, (.slice p0_4 (copyL ys0_1 in_ 0 ys0_1.length).length c0_5)), (9, (nV xs1_1.2.2.2.2.2.2.2.2)), (10, (pV b1_2)), (88, (.bool (s2_2)))]) (fun s2_2 => [blk bp0 [(sV b0_1 o0_1 r_.u.codes.length c0_1), v1_12, (nV r1_2.2.out.end_), (nV r1_2.2.out.value), v1_13, (nV r1_2.2.steps), (.bool (r1_2.2.over)), v1_14] 53, ow [v1_12] r1_2.2.out.said, ow [v1_13] r1_2.2.out.cells, ow [v1_14] r1_2.2.trace, blk b0_2 [(nV x0_1.params), (nV x0_1.regs), (sV b1_1 o1_1 x0_1.blocks.length c1_1)] 45, ow [(.slice p0_4 (copyL ys0_1 in_ 0 ys0_1.length).length c0_5)] xs1_2.2.2.2.2.2.2.2, blk b1_2 [v1_4, (.slice p1_4 x1_1.ins.length c1_5), (nV x1_1.jump), (nV x1_1.on), v1_6] 65]) (fun s2_2 => ?_) ?_))
     ·
      refine gR (gF fo_65_2 rfl (gL hm 6 isAgg3 rfl (gB rfl (gM rfl (gsd 92 rfl (fun h3_4 => ?_) fun h3_4 => ?_)))))
      ·
       exact gO rfl (gO rfl (gO rfl (gO rfl (gO rfl (gO rfl (gKt rfl (gA rfl (gE (gz hm [0, 1, 2, 3, 4, 5, 6] rfl)))))))))
      refine gM rfl (gF fo_65_3 rfl (gL hm 6 isAgg3 rfl (gg fun x3_2 h3_5 hx3_5 => ?_)))
      obtain ⟨b3_2, o3_2, c3_2, he⟩ := idx_form (hm.ow_rep 5 rfl) hx3_5
      simp only [Value.slice.injEq, Option.some.injEq] at he; obtain ⟨rfl, _, rfl⟩ := he
      have hL3_1 := rep_slice_len (hm.ow_rep 5 rfl)
      exact gI st_29 h3_5 (idx_lt2 hx3_5 hL3_1) rfl (gY (yl isAgg3 ((flat_cells (cs := [(nV x3_2)]) (hm.ow_rep 5 rfl) hx3_5 rfl).cell (j := 0) rfl) rfl) (gB rfl (gKf rfl (gA rfl (gE (gz hm [0, 1, 2, 3, 4, 5, 6] rfl))))))
     repeat clear hm
     intro s2_2 w hm
     refine gJ hm (fun s2_3 => [(0, (pV bp0)), (1, (nV k_)), (7, (pV b0_2)), (8, (.slice p0_4 (copyL ys0_1 in_ 0 ys0_1.length).length c0_5)), (9, (nV xs1_1.2.2.2.2.2.2.2.2)), (12, (nV s2_3))]) (fun s2_3 => [blk bp0 [(sV b0_1 o0_1 r_.u.codes.length c0_1), v1_12, (nV r1_2.2.out.end_), (nV r1_2.2.out.value), v1_13, (nV r1_2.2.steps), (.bool (r1_2.2.over)), v1_14] 53, ow [v1_12] r1_2.2.out.said, ow [v1_13] r1_2.2.out.cells, ow [v1_14] r1_2.2.trace, blk b0_2 [(nV x0_1.params), (nV x0_1.regs), (sV b1_1 o1_1 x0_1.blocks.length c1_1)] 45, ow [(.slice p0_4 (copyL ys0_1 in_ 0 ys0_1.length).length c0_5)] xs1_2.2.2.2.2.2.2.2]) (fun s2_3 => ?_) ?_
     ·
      refine gs 88 rfl (fun h3_6 => ?_) fun h3_6 => ?_
      ·
       refine gct rfl (gR (gF fo_65_4 rfl (gL hm 6 isAgg29 rfl (gg fun x3_3 h3_7 hx3_7 => ?_))))
       obtain ⟨b3_3, o3_3, c3_3, he⟩ := idx_form h1_4 hx3_7
       subst he
       exact gI st_29 h3_7 (idx_lt hx3_7) rfl (gY (yl isAgg3 ((flat_cells (cs := [(nV x3_3)]) (hm.now h1_4) hx3_7 rfl).cell (j := 0) rfl) rfl) (gA rfl (gE (gz hm [0, 1, 2, 3, 4, 5] rfl))))
      refine gcf rfl (gR (gF fo_65_4 rfl (gL hm 6 isAgg29 rfl (gg fun x3_4 h3_8 hx3_9 => ?_))))
      obtain ⟨b3_4, o3_4, c3_4, he⟩ := idx_form h1_4 hx3_9
      subst he
      exact gI st_29 h3_8 (idx_lt hx3_9) rfl (gY (yl isAgg3 ((flat_cells (cs := [(nV x3_4)]) (hm.now h1_4) hx3_9 rfl).cell (j := 0) rfl) rfl) (gA rfl (gE (gz hm [0, 1, 2, 3, 4, 5] rfl))))
     repeat clear hm
     intro s2_3 w hm
     exact gze hm [0, 1, 2, 3, 4, 5] rfl
    repeat clear hm
    intro s1_2 w hm
    refine gS (gR (gM rfl (gY (yn (hm.blk_at 4 rfl) isAgg45 sizeOf45 rfl) (gM rfl (gM rfl (gM rfl ?_))))))
    obtain ⟨hz1_3, hle, hm1, hsub, hk1_2⟩ := hm.take2 (L1 := [ow [(.slice p0_4 (copyL ys0_1 in_ 0 ys0_1.length).length c0_5)] xs1_2.2.2.2.2.2.2.2]) (L2 := [blk bp0 [(sV b0_1 o0_1 r_.u.codes.length c0_1), v1_12, (nV r1_2.2.out.end_), (nV r1_2.2.out.value), v1_13, (nV r1_2.2.steps), (.bool (r1_2.2.over)), v1_14] 53, ow [v1_12] r1_2.2.out.said, ow [v1_13] r1_2.2.out.cells, ow [v1_14] r1_2.2.trace, blk b0_2 [(nV x0_1.params), (nV x0_1.regs), (sV b1_1 o1_1 x0_1.blocks.length c1_1)] 45]) [5] [0, 1, 2, 3, 4] (by decide) rfl rfl
    refine gCg rfl call64 (pspec_l8Run__phis_ok _ hz1_3 (⟨r_.u, r1_2.2.out, r1_2.2.steps, r1_2.2.over, r1_2.2.trace⟩ : l8Run) bp0 (sV b0_1 o0_1 r_.u.codes.length c0_1) (GT.mono hle h1p) v1_12 (fz_ow (hsub 1 _ rfl)) v1_13 (fz_ow (hsub 2 _ rfl)) v1_14 (fz_ow (hsub 3 _ rfl)) (fz_blk (hsub 0 _ rfl)) x0_1 (sV b1_1 o1_1 x0_1.blocks.length c1_1) (GT.mono hle h0_2) xs1_1.2.2.2.2.2.2.2.2 s1_2 xs1_2.2.2.2.2.2.2.2 (.slice p0_4 (copyL ys0_1 in_ 0 ys0_1.length).length c0_5) hm1 ) ?_
    rintro r1_3 hx1_4 v1_15 w ⟨rfl, hB⟩
    replace hm := hk1_2 _ _ hB; clear hB
    exact gE (gR (gM rfl (gA rfl (gE (gZe fun a hf => ⟨v1_12, v1_13, v1_14, hf.sb rfl, hm.pk [1, 2, 3, 4, 5, 0] rfl rfl⟩)))))
  · intro rec_ ih_ r_ x_ regs r hq w0 hz bp0 v1p h1p v2p v3p v4p v1 h1 v2 hm0
    have pspec_l8Run__code_rec : ∀ (w0 : World) (hz : Heap) (r_ : l8Run) (bp0 : Nat) (v1p : Value) (h1p : GT.rep hz [v1p] r_.u.codes) (v2p : Value) (v3p : Value) (v4p : Value) (k_ : Int) (in_ : List Int) (v1 : Value) (h1 : GT.rep hz [v1] in_) (hm0 : Mem w0 hz w0 [blk bp0 [v1p, v2p, (nV r_.out.end_), (nV r_.out.value), v3p, (nV r_.steps), (.bool (r_.over)), v4p] 53, ow [v2p] r_.out.said, ow [v3p] r_.out.cells, ow [v4p] r_.trace]) (r : Int × l8Run) (hq : rec_ r_ k_ in_ = some r), Con Tryd.prog 38 [(pV bp0), (nV k_), v1] w0 (fun v w' => ∃ (x2 : Value) (x3 : Value) (x4 : Value), v = (nV r.1) ∧ Mem w0 hz w' [blk bp0 [v1p, x2, (nV r.2.out.end_), (nV r.2.out.value), x3, (nV r.2.steps), (.bool (r.2.over)), x4] 53, ow [x2] r.2.out.said, ow [x3] r.2.out.cells, ow [x4] r.2.trace]) := fun w0 hz r_ bp0 v1p h1p v2p v3p v4p k_ in_ v1 h1 hm0 r hq => ih_ r_ k_ in_ r hq w0 hz bp0 v1p h1p v2p v3p v4p v1 h1 hm0
    refine gconr (ρ := l8Run × (List Int)) (R := fun r v w' => ∃ (x2 : Value) (x3 : Value) (x4 : Value), v = (.tuple #[]) ∧ Mem w0 hz w' [blk bp0 [v1p, x2, (nV r.1.out.end_), (nV r.1.out.value), x3, (nV r.1.steps), (.bool (r.1.over)), x4] 53, ow [x2] r.1.out.said, ow [x3] r.1.out.cells, ow [x4] r.1.trace, ow [v2] r.2]) func63 rfl hq ?_
    have hm := hm0
    refine gS (gR (gBx hm rfl fun b0_1 w hm => gE (gS (gR (gF fo_68_3 rfl (gL hm 0 isAgg3 rfl (gA rfl (gE (gS (gR (gA rfl (gE (gS (gS (gR (gF fo_68_2 rfl (gL hm 0 isAgg29 rfl ?_)))))))))))))))))
    obtain ⟨p0_1, c0_1, rfl, hl0_1⟩ := ro_slice h1
    refine gY (yV st_29 rfl) (gB rfl (gE (gJ hm (fun s0_1 => [(0, (pV bp0)), (2, v2), (4, (pV b0_1)), (6, (nV s0_1)), (7, (nV 0))]) (fun s0_1 => [blk bp0 [v1p, v2p, (nV r_.out.end_), (nV r_.out.value), v3p, (nV r_.steps), (.bool (r_.over)), v4p] 53, ow [v2p] r_.out.said, ow [v3p] r_.out.cells, ow [v4p] r_.trace, ow [v2] regs, blk b0_1 [(nV x_.op), (nV x_.to), (.slice p0_1 x_.args.length c0_1), (nV x_.n_)] 68]) (fun s0_1 => ?_) ?_)))
    ·
     refine gsd 18 rfl (fun h1_1 => ?_) fun h1_1 => ?_
     ·
      refine gct rfl (gR (gM rfl (gF fo_68_2 rfl (gL hm 0 isAgg29 rfl (gg fun x1_1 h1_2 hx1_2 => ?_)))))
      obtain ⟨b1_1, o1_1, c1_1, he⟩ := idx_form h1 hx1_2
      simp only [Value.slice.injEq, Option.some.injEq] at he; obtain ⟨rfl, _, rfl⟩ := he
      refine gI st_29 h1_2 (idx_lt hx1_2) rfl (gY (yl isAgg3 ((flat_cells (cs := [(nV x1_1)]) (hm.now h1) hx1_2 rfl).cell (j := 0) rfl) rfl) (gg fun x1_2 h1_3 hx1_4 => ?_))
      obtain ⟨b1_2, o1_2, c1_2, he⟩ := idx_form (hm.ow_rep 5 rfl) hx1_4
      subst he
      exact gI st_29 h1_3 (idx_lt hx1_4) rfl (gY (yl isAgg3 ((flat_cells (cs := [(nV x1_2)]) (hm.ow_rep 5 rfl) hx1_4 rfl).cell (j := 0) rfl) rfl) (gA rfl (gE (gz hm [1, 2, 3, 4, 5, 0] rfl))))
     exact gcf rfl (gSk (gz hm [1, 2, 3, 4, 5, 0] rfl))
    repeat clear hm
    intro s0_1 w hm
    refine gS (gS (gR (gF fo_68_2 rfl (gL hm 5 isAgg29 rfl (gY (yV st_29 rfl) (gB rfl (gE (gJ hm (fun s0_2 => [(0, (pV bp0)), (2, v2), (4, (pV b0_1)), (6, (nV s0_1)), (7, (nV s0_2))]) (fun s0_2 => [blk bp0 [v1p, v2p, (nV r_.out.end_), (nV r_.out.value), v3p, (nV r_.steps), (.bool (r_.over)), v4p] 53, ow [v2p] r_.out.said, ow [v3p] r_.out.cells, ow [v4p] r_.trace, ow [v2] regs, blk b0_1 [(nV x_.op), (nV x_.to), (.slice p0_1 x_.args.length c0_1), (nV x_.n_)] 68]) (fun s0_2 => ?_) ?_))))))))
    ·
     refine gsd 29 rfl (fun h1_4 => ?_) fun h1_4 => ?_
     ·
      refine gct rfl (gR (gM rfl (gF fo_68_2 rfl (gL hm 5 isAgg29 rfl (gg fun x1_3 h1_5 hx1_6 => ?_)))))
      obtain ⟨b1_3, o1_3, c1_3, he⟩ := idx_form h1 hx1_6
      simp only [Value.slice.injEq, Option.some.injEq] at he; obtain ⟨rfl, _, rfl⟩ := he
      refine gI st_29 h1_5 (idx_lt hx1_6) rfl (gY (yl isAgg3 ((flat_cells (cs := [(nV x1_3)]) (hm.now h1) hx1_6 rfl).cell (j := 0) rfl) rfl) (gg fun x1_4 h1_6 hx1_8 => ?_))
      obtain ⟨b1_4, o1_4, c1_4, he⟩ := idx_form (hm.ow_rep 4 rfl) hx1_8
      subst he
      exact gI st_29 h1_6 (idx_lt hx1_8) rfl (gY (yl isAgg3 ((flat_cells (cs := [(nV x1_4)]) (hm.ow_rep 4 rfl) hx1_8 rfl).cell (j := 0) rfl) rfl) (gA rfl (gE (gz hm [0, 1, 2, 3, 4, 5] rfl))))
     exact gcf rfl (gSk (gz hm [0, 1, 2, 3, 4, 5] rfl))
    repeat clear hm
    intro s0_2 w hm
    refine gJge (fun s0_3 a w => ∃ (v0_1 : Value) (v0_2 : Value) (v0_3 : Value), St 137 [] w0 hz [blk bp0 [v1p, v0_1, (nV s0_3.2.1), (nV s0_3.2.2.1), v0_2, (nV s0_3.2.2.2.2.1), (.bool (s0_3.2.2.2.2.2.1)), v0_3] 53, ow [v0_1] s0_3.1, ow [v0_2] s0_3.2.2.2.1, ow [v0_3] s0_3.2.2.2.2.2.2.1, ow [v2] s0_3.2.2.2.2.2.2.2] a w) (fun c0_2 hq0_3 => ?_) ?_
    ·
     refine gBk (gS (gR (gF fo_68_0 rfl (gL hm 5 isAgg3 rfl (gC hm rfl call83 (spec_l8Pure_ok _ x_.op) fun r1_1 hx1_9 w hm => gA rfl (gE (gJge (fun s1_1 a w => ∃ (v1_2 : Value) (v1_3 : Value) (v1_4 : Value), St 137 [] w0 hz [blk bp0 [v1p, v1_2, (nV s1_1.2.1), (nV s1_1.2.2.1), v1_3, (nV s1_1.2.2.2.2.1), (.bool (s1_1.2.2.2.2.2.1)), v1_4] 53, ow [v1_2] s1_1.1, ow [v1_3] s1_1.2.2.2.1, ow [v1_4] s1_1.2.2.2.2.2.2.1, ow [v2] s1_1.2.2.2.2.2.2.2] a w) (fun c1_5 hq1_1 => ?_) ?_)))))))
     ·
      refine gs 45 rfl (fun h2_1 => ?_) fun h2_1 => ?_
      ·
       refine gct rfl (gS (gR (gF fo_68_0 rfl (gL hm 5 isAgg3 rfl (gM rfl (gM rfl (gC hm rfl call84 (spec_l8Do_ok _ x_.op s0_1 s0_2) fun r2_1 hx2_1 w hm => gM rfl (gX rfl (gX rfl (gA rfl (gA rfl (gE (gS (gS (gR (gM rfl (gB rfl (gE (gsd 58 rfl (fun h2_2 => ?_) fun h2_2 => ?_)))))))))))))))))))
       ·
        refine gct rfl (gS (gR (gM rfl (gM rfl ?_))))
        obtain ⟨hz2_1, hle, hm1, hsub, hk2_1⟩ := hm.take2 (L1 := [blk bp0 [v1p, v2p, (nV r_.out.end_), (nV r_.out.value), v3p, (nV r_.steps), (.bool (r_.over)), v4p] 53, ow [v2p] r_.out.said, ow [v3p] r_.out.cells, ow [v4p] r_.trace]) (L2 := [ow [v2] regs, blk b0_1 [(nV x_.op), (nV x_.to), (.slice p0_1 x_.args.length c0_1), (nV x_.n_)] 68]) [0, 1, 2, 3] [4, 5] (by decide) rfl rfl
        refine gCg rfl call82 (pspec_l8Run__stop_ok _ hz2_1 r_ bp0 v1p (GT.mono hle h1p) v2p v3p v4p r2_1.2 hm1 ) ?_
        rintro r2_2 hx2_2 v2_2 w ⟨v2_3, v2_4, v2_5, rfl, hB⟩
        replace hm := hk2_1 _ _ hB; clear hB
        exact gE (gRt (gEr hq1_1 (gEr hq0_3 (gr0 results63 ⟨v2_3, v2_4, v2_5, rfl, hm.pk [0, 1, 2, 3, 4] rfl rfl⟩))))
       refine gcf rfl (gSk (gR (gM rfl (gF fo_68_1 rfl (gL hm 5 isAgg3 rfl (gM rfl (gg fun x2_1 h2_3 hx2_4 => ?_)))))))
       obtain ⟨b2_1, o2_1, c2_1, he⟩ := idx_form (hm.ow_rep 4 rfl) hx2_4
       subst he
       refine gI st_29 h2_3 (idx_lt hx2_4) rfl (gf0 rfl (fun a hf => e_setElem (x1 := r2_1.1) (j := 0) (vs := [(nV r2_1.1)]) 4 hf hm rfl hx2_4 rfl sizeOf3 rfl rfl rfl (one_cons rfl one_nil) rfl rfl) ?_)
       rintro _ w hm
       have hx2_5 := List.getElem?_set_self (a := r2_1.1) (idx_lt hx2_4)
       exact gE (gZe fun a hf => ⟨v2p, v3p, v4p, hf.sb rfl, hm.pk [0, 1, 2, 3, 4] rfl rfl⟩)
      refine gcf rfl (gS (gR (gF fo_68_0 rfl (gL hm 5 isAgg3 rfl (gB rfl (gA rfl (gE (gJg (fun s2_1 a w => ∃ (v2_6 : Value) (v2_7 : Value) (v2_8 : Value), St 137 [] w0 hz [blk bp0 [v1p, v2_6, (nV s2_1.2.1), (nV s2_1.2.2.1), v2_7, (nV s2_1.2.2.2.2.1), (.bool (s2_1.2.2.2.2.2.1)), v2_8] 53, ow [v2_6] s2_1.1, ow [v2_7] s2_1.2.2.2.1, ow [v2_8] s2_1.2.2.2.2.2.2.1, ow [v2] s2_1.2.2.2.2.2.2.2] a w) (fun s2_1 => ?_) ?_))))))))
      ·
       refine gsd 67 rfl (fun h3_1 => ?_) fun h3_1 => ?_
       ·
        refine gct rfl (gR (gM rfl (gM rfl (gY (yG rfl (y_nilptr rfl rfl)) (gF fo_53_1 rfl (gF fo_31_0 rfl (gL hm 0 isAgg29 rfl (gM rfl (gf rfl (fun a hf => e_build (vs := #[(0, (nV s0_1))]) (cs := [(nV s0_1)]) et_29 hf hm rfl rfl (by kernel_rfl) rfl rfl) ?_)))))))))
        rintro _ w ⟨b3_1, rfl, hm⟩
        replace hm := hm.lit (xs := ([s0_1] : List Int)) 0 rfl rfl rfl rfl
        refine gb fun ys3_1 hx3_1 => ?_
        obtain ⟨h3_2, h3_2e⟩ := appM_some.1 hx3_1
        refine gf rfl (fun a hf => e_append 2 et_29 hf hm rfl (hm.ow_rep 0 rfl) rfl rfl rfl h3_2) ?_
        rintro v3_1 w hm
        rw [h3_2e] at hm
        exact gY (yG rfl (y_nilptr rfl rfl)) (gF fo_53_1 rfl (gF fo_31_0 rfl (gS1 hm 1 sizeOf29 (rep_one (hm.ow_rep 2 rfl)) rfl fun w hm => gE (gZ fun a hf => ⟨v3_1, v3p, v4p, hf.sb rfl, hm.pk [1, 2, 3, 4, 5] rfl rfl⟩))))
       refine gcf rfl (gS (gR (gF fo_68_0 rfl (gL hm 5 isAgg3 rfl (gB rfl (gA rfl (gE (gJg (fun s3_1 a w => ∃ (v3_2 : Value) (v3_3 : Value) (v3_4 : Value), St 137 [] w0 hz [blk bp0 [v1p, v3_2, (nV s3_1.2.1), (nV s3_1.2.2.1), v3_3, (nV s3_1.2.2.2.2.1), (.bool (s3_1.2.2.2.2.2.1)), v3_4] 53, ow [v3_2] s3_1.1, ow [v3_3] s3_1.2.2.2.1, ow [v3_4] s3_1.2.2.2.2.2.2.1, ow [v2] s3_1.2.2.2.2.2.2.2] a w) (fun s3_1 => ?_) ?_))))))))
       ·
        refine gsd 83 rfl (fun h4_1 => ?_) fun h4_1 => ?_
        ·
         refine gct rfl (gS (gR (gf rfl (fun a hf => e_build0 (α := Int) et_29 hm rfl) ?_)))
         rintro v4_1 w hm
         refine gA rfl (gE (gS (gS (gR (gA rfl (gE ?_))))))
         obtain ⟨p4_1, c4_1, rfl, hl4_1⟩ := ro_slice (hm.ow_rep 2 rfl)
         obtain ⟨p4_2, c4_2, rfl, hl4_2⟩ := ro_slice (hm.ow_rep 3 rfl)
         obtain ⟨p4_3, c4_3, rfl, hl4_3⟩ := ro_slice (hm.ow_rep 4 rfl)
         obtain ⟨p4_4, c4_4, rfl, hl4_4⟩ := ro_slice (hm.ow_rep 5 rfl)
         obtain ⟨p4_5, c4_5, rfl, hl4_5⟩ := ro_slice (hm.ow_rep 0 rfl)
         refine gBk (gNg (fun i5_1 xs5_1 a w => ∃ (v5_1 : Value), St 137 [(0, (pV bp0)), (2, (.slice p4_4 regs.length c4_4)), (4, (pV b0_1)), (10, v5_1), (11, (nV i5_1))] w0 hz [blk bp0 [v1p, (.slice p4_1 r_.out.said.length c4_1), (nV r_.out.end_), (nV r_.out.value), (.slice p4_2 r_.out.cells.length c4_2), (nV r_.steps), (.bool (r_.over)), (.slice p4_3 r_.trace.length c4_3)] 53, ow [(.slice p4_1 r_.out.said.length c4_1)] r_.out.said, ow [(.slice p4_2 r_.out.cells.length c4_2)] r_.out.cells, ow [(.slice p4_3 r_.trace.length c4_3)] r_.trace, ow [(.slice p4_4 regs.length c4_4)] regs, blk b0_1 [(nV x_.op), (nV x_.to), (.slice p0_1 x_.args.length c0_1), (nV x_.n_)] 68, ow [v5_1] xs5_1] a w) (fun a hf => ⟨(.slice p4_5 ([] : List Int).length c4_5), hf.sb rfl, hm.pk [1, 2, 3, 4, 5, 6, 0] rfl rfl⟩) ?_ ?_)
         ·
          repeat clear hm
          rintro _ _ i5_1 xs5_1 a w ⟨v5_1, hf, hm⟩ hi4_1 hi4_2 q4_1 _
          refine gv hf (gS (gS (gR (gM rfl (gF fo_68_2 rfl (gL hm 5 isAgg29 rfl (gY (yV st_29 rfl) (gB rfl (gE (go _ 92 rfl (decide_eq_true (by omega)) (gct rfl (gSk (gS (gBk (gR (gM rfl (gM rfl (gF fo_68_2 rfl (gL hm 5 isAgg29 rfl (gM rfl (gg fun x5_1 h5_1 hx5_2 => ?_)))))))))))))))))))))
          obtain ⟨b5_1, o5_1, c5_1, he⟩ := idx_form h1 hx5_2
          simp only [Value.slice.injEq, Option.some.injEq] at he; obtain ⟨rfl, _, rfl⟩ := he
          refine gI st_29 h5_1 (idx_lt hx5_2) rfl (gY (yl isAgg3 ((flat_cells (cs := [(nV x5_1)]) (hm.now h1) hx5_2 rfl).cell (j := 0) rfl) rfl) (gg fun x5_2 h5_2 hx5_4 => ?_))
          obtain ⟨b5_2, o5_2, c5_2, he⟩ := idx_form (hm.ow_rep 4 rfl) hx5_4
          simp only [Value.slice.injEq, Option.some.injEq] at he; obtain ⟨rfl, _, rfl⟩ := he
          refine gI st_29 h5_2 (idx_lt hx5_4) rfl (gY (yl isAgg3 ((flat_cells (cs := [(nV x5_2)]) (hm.ow_rep 4 rfl) hx5_4 rfl).cell (j := 0) rfl) rfl) (gf rfl (fun a hf => e_build (vs := #[(0, (nV x5_2))]) (cs := [(nV x5_2)]) et_29 hf hm rfl rfl (by kernel_rfl) rfl rfl) ?_))
          rintro _ w ⟨b5_3, rfl, hm⟩
          replace hm := hm.lit (xs := ([x5_2] : List Int)) 0 rfl rfl rfl rfl
          refine gb fun ys5_1 hx5_5 => ?_
          obtain ⟨h5_3, h5_3e⟩ := appM_some.1 hx5_5
          refine gf rfl (fun a hf => e_append 7 et_29 hf hm rfl (hm.ow_rep 0 rfl) rfl rfl rfl h5_3) ?_
          rintro v5_2 w hm
          rw [h5_3e] at hm
          exact gA rfl (gE (gR (gM rfl (gP (by omega) (by omega) rfl (gA rfl (gE (gZe fun a hf => ⟨v5_2, hf.sb rfl, hm.pk [1, 2, 3, 4, 5, 6, 7] rfl rfl⟩)))))))
         repeat clear hm
         rintro i4_1 xs4_1 a w ⟨v4_2, hf, hm⟩ hi4_3 hi4_4
         refine gv hf (gS (gS (gR (gM rfl (gF fo_68_2 rfl (gL hm 5 isAgg29 rfl (gY (yV st_29 rfl) (gB rfl (gE (go _ 92 rfl (decide_eq_false (by omega)) (gcf rfl (gXt (gHh (gS (gR (gM rfl (gF fo_68_3 rfl (gL hm 5 isAgg3 rfl (gM rfl ?_)))))))))))))))))))
         obtain ⟨hz4_1, hle, hm1, hsub, hk4_1⟩ := hm.take2 (L1 := [blk bp0 [v1p, (.slice p4_1 r_.out.said.length c4_1), (nV r_.out.end_), (nV r_.out.value), (.slice p4_2 r_.out.cells.length c4_2), (nV r_.steps), (.bool (r_.over)), (.slice p4_3 r_.trace.length c4_3)] 53, ow [(.slice p4_1 r_.out.said.length c4_1)] r_.out.said, ow [(.slice p4_2 r_.out.cells.length c4_2)] r_.out.cells, ow [(.slice p4_3 r_.trace.length c4_3)] r_.trace]) (L2 := [ow [(.slice p4_4 regs.length c4_4)] regs, blk b0_1 [(nV x_.op), (nV x_.to), (.slice p0_1 x_.args.length c0_1), (nV x_.n_)] 68, ow [v4_2] xs4_1]) [0, 1, 2, 3] [4, 5, 6] (by decide) rfl rfl
         refine gCg rfl call38 (pspec_l8Run__code_rec _ hz4_1 r_ bp0 v1p (GT.mono hle h1p) (.slice p4_1 r_.out.said.length c4_1) (.slice p4_2 r_.out.cells.length c4_2) (.slice p4_3 r_.trace.length c4_3) x_.n_ xs4_1 v4_2 (fz_ow (hsub 2 _ rfl)) hm1 ) ?_
         rintro r4_2 hx4_1 v4_3 w ⟨v4_4, v4_5, v4_6, rfl, hB⟩
         replace hm := hk4_1 _ _ hB; clear hB
         refine gA rfl (gE (gR (gM rfl (gF fo_68_1 rfl (gL hm 5 isAgg3 rfl (gM rfl (gg fun x4_1 h4_2 hx4_3 => ?_)))))))
         obtain ⟨b4_1, o4_1, c4_6, he⟩ := idx_form (hm.ow_rep 4 rfl) hx4_3
         simp only [Value.slice.injEq, Option.some.injEq] at he; obtain ⟨rfl, _, rfl⟩ := he
         refine gI st_29 h4_2 (idx_lt hx4_3) rfl (gf0 rfl (fun a hf => e_setElem (x1 := r4_2.1) (j := 0) (vs := [(nV r4_2.1)]) 4 hf hm rfl hx4_3 rfl sizeOf3 rfl rfl rfl (one_cons rfl one_nil) rfl rfl) ?_)
         rintro _ w hm
         have hx4_4 := List.getElem?_set_self (a := r4_2.1) (idx_lt hx4_3)
         exact gE (gZ fun a hf => ⟨v4_4, v4_5, v4_6, hf.sb rfl, hm.pk [0, 1, 2, 3, 4] rfl rfl⟩)
        refine gcf rfl (gS (gR (gM rfl (gB rfl (gA rfl (gE (gJg (fun s4_1 a w => ∃ (v4_7 : Value) (v4_8 : Value) (v4_9 : Value), St 137 [] w0 hz [blk bp0 [v1p, v4_7, (nV s4_1.2.1), (nV s4_1.2.2.1), v4_8, (nV s4_1.2.2.2.2.1), (.bool (s4_1.2.2.2.2.2.1)), v4_9] 53, ow [v4_7] s4_1.1, ow [v4_8] s4_1.2.2.2.1, ow [v4_9] s4_1.2.2.2.2.2.2.1, ow [v2] s4_1.2.2.2.2.2.2.2] a w) (fun s4_1 => ?_) ?_)))))))
        ·
         refine gsd 116 rfl (fun h5_4 => ?_) fun h5_4 => ?_
         ·
          refine gct rfl (gR (gM rfl ?_))
          obtain ⟨hz5_1, hle, hm1, hsub, hk5_1⟩ := hm.take2 (L1 := [blk bp0 [v1p, v2p, (nV r_.out.end_), (nV r_.out.value), v3p, (nV r_.steps), (.bool (r_.over)), v4p] 53, ow [v2p] r_.out.said, ow [v3p] r_.out.cells, ow [v4p] r_.trace]) (L2 := [ow [v2] regs, blk b0_1 [(nV x_.op), (nV x_.to), (.slice p0_1 x_.args.length c0_1), (nV x_.n_)] 68]) [0, 1, 2, 3] [4, 5] (by decide) rfl rfl
          refine gCg rfl call82 (pspec_l8Run__stop_ok _ hz5_1 r_ bp0 v1p (GT.mono hle h1p) v2p v3p v4p 2 hm1 ) ?_
          rintro r5_1 hx5_6 v5_3 w ⟨v5_4, v5_5, v5_6, rfl, hB⟩
          replace hm := hk5_1 _ _ hB; clear hB
          exact gE (gZ fun a hf => ⟨v5_4, v5_5, v5_6, hf.sb rfl, hm.pk [0, 1, 2, 3, 4] rfl rfl⟩)
         refine gcf rfl (gS (gR (gF fo_68_0 rfl (gL hm 5 isAgg3 rfl (gB rfl (gA rfl (gE (gJ hm (fun s5_1 => []) (fun s5_1 => [blk bp0 [v1p, v2p, (nV r_.out.end_), (nV r_.out.value), v3p, (nV r_.steps), (.bool (r_.over)), v4p] 53, ow [v2p] r_.out.said, ow [v3p] s5_1.1, ow [v4p] r_.trace, ow [v2] s5_1.2]) (fun s5_1 => ?_) ?_))))))))
         ·
          refine gsd 121 rfl (fun h6_1 => ?_) fun h6_1 => ?_
          ·
           refine gct rfl (gW (.p 0 (.p 1 (.p 3 (.p 4 (.p 5 (.p 6 (.p 8 (.q 2 (.e 7 (.p 9 (.e 10 (.p 11 (.e 12 .fin .nil)) .nil)) .nil))))))))) [7, 10] [0, 1, 3, 4, 5, 6, 8, 9, 11] hm [0, 1, 2, 3, 4, 5] [blk bp0 [v1p, v2p, (nV r_.out.end_), (nV r_.out.value), v3p, (nV r_.steps), (.bool (r_.over)), v4p] 53, ow [v2p] r_.out.said, ow [v3p] r_.out.cells, ow [v4p] r_.trace, ow [v2] regs, blk b0_1 [(nV x_.op), (nV x_.to), (.slice p0_1 x_.args.length c0_1), (nV x_.n_)] 68] rfl mxo (by kernel_rfl) (fun _ _ _ h => h.2) fun w hm hS => tP rfl (fun w => yM rfl) (tP rfl (fun w => yF fo_68_1 rfl) (tP rfl (fun w => yM rfl) (tP rfl (fun w => yG rfl (y_nilptr rfl rfl)) (tP rfl (fun w => yF fo_53_1 rfl) (tP rfl (fun w => yF fo_31_3 rfl) (tP rfl (fun w => yM rfl) (tQ rfl hS (fun w hm => yL hm 5 isAgg3 rfl) (tO (tY rfl (yL hm 0 isAgg29 rfl) (tAs hS (gg fun x6_1 h6_2 hx6_2 => ?_))))))))))))
           obtain ⟨b6_1, o6_1, c6_1, he⟩ := idx_form (hm.ow_rep 2 rfl) hx6_2
           subst he
           refine tP rfl (fun w => yI st_29 h6_2 (idx_lt hx6_2) rfl) (tO (tY rfl (yl isAgg3 ((flat_cells (cs := [(nV x6_1)]) (hm.ow_rep 2 rfl) hx6_2 rfl).cell (j := 0) rfl) rfl) (tAs hS (gg fun x6_2 h6_3 hx6_4 => ?_))))
           obtain ⟨b6_2, o6_2, c6_2, he⟩ := idx_form (hm.ow_rep 4 rfl) hx6_4
           subst he
           refine tP rfl (fun w => yI st_29 h6_3 (idx_lt hx6_4) rfl) (tO (tf0 rfl rfl (fun a hf => e_setElem (x1 := x6_1) (j := 0) (vs := [(nV x6_1)]) 4 hf hm rfl hx6_4 rfl sizeOf3 rfl rfl rfl (one_cons rfl one_nil) rfl rfl) ?_))
           rintro _ w hm
           have hx6_5 := List.getElem?_set_self (a := x6_1) (idx_lt hx6_4)
           exact tAn rfl (tE (gz hm [0, 1, 2, 3, 4] rfl))
          refine gcf rfl (gR (gM rfl (gY (yG rfl (y_nilptr rfl rfl)) (gF fo_53_1 rfl (gF fo_31_3 rfl (gL hm 0 isAgg29 rfl (gM rfl (gM rfl (gg fun x6_3 h6_4 hx6_7 => ?_)))))))))
          obtain ⟨b6_3, o6_3, c6_3, he⟩ := idx_form (hm.ow_rep 2 rfl) hx6_7
          subst he
          refine gI st_29 h6_4 (idx_lt hx6_7) rfl (gf0 rfl (fun a hf => e_setElem (x1 := s0_2) (j := 0) (vs := [(nV s0_2)]) 2 hf hm rfl hx6_7 rfl sizeOf3 rfl rfl rfl (one_cons rfl one_nil) rfl rfl) ?_)
          rintro _ w hm
          have hx6_8 := List.getElem?_set_self (a := s0_2) (idx_lt hx6_7)
          exact gE (gz hm [0, 1, 2, 3, 4] rfl)
         repeat clear hm
         intro s5_1 w hm
         exact gZ fun a hf => ⟨v2p, v3p, v4p, hf.sb rfl, hm.pk [0, 1, 2, 3, 4] rfl rfl⟩
        repeat clear hm
        rintro s4_1 a w ⟨v4_7, v4_8, v4_9, hf, hm⟩
        exact gv hf (gZ fun a hf => ⟨v4_7, v4_8, v4_9, hf.sb rfl, hm.pk [0, 1, 2, 3, 4] rfl rfl⟩)
       repeat clear hm
       rintro s3_1 a w ⟨v3_2, v3_3, v3_4, hf, hm⟩
       exact gv hf (gZ fun a hf => ⟨v3_2, v3_3, v3_4, hf.sb rfl, hm.pk [0, 1, 2, 3, 4] rfl rfl⟩)
      repeat clear hm
      rintro s2_1 a w ⟨v2_6, v2_7, v2_8, hf, hm⟩
      exact gv hf (gZe fun a hf => ⟨v2_6, v2_7, v2_8, hf.sb rfl, hm.pk [0, 1, 2, 3, 4] rfl rfl⟩)
     repeat clear hm
     rintro s1_1 a w ⟨v1_2, v1_3, v1_4, hf, hm⟩
     exact gv hf (gZe fun a hf => ⟨v1_2, v1_3, v1_4, hf.sb rfl, hm.pk [0, 1, 2, 3, 4] rfl rfl⟩)
    repeat clear hm
    rintro s0_3 a w ⟨v0_1, v0_2, v0_3, hf, hm⟩
    exact gv hf (gre results63 ⟨v0_1, v0_2, v0_3, rfl, hm.pk [0, 1, 2, 3, 4] rfl rfl⟩)

theorem pspec_l8Run__code_ok (w0 : World) (hz : Heap) (r_ : l8Run) (bp0 : Nat) (v1p : Value) (h1p : GT.rep hz [v1p] r_.u.codes) (v2p : Value) (v3p : Value) (v4p : Value) (k_ : Int) (in_ : List Int) (v1 : Value) (h1 : GT.rep hz [v1] in_) (hm0 : Mem w0 hz w0 [blk bp0 [v1p, v2p, (nV r_.out.end_), (nV r_.out.value), v3p, (nV r_.steps), (.bool (r_.over)), v4p] 53, ow [v2p] r_.out.said, ow [v3p] r_.out.cells, ow [v4p] r_.trace]) (r : Int × l8Run) (hq : pspec_l8Run__code r_ k_ in_ = some r) : Con Tryd.prog 38 [(pV bp0), (nV k_), v1] w0 (fun v w' => ∃ (x2 : Value) (x3 : Value) (x4 : Value), v = (nV r.1) ∧ Mem w0 hz w' [blk bp0 [v1p, x2, (nV r.2.out.end_), (nV r.2.out.value), x3, (nV r.2.steps), (.bool (r.2.over)), x4] 53, ow [x2] r.2.out.said, ow [x3] r.2.out.cells, ow [x4] r.2.trace]) := pspec_l8Run__code_all.1 r_ k_ in_ r hq w0 hz bp0 v1p h1p v2p v3p v4p v1 h1 hm0

theorem spec_l8Start_ok (w0 : World) (hz : Heap) (hle0 : Heap.le hz (hp w0)) (u : Unit_) (v1 : Value) (h1 : GT.rep hz [v1] u.codes) (in_ : List Int) (v2 : Value) (h2 : GT.rep hz [v2] in_) (steps : Int) :
    ConM Tryd.prog 22 [(.agg #[v1]), v2, (nV steps)] w0 (spec_l8Start u in_ steps) fun r v w' => ∃ (b1 : Nat) (x2 : Value) (x3 : Value) (x4 : Value) (x5 : Value) (hz2 : Heap), v = (pV b1) ∧ Heap.le hz hz2 ∧ GT.rep hz2 [x2] r.u.codes ∧ Mem w0 hz2 w' [junk w0 hz, blk b1 [x2, x3, (nV r.out.end_), (nV r.out.value), x4, (nV r.steps), (.bool (r.over)), x5] 53, ow [x3] r.out.said, ow [x4] r.out.cells, ow [x5] r.trace] := by
  unfold spec_l8Start
  refine gcon func22 rfl fun r => ?_
  have hm := Mem.startA hle0
  refine gS (gR (gBx hm rfl fun b0_1 w hm => gA rfl (gE (gS (gJg (fun s0_1 a w => ∃ (b0_2 : Nat) (v0_1 : Value) (v0_2 : Value), St 34 [(1, v2), (3, (pV b0_1)), (7, (pV b0_2))] w0 hz [blk b0_1 [v1] 25, blk b0_2 [v1, v0_1, (nV 0), (nV 0), v0_2, (nV steps), (.bool (false)), (.slice none 0 0)] 53, ow [v0_1] ([] : List Int), ow [v0_2] s0_1, junk w0 hz] a w) (fun s0_1 => ?_) ?_)))))
  ·
   refine gW (.p 1 (.q 0 (.e 2 (.e 3 (.p 4 (.p 5 (.e 6 (.p 7 .fin) .nil))) .nil) (.e 3 (.e 2 (.p 4 (.p 5 (.e 6 (.p 7 .fin) .nil))) .nil) .nil)))) [2, 3] [1, 4, 5, 7] hm [0, 1] [blk b0_1 [v1] 25, junk w0 hz] rfl mxo (by kernel_rfl) (fun _ _ _ h => h.2) fun w hm hS => tP rfl (fun w => yM rfl) (tQ rfl hS (fun w hm => yn (hm.blk_at 0 rfl) isAgg25 sizeOf25 rfl) (gb fun pb1_1 hpb1_1 => tMo ?_ ?_))
   ·
    refine tf rfl rfl (fun a hf => e_build0 (α := Int) et_29 hm rfl) ?_
    rintro v1_1 w hm
    refine tAk hm [1, 2] rfl fun hS => tO ?_
    obtain ⟨⟨h1_11, h1_12⟩, h1_1e⟩ := makeM_some.1 hpb1_1
    refine tf rfl rfl (fun a hf => e_make (x0 := (0 : Int)) et_29 (fun _ => (Flat.own_iff.2 rfl)) hf hm rfl rfl rfl h1_11 (Int.le_refl _) h1_12) ?_
    rintro v1_2 w hm
    rw [h1_1e] at hm
    have h1_1l : (pb1_1.length : Int) = 16 := by rw [← h1_1e]; simp only [List.length_replicate]; omega
    refine tAk hm [2, 3] rfl fun hS => ?_
    obtain ⟨p1_1, c1_1, rfl, hl1_1⟩ := ro_slice (hm.ow_rep 1 rfl)
    obtain ⟨p1_2, c1_2, rfl, hl1_2⟩ := ro_slice (hm.ow_rep 0 rfl)
    refine tP rfl (fun w => yG rfl (y_build (vs := [(0, (.slice p1_1 ([] : List Int).length c1_1)), (3, (.slice p1_2 pb1_1.length c1_2))]) (cs := #[(.slice p1_1 ([] : List Int).length c1_1), (nV 0), (nV 0), (.slice p1_2 pb1_1.length c1_2)]) rfl rfl (by kernel_rfl))) ?_
    obtain ⟨p1_3, c1_3, rfl, hl1_3⟩ := ro_slice h1
    refine tP rfl (fun w => yG rfl (y_build (vs := [(0, (.agg #[(.slice p1_3 u.codes.length c1_3)])), (2, (nV steps)), (1, (.agg #[(.slice p1_1 ([] : List Int).length c1_1), (nV 0), (nV 0), (.slice p1_2 pb1_1.length c1_2)]))]) (cs := #[(.slice p1_3 u.codes.length c1_3), (.slice p1_1 ([] : List Int).length c1_1), (nV 0), (nV 0), (.slice p1_2 pb1_1.length c1_2), (nV steps), (.bool (false)), (.slice none 0 0)]) rfl rfl (by kernel_rfl))) (tO (tf rfl rfl (fun a hf => e_box hf hm rfl rfl rfl) ?_))
    rintro _ w ⟨b1_1, rfl, hm⟩
    exact tAn rfl (tP rfl (fun w => yA rfl) (tE (gZ fun a hf => ⟨b1_1, (.slice p1_1 ([] : List Int).length c1_1), (.slice p1_2 pb1_1.length c1_2), hf.sb rfl, hm.pk [3, 0, 2, 1, 4] rfl rfl⟩)))
   refine tO ?_
   obtain ⟨⟨h1_21, h1_22⟩, h1_2e⟩ := makeM_some.1 hpb1_1
   refine tf rfl rfl (fun a hf => e_make (x0 := (0 : Int)) et_29 (fun _ => (Flat.own_iff.2 rfl)) hf hm rfl rfl rfl h1_21 (Int.le_refl _) h1_22) ?_
   rintro v1_3 w hm
   rw [h1_2e] at hm
   have h1_2l : (pb1_1.length : Int) = 16 := by rw [← h1_2e]; simp only [List.length_replicate]; omega
   refine tAk hm [1, 2] rfl fun hS => tO (tf rfl rfl (fun a hf => e_build0 (α := Int) et_29 hm rfl) ?_)
   rintro v1_4 w hm
   refine tAk hm [2, 3] rfl fun hS => ?_
   obtain ⟨p1_4, c1_4, rfl, hl1_4⟩ := ro_slice (hm.ow_rep 0 rfl)
   obtain ⟨p1_5, c1_5, rfl, hl1_5⟩ := ro_slice (hm.ow_rep 1 rfl)
   refine tP rfl (fun w => yG rfl (y_build (vs := [(0, (.slice p1_4 ([] : List Int).length c1_4)), (3, (.slice p1_5 pb1_1.length c1_5))]) (cs := #[(.slice p1_4 ([] : List Int).length c1_4), (nV 0), (nV 0), (.slice p1_5 pb1_1.length c1_5)]) rfl rfl (by kernel_rfl))) ?_
   obtain ⟨p1_6, c1_6, rfl, hl1_6⟩ := ro_slice h1
   refine tP rfl (fun w => yG rfl (y_build (vs := [(0, (.agg #[(.slice p1_6 u.codes.length c1_6)])), (2, (nV steps)), (1, (.agg #[(.slice p1_4 ([] : List Int).length c1_4), (nV 0), (nV 0), (.slice p1_5 pb1_1.length c1_5)]))]) (cs := #[(.slice p1_6 u.codes.length c1_6), (.slice p1_4 ([] : List Int).length c1_4), (nV 0), (nV 0), (.slice p1_5 pb1_1.length c1_5), (nV steps), (.bool (false)), (.slice none 0 0)]) rfl rfl (by kernel_rfl))) (tO (tf rfl rfl (fun a hf => e_box hf hm rfl rfl rfl) ?_))
   rintro _ w ⟨b1_2, rfl, hm⟩
   exact tAn rfl (tP rfl (fun w => yA rfl) (tE (gZ fun a hf => ⟨b1_2, (.slice p1_4 ([] : List Int).length c1_4), (.slice p1_5 pb1_1.length c1_5), hf.sb rfl, hm.pk [3, 0, 1, 2, 4] rfl rfl⟩)))
  repeat clear hm
  rintro s0_1 a w ⟨b0_2, v0_1, v0_2, hf, hm⟩
  refine gv hf (gS (gR (gM rfl (gF fo_25_0 rfl (gL hm 0 isAgg23 rfl ?_)))))
  obtain ⟨p0_1, c0_1, rfl, hl0_1⟩ := ro_slice h1
  refine gY (yV st_23 rfl) (gY (yS (by omega) (by omega) rfl) (gM rfl ?_))
  replace hm := hm.nilow (α := Int)
  obtain ⟨hz0_1, hle, hm1, hsub, hk0_1⟩ := hm.take2 (L1 := [blk b0_2 [(.slice p0_1 u.codes.length c0_1), v0_1, (nV 0), (nV 0), v0_2, (nV steps), (.bool (false)), (.slice none 0 0)] 53, ow [v0_1] ([] : List Int), ow [v0_2] s0_1, ow [(.slice none 0 0)] ([] : List Int)]) (L2 := [blk b0_1 [(.slice p0_1 u.codes.length c0_1)] 25, junk w0 hz]) [2, 3, 4, 0] [1, 5] (by decide) rfl rfl
  refine gCg rfl call38 (pspec_l8Run__code_ok _ hz0_1 (⟨u, (⟨([] : List Int), 0, 0, s0_1⟩ : Outcome_), steps, false, ([] : List Int)⟩ : l8Run) b0_2 (.slice p0_1 u.codes.length c0_1) (GT.mono hle h1) v0_1 v0_2 (.slice none 0 0) (((u.codes.length : Int)) - 1) in_ v2 (GT.mono hle h2) hm1 ) ?_
  rintro r0_1 hx0_1 v0_3 w ⟨v0_4, v0_5, v0_6, rfl, hB⟩
  replace hm := hk0_1 _ _ hB; clear hB
  refine gA rfl (gE (gS (gS (gR (gM rfl (gY (yG rfl (y_nilptr rfl rfl)) (gF fo_53_3 rfl (gL hm 0 isAgg4 rfl (gN rfl (gE (gJ hm (fun s0_2 => [(7, (pV b0_2))]) (fun s0_2 => [blk b0_2 [(.slice p0_1 u.codes.length c0_1), v0_4, (nV r0_1.2.out.end_), (nV s0_2), v0_5, (nV r0_1.2.steps), (.bool (r0_1.2.over)), v0_6] 53, ow [v0_4] r0_1.2.out.said, ow [v0_5] r0_1.2.out.cells, ow [v0_6] r0_1.2.trace, junk w0 hz]) (fun s0_2 => ?_) ?_)))))))))))
  ·
   refine gsn 27 rfl (fun h1_3 => ?_) fun h1_3 => ?_
   ·
    exact gct rfl (gR (gM rfl (gM rfl (gY (yG rfl (y_nilptr rfl rfl)) (gF fo_53_1 rfl (gF fo_31_2 rfl (gS1 hm 0 sizeOf3 rfl rfl fun w hm => gE (gz hm [0, 1, 2, 3, 5] rfl))))))))
   exact gcf rfl (gSk (gz hm [0, 1, 2, 3, 5] rfl))
  repeat clear hm
  intro s0_2 w hm
  exact gS (gR (gM rfl (gA rfl (gE (gRt (gr1 results22 rfl ⟨b0_2, (.slice p0_1 u.codes.length c0_1), v0_4, v0_5, v0_6, hz, rfl, (Heap.le_refl _), h1, hm.pk [4, 0, 1, 2, 3] rfl rfl⟩))))))

theorem spec_RunUnit_ok (w0 : World) (u : Unit_) (v1 : Value) (h1 : GT.rep (hp w0) [v1] u.codes) (in_ : List Int) (v2 : Value) (h2 : GT.rep (hp w0) [v2] in_) (steps : Int) :
    ConM Tryd.prog 8 [(.agg #[v1]), v2, (nV steps)] w0 (spec_RunUnit u in_ steps) fun r v w' => ∃ (x1 : Value) (x2 : Value), v = (.tuple #[(.agg #[x1, (nV r.1.end_), (nV r.1.value), x2]), (.bool (r.2))]) ∧ Mem w0 (hp w0) w' [ow [x1] r.1.said, ow [x2] r.1.cells] := by
  unfold spec_RunUnit
  refine gcon func8 rfl fun r => ?_
  have hm := Mem.start w0
  refine gS (gR (gBx hm rfl fun b0_1 w hm => gAl hm zeroValue31 rfl fun b0_2 w hm => gA rfl (gE (gS (gS (gJ hm (fun s0_1 => [(1, v2), (2, (nV steps)), (3, (pV b0_1)), (6, (pV b0_2)), (16, (.bool (s0_1)))]) (fun s0_1 => [blk b0_1 [v1] 25, blk b0_2 [(.slice none 0 0), (nV 0), (nV 0), (.slice none 0 0)] 31]) (fun s0_1 => ?_) ?_))))))
  ·
   refine gR (gY (yn (hm.blk_at 1 rfl) isAgg25 sizeOf25 rfl) (gM rfl (gC hm rfl call20 (spec_l8Fits_ok _ u v1 (hm.now h1) in_ v2 (hm.now h2)) fun r1_1 hx1_1 w hm => gN rfl (gM rfl (gsn 12 rfl (fun h1_1 => ?_) fun h1_1 => ?_)))))
   ·
    exact gO rfl (gO rfl (gO rfl (gKt rfl (gE (gz hm [1, 0] rfl)))))
   exact gM rfl (gC hm rfl call21 (spec_l1In_ok _ steps 0 60000) fun r1_2 hx1_2 w hm => gN rfl (gKf rfl (gE (gz hm [1, 0] rfl))))
  repeat clear hm
  intro s0_1 w hm
  refine gs 16 rfl (fun h0_1 => ?_) fun h0_1 => ?_
  ·
   refine gct rfl (gS (gR (gY (yG rfl (y_build (vs := []) (cs := #[(.slice none 0 0), (nV 0), (nV 0), (.slice none 0 0)]) rfl rfl (by kernel_rfl))) (gSN hm 1 sizeOf31 (one_cons rfl (one_cons rfl (one_cons rfl (one_cons rfl one_nil)))) rfl fun w hm => gA rfl (gE (gRt ?_))))))
   replace hm := hm.nilow (α := Int)
   replace hm := hm.nilow (α := Int)
   exact grct 3 results8 hm rfl isAgg31 sizeOf31 ⟨(.slice none 0 0), (.slice none 0 0), rfl, hm.pk [1, 0] rfl rfl⟩
  refine gcf rfl (gSk (gS (gR (gY (yn (hm.blk_at 0 rfl) isAgg25 sizeOf25 rfl) (gM rfl (gM rfl (gCg rfl call22 (spec_l8Start_ok _ _ hm.lez u v1 h1 in_ v2 h2 steps ) ?_)))))))
  rintro r0_1 hx0_1 v0_1 w ⟨b0_3, v0_2, v0_3, v0_4, v0_5, hz0_1, rfl, hle0_1, h0_2, hB⟩
  replace hm := Mem.giveA hm hle0_1 hB; clear hB
  refine gY (yG rfl (y_nilptr rfl rfl)) (gF fo_53_1 rfl (gY (yn (cs := [v0_3, (nV r0_1.out.end_), (nV r0_1.out.value), v0_4]) (hm.blk_part (i := 1) 0 rfl rfl) isAgg31 sizeOf31 rfl) (gSN hm 5 sizeOf31 (one_cons (rep_one (hm.ow_rep 1 rfl)) (one_cons rfl (one_cons rfl (one_cons (rep_one (hm.ow_rep 2 rfl)) one_nil)))) rfl fun w hm => gA rfl (gE (gRt ?_)))))
  replace hm := hm.thaw hle0_1
  exact grct 5 results8 hm rfl isAgg31 sizeOf31 ⟨v0_3, v0_4, rfl, hm.pk [1, 2] rfl rfl⟩

theorem laws_wwInts_ok (w0 : World) (a_ : List Int) (v1 : Value) (h1 : GT.rep (hp w0) [v1] a_) (b_ : List Int) (v2 : Value) (h2 : GT.rep (hp w0) [v2] b_) :
    ConM Tryd.prog 9 [v1, v2] w0 (laws_wwInts a_ b_) fun r v w' => v = (.bool (r)) ∧ Below w0.heap.size w0 w' := by
  unfold laws_wwInts
  refine gcon func9 rfl fun r => ?_
  have hm := Mem.start w0
  refine gS (gR (gA rfl (gE (gS (gS (gR (gM rfl ?_)))))))
  obtain ⟨p0_1, c0_1, rfl, hl0_1⟩ := ro_slice h1
  refine gY (yV st_29 rfl) (gM rfl ?_)
  obtain ⟨p0_2, c0_2, rfl, hl0_2⟩ := ro_slice h2
  refine gY (yV st_29 rfl) (gY (yG rfl (y_min rfl rfl rfl)) ?_)
  have h0_1 : minI (a_.length : Int) (b_.length : Int) = min (a_.length : Int) (b_.length : Int) := minI_eq _ _
  refine gM rfl (gE (gBk (gNf hm (fun i1_1 xs1_1 => [(0, (.slice p0_1 a_.length c0_1)), (1, (.slice p0_2 b_.length c0_2)), (10, (nV ((minI (a_.length : Int) (b_.length : Int))))), (11, (nV i1_1))]) (fun i1_1 xs1_1 => []) [] rfl ?_ ?_)))
  ·
   repeat clear hm
   intro r0_1 hq0_1 i1_1 xs1_1 w hm hi0_1 hi0_2 q0_1 ho0_1
   refine gS (gR (gB rfl (gE (gS (go _ 12 rfl (decide_eq_true (by omega)) (gct rfl (gSk (gS (gBk (gS (gR (gM rfl (gA rfl (gE (gS (gW (.p 0 (.p 1 (.p 2 (.p 4 (.p 5 (.p 6 (.q 3 (.e 7 (.p 8 .fin) .nil)))))))) [7] [0, 1, 2, 4, 5, 6, 8] hm [] [] rfl mxo (by kernel_rfl) (fun _ _ _ h => h.2) fun w hm hS => tP rfl (fun w => yM rfl) (tP rfl (fun w => yM rfl) (gg fun x1_1 h1_1 hx1_2 => ?_))))))))))))))))))
   obtain ⟨b1_1, o1_1, c1_1, he⟩ := idx_form h1 hx1_2
   simp only [Value.slice.injEq, Option.some.injEq] at he; obtain ⟨rfl, _, rfl⟩ := he
   refine tP rfl (fun w => yI st_29 h1_1 (idx_lt hx1_2) rfl) (tP rfl (fun w => yM rfl) (tP rfl (fun w => yM rfl) (gg fun x1_2 h1_2 hx1_4 => ?_)))
   obtain ⟨b1_2, o1_2, c1_2, he⟩ := idx_form h2 hx1_4
   simp only [Value.slice.injEq, Option.some.injEq] at he; obtain ⟨rfl, _, rfl⟩ := he
   refine tP rfl (fun w => yI st_29 h1_2 (idx_lt hx1_4) rfl) (tQ rfl hS (fun w hm => yl isAgg3 ((flat_cells (cs := [(nV x1_1)]) (hm.now h1) hx1_2 rfl).cell (j := 0) rfl) rfl) (tO (tY rfl (yl isAgg3 ((flat_cells (cs := [(nV x1_2)]) (hm.now h2) hx1_4 rfl).cell (j := 0) rfl) rfl) (tAs hS (tP rfl (fun w => yB rfl) (tE (gsd 22 rfl (fun h1_3 => ?_) fun h1_3 => ?_)))))))
   ·
    exact gct rfl (gS (gR (gA rfl (gE (gRt (gLr ho0_1 hq0_1 (gr1 results9 rfl ⟨rfl, hm.below⟩)))))))
   exact gcf rfl (gSk (gR (gP (by omega) (by omega) rfl (gM rfl (gE (gze hm [] rfl))))))
  repeat clear hm
  intro i0_1 xs0_1 w hm hi0_3 hi0_4
  exact gS (gR (gB rfl (gE (gS (go _ 12 rfl (decide_eq_false (by omega)) (gcf rfl (gXt (gHh (gS (gR (gM rfl (gY (yV st_29 rfl) (gM rfl (gY (yV st_29 rfl) (gB rfl (gA rfl (gE (gRt (gr1 results9 rfl ⟨rfl, hm.below⟩)))))))))))))))))))

theorem spec_l5Ints_ok (w0 : World) (a_ : List Int) (v1 : Value) (h1 : GT.rep (hp w0) [v1] a_) (b_ : List Int) (v2 : Value) (h2 : GT.rep (hp w0) [v2] b_) :
    ConM Tryd.prog 23 [v1, v2] w0 (spec_l5Ints a_ b_) fun r v w' => v = (.bool (r)) ∧ Below w0.heap.size w0 w' := by
  unfold spec_l5Ints
  refine gcon func23 rfl fun r => ?_
  have hm := Mem.start w0
  refine gS (gR (gA rfl (gE (gS (gS (gR (gM rfl ?_)))))))
  obtain ⟨p0_1, c0_1, rfl, hl0_1⟩ := ro_slice h1
  refine gY (yV st_29 rfl) (gM rfl ?_)
  obtain ⟨p0_2, c0_2, rfl, hl0_2⟩ := ro_slice h2
  refine gY (yV st_29 rfl) (gB rfl (gE (gsd 10 rfl (fun h0_1 => ?_) fun h0_1 => ?_)))
  ·
   exact gct rfl (gS (gR (gA rfl (gE (gRt (gr1 results23 rfl ⟨rfl, hm.below⟩))))))
  refine gcf rfl (gSk (gS (gS (gR (gA rfl (gE (gBk (gNf hm (fun i1_1 xs1_1 => [(0, (.slice p0_1 a_.length c0_1)), (1, (.slice p0_2 b_.length c0_2)), (5, (nV i1_1))]) (fun i1_1 xs1_1 => []) [] rfl ?_ ?_))))))))
  ·
   repeat clear hm
   intro r0_1 hq0_1 i1_1 xs1_1 w hm hi0_1 hi0_2 q0_1 ho0_1
   refine gS (gS (gR (gM rfl (gM rfl (gY (yV st_29 rfl) (gB rfl (gE (go _ 14 rfl (decide_eq_true (by omega)) (gct rfl (gSk (gS (gBk (gS (gW (.p 0 (.p 1 (.p 2 (.p 4 (.p 5 (.p 6 (.q 3 (.e 7 (.p 8 .fin) .nil)))))))) [7] [0, 1, 2, 4, 5, 6, 8] hm [] [] rfl mxo (by kernel_rfl) (fun _ _ _ h => h.2) fun w hm hS => tP rfl (fun w => yM rfl) (tP rfl (fun w => yM rfl) (gg fun x1_1 h1_1 hx1_2 => ?_))))))))))))))))
   obtain ⟨b1_1, o1_1, c1_1, he⟩ := idx_form h1 hx1_2
   simp only [Value.slice.injEq, Option.some.injEq] at he; obtain ⟨rfl, _, rfl⟩ := he
   refine tP rfl (fun w => yI st_29 h1_1 (idx_lt hx1_2) rfl) (tP rfl (fun w => yM rfl) (tP rfl (fun w => yM rfl) (gg fun x1_2 h1_2 hx1_4 => ?_)))
   obtain ⟨b1_2, o1_2, c1_2, he⟩ := idx_form h2 hx1_4
   simp only [Value.slice.injEq, Option.some.injEq] at he; obtain ⟨rfl, _, rfl⟩ := he
   refine tP rfl (fun w => yI st_29 h1_2 (idx_lt hx1_4) rfl) (tQ rfl hS (fun w hm => yl isAgg3 ((flat_cells (cs := [(nV x1_1)]) (hm.now h1) hx1_2 rfl).cell (j := 0) rfl) rfl) (tO (tY rfl (yl isAgg3 ((flat_cells (cs := [(nV x1_2)]) (hm.now h2) hx1_4 rfl).cell (j := 0) rfl) rfl) (tAs hS (tP rfl (fun w => yB rfl) (tE (gsd 25 rfl (fun h1_3 => ?_) fun h1_3 => ?_)))))))
   ·
    exact gct rfl (gS (gR (gA rfl (gE (gRt (gLr ho0_1 hq0_1 (gr1 results23 rfl ⟨rfl, hm.below⟩)))))))
   exact gcf rfl (gSk (gR (gM rfl (gP (by omega) (by omega) rfl (gA rfl (gE (gze hm [] rfl)))))))
  repeat clear hm
  intro i0_1 xs0_1 w hm hi0_3 hi0_4
  exact gS (gS (gR (gM rfl (gM rfl (gY (yV st_29 rfl) (gB rfl (gE (go _ 14 rfl (decide_eq_false (by omega)) (gcf rfl (gXt (gHh (gS (gR (gA rfl (gE (gRt (gr1 results23 rfl ⟨rfl, hm.below⟩)))))))))))))))))

theorem spec_SameOutcome_ok (w0 : World) (a_ : Outcome_) (v1 : Value) (h1 : GT.rep (hp w0) [v1] a_.said) (v2 : Value) (h2 : GT.rep (hp w0) [v2] a_.cells) (b_ : Outcome_) (v3 : Value) (h3 : GT.rep (hp w0) [v3] b_.said) (v4 : Value) (h4 : GT.rep (hp w0) [v4] b_.cells) :
    ConM Tryd.prog 10 [(.agg #[v1, (nV a_.end_), (nV a_.value), v2]), (.agg #[v3, (nV b_.end_), (nV b_.value), v4])] w0 (spec_SameOutcome a_ b_) fun r v w' => v = (.bool (r)) ∧ Below w0.heap.size w0 w' := by
  unfold spec_SameOutcome
  refine gcon func10 rfl fun r => ?_
  have hm := Mem.start w0
  refine gS (gR (gBx hm rfl fun b0_1 w hm => gBx hm rfl fun b0_2 w hm => gA rfl (gE (gS (gJ hm (fun s0_1 => [(4, (.bool (s0_1)))]) (fun s0_1 => []) (fun s0_1 => ?_) ?_)))))
  ·
   refine gR (gF fo_31_0 rfl (gL hm 1 isAgg29 rfl (gF fo_31_0 rfl (gL hm 0 isAgg29 rfl (gC hm rfl call23 (spec_l5Ints_ok _ a_.said v1 (hm.now h1) b_.said v3 (hm.now h3)) fun r1_1 hx1_1 w hm => gM rfl (gs 10 rfl (fun h1_1 => ?_) fun h1_1 => ?_))))))
   ·
    refine gF fo_31_1 rfl (gL hm 1 isAgg3 rfl (gF fo_31_1 rfl (gL hm 0 isAgg3 rfl (gB rfl (gKt rfl (gM rfl (gsd 17 rfl (fun h1_2 => ?_) fun h1_2 => ?_)))))))
    ·
     refine gF fo_31_2 rfl (gL hm 1 isAgg3 rfl (gF fo_31_2 rfl (gL hm 0 isAgg3 rfl (gB rfl (gKt rfl (gM rfl (gsd 24 rfl (fun h1_3 => ?_) fun h1_3 => ?_)))))))
     ·
      exact gF fo_31_3 rfl (gL hm 1 isAgg29 rfl (gF fo_31_3 rfl (gL hm 0 isAgg29 rfl (gC hm rfl call23 (spec_l5Ints_ok _ a_.cells v2 (hm.now h2) b_.cells v4 (hm.now h4)) fun r1_2 hx1_2 w hm => gKt rfl (gA rfl (gE (gz hm [] rfl)))))))
     exact gO rfl (gO rfl (gO rfl (gO rfl (gO rfl (gKf rfl (gA rfl (gE (gz hm [] rfl))))))))
    exact gO rfl (gO rfl (gO rfl (gO rfl (gO rfl (gKf rfl (gM rfl (gO rfl (gO rfl (gO rfl (gO rfl (gO rfl (gKf rfl (gA rfl (gE (gz hm [] rfl)))))))))))))))
   exact gO rfl (gO rfl (gO rfl (gO rfl (gO rfl (gKf rfl (gM rfl (gO rfl (gO rfl (gO rfl (gO rfl (gO rfl (gKf rfl (gM rfl (gO rfl (gO rfl (gO rfl (gO rfl (gO rfl (gKf rfl (gA rfl (gE (gz hm [] rfl))))))))))))))))))))))
  repeat clear hm
  intro s0_1 w hm
  exact gRt (gr1 results10 rfl ⟨rfl, hm.below⟩)

theorem laws_FnNumbers_ok (w0 : World) (code : List UInt8) (v1 : Value) (h1 : GT.rep (hp w0) [v1] code) (hG0 : GT.rep (hp w0) [.slice (some ⟨0, 0, none⟩) 3 3] glob_impl_tries) :
    ConM Tryd.prog 3 [v1] w0 (laws_FnNumbers code) fun r v w' => v = (.bool (r)) ∧ Below w0.heap.size w0 w' := by
  unfold laws_FnNumbers
  refine gcon func3 rfl fun r => ?_
  have hm := Mem.start w0
  refine gS (gR (gA rfl (gE (gS (gS (gR (gM rfl ?_)))))))
  obtain ⟨p0_1, c0_1, rfl, hl0_1⟩ := ro_slice h1
  refine gY (yV st_22 rfl) (gB rfl (gE (gsd 14 rfl (fun h0_1 => ?_) fun h0_1 => ?_)))
  ·
   exact gct rfl (gS (gR (gA rfl (gE (gRt (gr1 results3 rfl ⟨rfl, hm.below⟩))))))
  refine gcf rfl (gSk (gS (gR (gM rfl (gCg rfl call4 (spec_DrawNumbersFor_ok _ code (.slice p0_1 code.length c0_1) (hm.now h1)) ?_)))))
  rintro r0_1 hx0_1 v0_1 w ⟨v0_2, rfl, hB⟩
  replace hm := hm.give hB; clear hB
  refine gAl hm zeroValue25 rfl fun b0_1 w hm => gSN hm 0 sizeOf25 (one_cons (rep_one (hm.ow_rep 1 rfl)) one_nil) rfl fun w hm => gE (gS (gR (gY (yn (hm.blk_at 0 rfl) isAgg25 sizeOf25 rfl) (gCg rfl call5 (impl_NumbersFor_ok _ r0_1 v0_2 (hm.ow_rep 1 rfl) (hm.now hG0)) ?_))))
  rintro r0_2 hx0_2 v0_3 w ⟨_, rfl, hB⟩
  replace hm := hm.give hB; clear hB
  refine gA rfl (gE (gS (gR (gY (yn (hm.blk_at 1 rfl) isAgg25 sizeOf25 rfl) (gCg rfl call6 (spec_NumbersFor_ok _ r0_1 v0_2 (hm.ow_rep 2 rfl)) ?_)))))
  rintro r0_3 hx0_3 v0_5 w ⟨_, rfl, hB⟩
  replace hm := hm.give hB; clear hB
  refine gA rfl (gE (gS (gS (gR (gM rfl ?_)))))
  obtain ⟨p0_2, c0_2, rfl, hl0_2⟩ := ro_slice (hm.ow_rep 1 rfl)
  refine gY (yV st_27 rfl) (gM rfl ?_)
  obtain ⟨p0_3, c0_3, rfl, hl0_3⟩ := ro_slice (hm.ow_rep 0 rfl)
  refine gY (yV st_27 rfl) (gB rfl (gE (gsd 25 rfl (fun h0_2 => ?_) fun h0_2 => ?_)))
  ·
   exact gct rfl (gS (gR (gA rfl (gE (gRt (gr1 results3 rfl ⟨rfl, hm.below⟩))))))
  refine gcf rfl (gSk (gS (gS (gR (gM rfl (gY (yV st_27 rfl) (gM rfl (gE ?_))))))))
  obtain ⟨p0_4, c0_4, rfl, hl0_4⟩ := ro_slice (hm.ow_rep 3 rfl)
  refine gBk (gNf hm (fun i1_1 xs1_1 => [(3, (pV b0_1)), (4, (.slice p0_2 r0_2.length c0_2)), (5, (.slice p0_3 r0_3.length c0_3)), (26, (.slice p0_2 r0_2.length c0_2)), (27, (nV ((r0_2.length : Int)))), (28, (nV i1_1))]) (fun i1_1 xs1_1 => [blk b0_1 [(.slice p0_4 r0_1.codes.length c0_4)] 25, ow [(.slice p0_4 r0_1.codes.length c0_4)] r0_1.codes, ow [(.slice p0_2 r0_2.length c0_2)] r0_2, ow [(.slice p0_3 r0_3.length c0_3)] r0_3]) [2, 3, 1, 0] rfl ?_ ?_)
  ·
   repeat clear hm
   intro r0_4 hq0_1 i1_1 xs1_1 w hm hi0_1 hi0_2 q0_1 ho0_4
   refine gS (gR (gB rfl (gE (gS (go _ 29 rfl (decide_eq_true (by omega)) (gct rfl (gSk (gS (gBk (gS (gR (gM rfl (gg fun x1_1 h1_1 hx1_2 => ?_)))))))))))))
   obtain ⟨b1_1, o1_1, c1_1, he⟩ := idx_form' (hm.ow_rep 2 rfl) hx1_2
   simp only [Value.slice.injEq, Option.some.injEq] at he; obtain ⟨rfl, _, rfl⟩ := he
   obtain ⟨_, _, hc1_1, hr1_1⟩ := ro_get' (hm.ow_rep 2 rfl) hx1_2
   have h1_2 := hr1_1
   obtain ⟨v1_1, rfl, -⟩ := id h1_2
   replace h1_2 : GT.rep (hp _) [v1_1] x1_1 := h1_2
   replace hc1_1 : CellsAt (hp _) b1_1 (o1_1 + (i1_1).toNat * 1) [v1_1] := hc1_1
   refine gI st_27 h1_1 (idx_lt hx1_2) rfl ?_
   obtain ⟨_, hc1_2, hm⟩ := hm.openE 2 rfl hx1_2
   have hr1_2 := hm.ow_rep 0 rfl
   have h1_3 := hr1_2
   obtain ⟨v1_2, rfl, -⟩ := id h1_3
   replace h1_3 : GT.rep (hp _) [v1_2] x1_1 := h1_3
   clear hc1_2 h1_3
   replace hm : Mem w0 (hp w0) _ [ow [v1_2] (x1_1 : List Int), blk b0_1 [(.slice p0_4 r0_1.codes.length c0_4)] 25, ow [(.slice p0_4 r0_1.codes.length c0_4)] r0_1.codes, holeE b1_1 o1_1 r0_2.length c0_2 (r0_2 : List (List Int)) (i1_1).toNat [v1_2], ow [(.slice p0_3 r0_3.length c0_3)] r0_3] := hm
   replace hm := hm.pk (L' := [ow [v1_2] x1_1, blk b0_1 [(.slice p0_4 r0_1.codes.length c0_4)] 25, ow [(.slice p0_4 r0_1.codes.length c0_4)] r0_1.codes, holeE b1_1 o1_1 r0_2.length c0_2 (r0_2 : List (List Int)) (i1_1).toNat [v1_2], ow [(.slice p0_3 r0_3.length c0_3)] r0_3]) [0, 1, 2, 3, 4] rfl rfl
   refine gY (yl isAgg29 ((hm.holeE_at 3 rfl).cell (j := 0) rfl) rfl) (gA rfl (gA rfl (gE (gS (gR (gY (yn (hm.blk_at 1 rfl) isAgg25 sizeOf25 rfl) (gM rfl (gCg rfl call7 (impl_RunUnit_ok _ r0_1 (.slice p0_4 r0_1.codes.length c0_4) (hm.ow_rep 2 rfl) x1_1 v1_2 (hm.ow_rep 0 rfl) 200) ?_))))))))
   rintro r1_1 hx1_3 v1_3 w ⟨v1_4, v1_5, rfl, hB⟩
   replace hm := hm.give hB; clear hB
   refine gM rfl (gX rfl (gX rfl (gAl hm zeroValue31 rfl fun b1_2 w hm => gSN hm 0 sizeOf31 (one_cons (rep_one (hm.ow_rep 1 rfl)) (one_cons rfl (one_cons rfl (one_cons (rep_one (hm.ow_rep 2 rfl)) one_nil)))) rfl fun w hm => gA rfl (gE (gS (gJg (fun s1_1 a w => ∃ (b1_3 : Nat) (v1_6 : Value) (v1_7 : Value), St 82 [(3, (pV b0_1)), (4, (sV b1_1 o1_1 r0_2.length c0_2)), (5, (.slice p0_3 r0_3.length c0_3)), (6, (nV i1_1)), (7, v1_2), (8, (pV b1_2)), (9, (.bool (r1_1.2))), (10, (pV b1_3)), (11, (.bool (s1_1.2.2.2.2))), (26, (sV b1_1 o1_1 r0_2.length c0_2)), (27, (nV ((r0_2.length : Int)))), (28, (nV i1_1))] w0 (hp w0) [blk b0_1 [(.slice p0_4 r0_1.codes.length c0_4)] 25, ow [(.slice p0_4 r0_1.codes.length c0_4)] r0_1.codes, holeE b1_1 o1_1 r0_2.length c0_2 (r0_2 : List (List Int)) (i1_1).toNat [v1_2], ow [v1_2] x1_1, ow [(.slice p0_3 r0_3.length c0_3)] r0_3, blk b1_2 [v1_4, (nV r1_1.1.end_), (nV r1_1.1.value), v1_5] 31, ow [v1_4] r1_1.1.said, ow [v1_5] r1_1.1.cells, blk b1_3 [v1_6, (nV s1_1.2.1), (nV s1_1.2.2.1), v1_7] 31, ow [v1_6] s1_1.1, ow [v1_7] s1_1.2.2.2.1] a w) (fun s1_1 => ?_) ?_))))))
   ·
    refine gW (.p 1 (.p 2 (.p 3 (.q 0 (.e 4 (.e 5 (.p 6 (.p 7 (.p 8 (.e 9 (.e 10 (.p 11 .fin) .nil) .nil)))) (.e 9 (.e 5 (.p 6 (.p 7 (.p 8 (.e 10 (.p 11 .fin) .nil)))) .nil) .nil)) (.e 9 (.e 4 (.e 5 (.p 6 (.p 7 (.p 8 (.e 10 (.p 11 .fin) .nil)))) .nil) .nil) .nil)))))) [4, 9] [1, 2, 3, 6, 7, 8, 11] hm [0, 1, 2, 3, 4, 5, 6] [blk b1_2 [v1_4, (nV r1_1.1.end_), (nV r1_1.1.value), v1_5] 31, ow [v1_4] r1_1.1.said, ow [v1_5] r1_1.1.cells, ow [v1_2] x1_1, blk b0_1 [(.slice p0_4 r0_1.codes.length c0_4)] 25, ow [(.slice p0_4 r0_1.codes.length c0_4)] r0_1.codes, holeE b1_1 o1_1 r0_2.length c0_2 (r0_2 : List (List Int)) (i1_1).toNat [v1_2]] rfl mxo (by kernel_rfl) (fun _ _ _ h => h.2) fun w hm hS => tP rfl (fun w => yM rfl) (tP rfl (fun w => yM rfl) (gg fun x2_1 h2_1 hx2_2 => ?_))
    obtain ⟨b2_1, o2_1, c2_1, he⟩ := idx_form' (hm.ow_rep 7 rfl) hx2_2
    simp only [Value.slice.injEq, Option.some.injEq] at he; obtain ⟨rfl, _, rfl⟩ := he
    obtain ⟨_, _, hc2_1, hr2_1⟩ := ro_get' (hm.ow_rep 7 rfl) hx2_2
    have h2_2 := hr2_1
    obtain ⟨v2_1, rfl, -⟩ := id h2_2
    replace h2_2 : GT.rep (hp _) [v2_1] x2_1 := h2_2
    replace hc2_1 : CellsAt (hp _) b2_1 (o2_1 + (i1_1).toNat * 1) [v2_1] := hc2_1
    refine tP rfl (fun w => yI st_27 h2_1 (idx_lt hx2_2) rfl) (tQ rfl hS (fun w hm => yn (hm.blk_at 4 rfl) isAgg25 sizeOf25 rfl) (gb fun pb2_1 hpb2_1 => tMo ?_ ?_))
    ·
     obtain ⟨_, hc2_2, hm⟩ := hm.openE 7 rfl hx2_2
     have hr2_2 := hm.ow_rep 0 rfl
     have h2_3 := hr2_2
     obtain ⟨v2_2, rfl, -⟩ := id h2_3
     replace h2_3 : GT.rep (hp _) [v2_2] x2_1 := h2_3
     clear hc2_2 h2_3
     replace hm : Mem w0 (hp w0) _ [ow [v2_2] (x2_1 : List Int), blk b1_2 [v1_4, (nV r1_1.1.end_), (nV r1_1.1.value), v1_5] 31, ow [v1_4] r1_1.1.said, ow [v1_5] r1_1.1.cells, ow [v1_2] x1_1, blk b0_1 [(.slice p0_4 r0_1.codes.length c0_4)] 25, ow [(.slice p0_4 r0_1.codes.length c0_4)] r0_1.codes, holeE b1_1 o1_1 r0_2.length c0_2 (r0_2 : List (List Int)) (i1_1).toNat [v1_2], holeE b2_1 o2_1 r0_3.length c0_3 (r0_3 : List (List Int)) (i1_1).toNat [v2_2]] := hm
     replace hm := hm.pk (L' := [ow [v2_2] x2_1, blk b1_2 [v1_4, (nV r1_1.1.end_), (nV r1_1.1.value), v1_5] 31, ow [v1_4] r1_1.1.said, ow [v1_5] r1_1.1.cells, ow [v1_2] x1_1, blk b0_1 [(.slice p0_4 r0_1.codes.length c0_4)] 25, ow [(.slice p0_4 r0_1.codes.length c0_4)] r0_1.codes, holeE b1_1 o1_1 r0_2.length c0_2 (r0_2 : List (List Int)) (i1_1).toNat [v1_2], holeE b2_1 o2_1 r0_3.length c0_3 (r0_3 : List (List Int)) (i1_1).toNat [v2_2]]) [0, 1, 2, 3, 4, 5, 6, 7, 8] rfl rfl
     refine tY rfl (yl isAgg29 ((hm.holeE_at 8 rfl).cell (j := 0) rfl) rfl) (tAk hm [1, 2, 3, 4, 5, 6, 7] rfl fun hS => tMo ?_ ?_)
     ·
      refine tf rfl rfl (fun a hf => e_call hf rfl call8 rfl (spec_RunUnit_ok _ r0_1 (.slice p0_4 r0_1.codes.length c0_4) (hm.ow_rep 6 rfl) x2_1 v2_2 (hm.ow_rep 0 rfl) 200 _ hpb2_1)) ?_
      rintro v2_3 w ⟨v2_4, v2_5, rfl, hB⟩
      replace hm := hm.give hB; clear hB
      refine tAn rfl (tP rfl (fun w => yM rfl) (tP rfl (fun w => yX rfl) (tP rfl (fun w => yX rfl) (tO (tf rfl rfl (fun a hf => e_alloc hm zeroValue31 rfl rfl) ?_)))))
      rintro _ w ⟨b2_2, rfl, hm⟩
      refine tAk hm [4, 5, 6, 7, 8, 9, 10] rfl fun hS => tO (tf0 rfl rfl (fun a hf => e_storeN 0 hf hm rfl sizeOf31 rfl rfl rfl (one_cons (rep_one (hm.ow_rep 1 rfl)) (one_cons rfl (one_cons rfl (one_cons (rep_one (hm.ow_rep 2 rfl)) one_nil)))) rfl rfl) ?_)
      rintro _ w hm
      refine tAn rfl (tP rfl (fun w => yA rfl) (tE ?_))
      replace hm := hm.imp (c' := ow [v2_2] (x2_1 : List Int)) 3 rfl (fun F h0 => h0)
      replace hm := (hm.shutE (y := (x2_1 : List Int)) 11 3 (by decide) rfl rfl).pk (L' := [blk b2_2 [v2_4, (nV pb2_1.1.end_), (nV pb2_1.1.value), v2_5] 31, ow [v2_4] pb2_1.1.said, ow [v2_5] pb2_1.1.cells, blk b1_2 [v1_4, (nV r1_1.1.end_), (nV r1_1.1.value), v1_5] 31, ow [v1_4] r1_1.1.said, ow [v1_5] r1_1.1.cells, ow [v1_2] x1_1, blk b0_1 [(.slice p0_4 r0_1.codes.length c0_4)] 25, ow [(.slice p0_4 r0_1.codes.length c0_4)] r0_1.codes, holeE b1_1 o1_1 r0_2.length c0_2 (r0_2 : List (List Int)) (i1_1).toNat [v1_2], ow [(sV b2_1 o2_1 r0_3.length c0_3)] (r0_3.set (i1_1).toNat x2_1)]) [0, 1, 2, 4, 5, 6, 7, 8, 9, 10, 11] rfl rfl
      rw [set_same hx2_2] at hm
      exact gZ fun a hf => ⟨b2_2, v2_4, v2_5, hf.sb rfl, hm.pk [7, 8, 9, 6, 10, 3, 4, 5, 0, 1, 2] rfl rfl⟩
     refine tO (tf rfl rfl (fun a hf => e_alloc hm zeroValue31 rfl rfl) ?_)
     rintro _ w ⟨b2_3, rfl, hm⟩
     refine tAk hm [2, 3, 4, 5, 6, 7, 8] rfl fun hS => tO (tf rfl rfl (fun a hf => e_call hf rfl call8 rfl (spec_RunUnit_ok _ r0_1 (.slice p0_4 r0_1.codes.length c0_4) (hm.ow_rep 7 rfl) x2_1 v2_2 (hm.ow_rep 1 rfl) 200 _ hpb2_1)) ?_)
     rintro v2_6 w ⟨v2_7, v2_8, rfl, hB⟩
     replace hm := hm.give hB; clear hB
     refine tAn rfl (tP rfl (fun w => yM rfl) (tP rfl (fun w => yX rfl) (tP rfl (fun w => yX rfl) (tO (tf0 rfl rfl (fun a hf => e_storeN 2 hf hm rfl sizeOf31 rfl rfl rfl (one_cons (rep_one (hm.ow_rep 0 rfl)) (one_cons rfl (one_cons rfl (one_cons (rep_one (hm.ow_rep 1 rfl)) one_nil)))) rfl rfl) ?_)))))
     rintro _ w hm
     refine tAn rfl (tP rfl (fun w => yA rfl) (tE ?_))
     replace hm := hm.imp (c' := ow [v2_2] (x2_1 : List Int)) 3 rfl (fun F h0 => h0)
     replace hm := (hm.shutE (y := (x2_1 : List Int)) 11 3 (by decide) rfl rfl).pk (L' := [ow [v2_7] pb2_1.1.said, ow [v2_8] pb2_1.1.cells, blk b2_3 [v2_7, (nV pb2_1.1.end_), (nV pb2_1.1.value), v2_8] 31, blk b1_2 [v1_4, (nV r1_1.1.end_), (nV r1_1.1.value), v1_5] 31, ow [v1_4] r1_1.1.said, ow [v1_5] r1_1.1.cells, ow [v1_2] x1_1, blk b0_1 [(.slice p0_4 r0_1.codes.length c0_4)] 25, ow [(.slice p0_4 r0_1.codes.length c0_4)] r0_1.codes, holeE b1_1 o1_1 r0_2.length c0_2 (r0_2 : List (List Int)) (i1_1).toNat [v1_2], ow [(sV b2_1 o2_1 r0_3.length c0_3)] (r0_3.set (i1_1).toNat x2_1)]) [0, 1, 2, 4, 5, 6, 7, 8, 9, 10, 11] rfl rfl
     rw [set_same hx2_2] at hm
     exact gZ fun a hf => ⟨b2_3, v2_7, v2_8, hf.sb rfl, hm.pk [7, 8, 9, 6, 10, 3, 4, 5, 2, 0, 1] rfl rfl⟩
    refine tO (tf rfl rfl (fun a hf => e_alloc hm zeroValue31 rfl rfl) ?_)
    rintro _ w ⟨b2_4, rfl, hm⟩
    refine tAk hm [1, 2, 3, 4, 5, 6, 7] rfl fun hS => tO ?_
    obtain ⟨_, hc2_3, hm⟩ := hm.openE 8 rfl hx2_2
    have hr2_3 := hm.ow_rep 0 rfl
    have h2_4 := hr2_3
    obtain ⟨v2_9, rfl, -⟩ := id h2_4
    replace h2_4 : GT.rep (hp _) [v2_9] x2_1 := h2_4
    clear hc2_3 h2_4
    replace hm : Mem w0 (hp w0) _ [ow [v2_9] (x2_1 : List Int), blk b2_4 [(.slice none 0 0), (nV 0), (nV 0), (.slice none 0 0)] 31, blk b1_2 [v1_4, (nV r1_1.1.end_), (nV r1_1.1.value), v1_5] 31, ow [v1_4] r1_1.1.said, ow [v1_5] r1_1.1.cells, ow [v1_2] x1_1, blk b0_1 [(.slice p0_4 r0_1.codes.length c0_4)] 25, ow [(.slice p0_4 r0_1.codes.length c0_4)] r0_1.codes, holeE b1_1 o1_1 r0_2.length c0_2 (r0_2 : List (List Int)) (i1_1).toNat [v1_2], holeE b2_1 o2_1 r0_3.length c0_3 (r0_3 : List (List Int)) (i1_1).toNat [v2_9]] := hm
    replace hm := hm.pk (L' := [ow [v2_9] x2_1, blk b2_4 [(.slice none 0 0), (nV 0), (nV 0), (.slice none 0 0)] 31, blk b1_2 [v1_4, (nV r1_1.1.end_), (nV r1_1.1.value), v1_5] 31, ow [v1_4] r1_1.1.said, ow [v1_5] r1_1.1.cells, ow [v1_2] x1_1, blk b0_1 [(.slice p0_4 r0_1.codes.length c0_4)] 25, ow [(.slice p0_4 r0_1.codes.length c0_4)] r0_1.codes, holeE b1_1 o1_1 r0_2.length c0_2 (r0_2 : List (List Int)) (i1_1).toNat [v1_2], holeE b2_1 o2_1 r0_3.length c0_3 (r0_3 : List (List Int)) (i1_1).toNat [v2_9]]) [0, 1, 2, 3, 4, 5, 6, 7, 8, 9] rfl rfl
    refine tY rfl (yl isAgg29 ((hm.holeE_at 9 rfl).cell (j := 0) rfl) rfl) (tAk hm [2, 3, 4, 5, 6, 7, 8] rfl fun hS => tO (tf rfl rfl (fun a hf => e_call hf rfl call8 rfl (spec_RunUnit_ok _ r0_1 (.slice p0_4 r0_1.codes.length c0_4) (hm.ow_rep 7 rfl) x2_1 v2_9 (hm.ow_rep 0 rfl) 200 _ hpb2_1)) ?_))
    rintro v2_10 w ⟨v2_11, v2_12, rfl, hB⟩
    replace hm := hm.give hB; clear hB
    refine tAn rfl (tP rfl (fun w => yM rfl) (tP rfl (fun w => yX rfl) (tP rfl (fun w => yX rfl) (tO (tf0 rfl rfl (fun a hf => e_storeN 3 hf hm rfl sizeOf31 rfl rfl rfl (one_cons (rep_one (hm.ow_rep 0 rfl)) (one_cons rfl (one_cons rfl (one_cons (rep_one (hm.ow_rep 1 rfl)) one_nil)))) rfl rfl) ?_)))))
    rintro _ w hm
    refine tAn rfl (tP rfl (fun w => yA rfl) (tE ?_))
    replace hm := hm.imp (c' := ow [v2_9] (x2_1 : List Int)) 2 rfl (fun F h0 => h0)
    replace hm := (hm.shutE (y := (x2_1 : List Int)) 11 2 (by decide) rfl rfl).pk (L' := [ow [v2_11] pb2_1.1.said, ow [v2_12] pb2_1.1.cells, blk b2_4 [v2_11, (nV pb2_1.1.end_), (nV pb2_1.1.value), v2_12] 31, blk b1_2 [v1_4, (nV r1_1.1.end_), (nV r1_1.1.value), v1_5] 31, ow [v1_4] r1_1.1.said, ow [v1_5] r1_1.1.cells, ow [v1_2] x1_1, blk b0_1 [(.slice p0_4 r0_1.codes.length c0_4)] 25, ow [(.slice p0_4 r0_1.codes.length c0_4)] r0_1.codes, holeE b1_1 o1_1 r0_2.length c0_2 (r0_2 : List (List Int)) (i1_1).toNat [v1_2], ow [(sV b2_1 o2_1 r0_3.length c0_3)] (r0_3.set (i1_1).toNat x2_1)]) [0, 1, 3, 4, 5, 6, 7, 8, 9, 10, 11] rfl rfl
    rw [set_same hx2_2] at hm
    exact gZ fun a hf => ⟨b2_4, v2_11, v2_12, hf.sb rfl, hm.pk [7, 8, 9, 6, 10, 3, 4, 5, 2, 0, 1] rfl rfl⟩
   repeat clear hm
   rintro s1_1 a w ⟨b1_3, v1_6, v1_7, hf, hm⟩
   refine gv hf (gS (gJ hm (fun s1_2 => [(3, (pV b0_1)), (4, (sV b1_1 o1_1 r0_2.length c0_2)), (5, (.slice p0_3 r0_3.length c0_3)), (26, (sV b1_1 o1_1 r0_2.length c0_2)), (27, (nV ((r0_2.length : Int)))), (28, (nV i1_1)), (74, (.bool (s1_2)))]) (fun s1_2 => [blk b0_1 [(.slice p0_4 r0_1.codes.length c0_4)] 25, ow [(.slice p0_4 r0_1.codes.length c0_4)] r0_1.codes, ow [(sV b1_1 o1_1 r0_2.length c0_2)] r0_2, ow [(.slice p0_3 r0_3.length c0_3)] r0_3]) (fun s1_2 => ?_) ?_))
   ·
    refine gR (gM rfl (gM rfl (gM rfl (gg fun x2_2 h2_5 hx2_4 => ?_))))
    obtain ⟨b2_5, o2_2, c2_2, he⟩ := idx_form' (hm.ow_rep 4 rfl) hx2_4
    simp only [Value.slice.injEq, Option.some.injEq] at he; obtain ⟨rfl, _, rfl⟩ := he
    obtain ⟨_, _, hc2_4, hr2_4⟩ := ro_get' (hm.ow_rep 4 rfl) hx2_4
    have h2_6 := hr2_4
    obtain ⟨v2_13, rfl, -⟩ := id h2_6
    replace h2_6 : GT.rep (hp _) [v2_13] x2_2 := h2_6
    replace hc2_4 : CellsAt (hp _) b2_5 (o2_2 + (i1_1).toNat * 1) [v2_13] := hc2_4
    refine gI st_27 h2_5 (idx_lt hx2_4) rfl ?_
    obtain ⟨_, hc2_5, hm⟩ := hm.openE 4 rfl hx2_4
    have hr2_5 := hm.ow_rep 0 rfl
    have h2_7 := hr2_5
    obtain ⟨v2_14, rfl, -⟩ := id h2_7
    replace h2_7 : GT.rep (hp _) [v2_14] x2_2 := h2_7
    clear hc2_5 h2_7
    replace hm : Mem w0 (hp w0) _ [ow [v2_14] (x2_2 : List Int), blk b0_1 [(.slice p0_4 r0_1.codes.length c0_4)] 25, ow [(.slice p0_4 r0_1.codes.length c0_4)] r0_1.codes, holeE b1_1 o1_1 r0_2.length c0_2 (r0_2 : List (List Int)) (i1_1).toNat [v1_2], ow [v1_2] x1_1, holeE b2_5 o2_2 r0_3.length c0_3 (r0_3 : List (List Int)) (i1_1).toNat [v2_14], blk b1_2 [v1_4, (nV r1_1.1.end_), (nV r1_1.1.value), v1_5] 31, ow [v1_4] r1_1.1.said, ow [v1_5] r1_1.1.cells, blk b1_3 [v1_6, (nV s1_1.2.1), (nV s1_1.2.2.1), v1_7] 31, ow [v1_6] s1_1.1, ow [v1_7] s1_1.2.2.2.1] := hm
    replace hm := hm.pk (L' := [ow [v2_14] x2_2, blk b0_1 [(.slice p0_4 r0_1.codes.length c0_4)] 25, ow [(.slice p0_4 r0_1.codes.length c0_4)] r0_1.codes, holeE b1_1 o1_1 r0_2.length c0_2 (r0_2 : List (List Int)) (i1_1).toNat [v1_2], ow [v1_2] x1_1, holeE b2_5 o2_2 r0_3.length c0_3 (r0_3 : List (List Int)) (i1_1).toNat [v2_14], blk b1_2 [v1_4, (nV r1_1.1.end_), (nV r1_1.1.value), v1_5] 31, ow [v1_4] r1_1.1.said, ow [v1_5] r1_1.1.cells, blk b1_3 [v1_6, (nV s1_1.2.1), (nV s1_1.2.2.1), v1_7] 31, ow [v1_6] s1_1.1, ow [v1_7] s1_1.2.2.2.1]) [0, 1, 2, 3, 4, 5, 6, 7, 8, 9, 10, 11] rfl rfl
    refine gY (yl isAgg29 ((hm.holeE_at 5 rfl).cell (j := 0) rfl) rfl) (gC hm rfl call9 (laws_wwInts_ok _ x1_1 v1_2 (hm.ow_rep 4 rfl) x2_2 v2_14 (hm.ow_rep 0 rfl)) fun r2_1 hx2_5 w hm => gN rfl (gM rfl (gsn 55 rfl (fun h2_8 => ?_) fun h2_8 => ?_)))
    ·
     refine gO rfl (gO rfl (gKt rfl (gM rfl (gO rfl (gO rfl (gKt rfl (gM rfl (gO rfl (gO rfl (gO rfl (gO rfl (gKt rfl (gM rfl (gO rfl (gO rfl (gO rfl (gO rfl (gKt rfl (gE ?_)))))))))))))))))))
     replace hm := hm.imp (c' := ow [v1_2] (x1_1 : List Int)) 4 rfl (fun F h0 => h0)
     replace hm := (hm.shutE (y := (x1_1 : List Int)) 3 4 (by decide) rfl rfl).pk (L' := [ow [v2_14] x2_2, blk b0_1 [(.slice p0_4 r0_1.codes.length c0_4)] 25, ow [(.slice p0_4 r0_1.codes.length c0_4)] r0_1.codes, ow [(sV b1_1 o1_1 r0_2.length c0_2)] (r0_2.set (i1_1).toNat x1_1), holeE b2_5 o2_2 r0_3.length c0_3 (r0_3 : List (List Int)) (i1_1).toNat [v2_14], blk b1_2 [v1_4, (nV r1_1.1.end_), (nV r1_1.1.value), v1_5] 31, ow [v1_4] r1_1.1.said, ow [v1_5] r1_1.1.cells, blk b1_3 [v1_6, (nV s1_1.2.1), (nV s1_1.2.2.1), v1_7] 31, ow [v1_6] s1_1.1, ow [v1_7] s1_1.2.2.2.1]) [0, 1, 2, 3, 5, 6, 7, 8, 9, 10, 11] rfl rfl
     rw [set_same hx1_2] at hm
     replace hm := hm.imp (c' := ow [v2_14] (x2_2 : List Int)) 0 rfl (fun F h0 => h0)
     replace hm := (hm.shutE (y := (x2_2 : List Int)) 4 0 (by decide) rfl rfl).pk (L' := [blk b0_1 [(.slice p0_4 r0_1.codes.length c0_4)] 25, ow [(.slice p0_4 r0_1.codes.length c0_4)] r0_1.codes, ow [(sV b1_1 o1_1 r0_2.length c0_2)] r0_2, ow [(sV b2_5 o2_2 r0_3.length c0_3)] (r0_3.set (i1_1).toNat x2_2), blk b1_2 [v1_4, (nV r1_1.1.end_), (nV r1_1.1.value), v1_5] 31, ow [v1_4] r1_1.1.said, ow [v1_5] r1_1.1.cells, blk b1_3 [v1_6, (nV s1_1.2.1), (nV s1_1.2.2.1), v1_7] 31, ow [v1_6] s1_1.1, ow [v1_7] s1_1.2.2.2.1]) [1, 2, 3, 4, 5, 6, 7, 8, 9, 10] rfl rfl
     rw [set_same hx2_4] at hm
     exact gz hm [0, 1, 2, 3] rfl
    refine gM rfl (gN rfl (gKf rfl (gM rfl (gsn 59 rfl (fun h2_9 => ?_) fun h2_9 => ?_))))
    ·
     refine gO rfl (gO rfl (gKt rfl (gM rfl (gO rfl (gO rfl (gO rfl (gO rfl (gKt rfl (gM rfl (gO rfl (gO rfl (gO rfl (gO rfl (gKt rfl (gE ?_)))))))))))))))
     replace hm := hm.imp (c' := ow [v1_2] (x1_1 : List Int)) 4 rfl (fun F h0 => h0)
     replace hm := (hm.shutE (y := (x1_1 : List Int)) 3 4 (by decide) rfl rfl).pk (L' := [ow [v2_14] x2_2, blk b0_1 [(.slice p0_4 r0_1.codes.length c0_4)] 25, ow [(.slice p0_4 r0_1.codes.length c0_4)] r0_1.codes, ow [(sV b1_1 o1_1 r0_2.length c0_2)] (r0_2.set (i1_1).toNat x1_1), holeE b2_5 o2_2 r0_3.length c0_3 (r0_3 : List (List Int)) (i1_1).toNat [v2_14], blk b1_2 [v1_4, (nV r1_1.1.end_), (nV r1_1.1.value), v1_5] 31, ow [v1_4] r1_1.1.said, ow [v1_5] r1_1.1.cells, blk b1_3 [v1_6, (nV s1_1.2.1), (nV s1_1.2.2.1), v1_7] 31, ow [v1_6] s1_1.1, ow [v1_7] s1_1.2.2.2.1]) [0, 1, 2, 3, 5, 6, 7, 8, 9, 10, 11] rfl rfl
     rw [set_same hx1_2] at hm
     replace hm := hm.imp (c' := ow [v2_14] (x2_2 : List Int)) 0 rfl (fun F h0 => h0)
     replace hm := (hm.shutE (y := (x2_2 : List Int)) 4 0 (by decide) rfl rfl).pk (L' := [blk b0_1 [(.slice p0_4 r0_1.codes.length c0_4)] 25, ow [(.slice p0_4 r0_1.codes.length c0_4)] r0_1.codes, ow [(sV b1_1 o1_1 r0_2.length c0_2)] r0_2, ow [(sV b2_5 o2_2 r0_3.length c0_3)] (r0_3.set (i1_1).toNat x2_2), blk b1_2 [v1_4, (nV r1_1.1.end_), (nV r1_1.1.value), v1_5] 31, ow [v1_4] r1_1.1.said, ow [v1_5] r1_1.1.cells, blk b1_3 [v1_6, (nV s1_1.2.1), (nV s1_1.2.2.1), v1_7] 31, ow [v1_6] s1_1.1, ow [v1_7] s1_1.2.2.2.1]) [1, 2, 3, 4, 5, 6, 7, 8, 9, 10] rfl rfl
     rw [set_same hx2_4] at hm
     exact gz hm [0, 1, 2, 3] rfl
    refine gM rfl (gN rfl (gKf rfl (gM rfl (gsn 63 rfl (fun h2_10 => ?_) fun h2_10 => ?_))))
    ·
     refine gO rfl (gO rfl (gO rfl (gO rfl (gKt rfl (gM rfl (gO rfl (gO rfl (gO rfl (gO rfl (gKt rfl (gE ?_)))))))))))
     replace hm := hm.imp (c' := ow [v1_2] (x1_1 : List Int)) 4 rfl (fun F h0 => h0)
     replace hm := (hm.shutE (y := (x1_1 : List Int)) 3 4 (by decide) rfl rfl).pk (L' := [ow [v2_14] x2_2, blk b0_1 [(.slice p0_4 r0_1.codes.length c0_4)] 25, ow [(.slice p0_4 r0_1.codes.length c0_4)] r0_1.codes, ow [(sV b1_1 o1_1 r0_2.length c0_2)] (r0_2.set (i1_1).toNat x1_1), holeE b2_5 o2_2 r0_3.length c0_3 (r0_3 : List (List Int)) (i1_1).toNat [v2_14], blk b1_2 [v1_4, (nV r1_1.1.end_), (nV r1_1.1.value), v1_5] 31, ow [v1_4] r1_1.1.said, ow [v1_5] r1_1.1.cells, blk b1_3 [v1_6, (nV s1_1.2.1), (nV s1_1.2.2.1), v1_7] 31, ow [v1_6] s1_1.1, ow [v1_7] s1_1.2.2.2.1]) [0, 1, 2, 3, 5, 6, 7, 8, 9, 10, 11] rfl rfl
     rw [set_same hx1_2] at hm
     replace hm := hm.imp (c' := ow [v2_14] (x2_2 : List Int)) 0 rfl (fun F h0 => h0)
     replace hm := (hm.shutE (y := (x2_2 : List Int)) 4 0 (by decide) rfl rfl).pk (L' := [blk b0_1 [(.slice p0_4 r0_1.codes.length c0_4)] 25, ow [(.slice p0_4 r0_1.codes.length c0_4)] r0_1.codes, ow [(sV b1_1 o1_1 r0_2.length c0_2)] r0_2, ow [(sV b2_5 o2_2 r0_3.length c0_3)] (r0_3.set (i1_1).toNat x2_2), blk b1_2 [v1_4, (nV r1_1.1.end_), (nV r1_1.1.value), v1_5] 31, ow [v1_4] r1_1.1.said, ow [v1_5] r1_1.1.cells, blk b1_3 [v1_6, (nV s1_1.2.1), (nV s1_1.2.2.1), v1_7] 31, ow [v1_6] s1_1.1, ow [v1_7] s1_1.2.2.2.1]) [1, 2, 3, 4, 5, 6, 7, 8, 9, 10] rfl rfl
     rw [set_same hx2_4] at hm
     exact gz hm [0, 1, 2, 3] rfl
    refine gY (yn (hm.blk_at 6 rfl) isAgg31 sizeOf31 rfl) (gY (yn (hm.blk_at 9 rfl) isAgg31 sizeOf31 rfl) (gC hm rfl call10 (spec_SameOutcome_ok _ r1_1.1 v1_4 (hm.ow_rep 7 rfl) v1_5 (hm.ow_rep 8 rfl) (⟨s1_1.1, s1_1.2.1, s1_1.2.2.1, s1_1.2.2.2.1⟩ : Outcome_) v1_6 (hm.ow_rep 10 rfl) v1_7 (hm.ow_rep 11 rfl)) fun r2_2 hx2_6 w hm => gN rfl (gKf rfl (gM rfl (gsn 69 rfl (fun h2_11 => ?_) fun h2_11 => ?_)))))
    ·
     refine gO rfl (gO rfl (gO rfl (gO rfl (gKt rfl (gE ?_)))))
     replace hm := hm.imp (c' := ow [v1_2] (x1_1 : List Int)) 4 rfl (fun F h0 => h0)
     replace hm := (hm.shutE (y := (x1_1 : List Int)) 3 4 (by decide) rfl rfl).pk (L' := [ow [v2_14] x2_2, blk b0_1 [(.slice p0_4 r0_1.codes.length c0_4)] 25, ow [(.slice p0_4 r0_1.codes.length c0_4)] r0_1.codes, ow [(sV b1_1 o1_1 r0_2.length c0_2)] (r0_2.set (i1_1).toNat x1_1), holeE b2_5 o2_2 r0_3.length c0_3 (r0_3 : List (List Int)) (i1_1).toNat [v2_14], blk b1_2 [v1_4, (nV r1_1.1.end_), (nV r1_1.1.value), v1_5] 31, ow [v1_4] r1_1.1.said, ow [v1_5] r1_1.1.cells, blk b1_3 [v1_6, (nV s1_1.2.1), (nV s1_1.2.2.1), v1_7] 31, ow [v1_6] s1_1.1, ow [v1_7] s1_1.2.2.2.1]) [0, 1, 2, 3, 5, 6, 7, 8, 9, 10, 11] rfl rfl
     rw [set_same hx1_2] at hm
     replace hm := hm.imp (c' := ow [v2_14] (x2_2 : List Int)) 0 rfl (fun F h0 => h0)
     replace hm := (hm.shutE (y := (x2_2 : List Int)) 4 0 (by decide) rfl rfl).pk (L' := [blk b0_1 [(.slice p0_4 r0_1.codes.length c0_4)] 25, ow [(.slice p0_4 r0_1.codes.length c0_4)] r0_1.codes, ow [(sV b1_1 o1_1 r0_2.length c0_2)] r0_2, ow [(sV b2_5 o2_2 r0_3.length c0_3)] (r0_3.set (i1_1).toNat x2_2), blk b1_2 [v1_4, (nV r1_1.1.end_), (nV r1_1.1.value), v1_5] 31, ow [v1_4] r1_1.1.said, ow [v1_5] r1_1.1.cells, blk b1_3 [v1_6, (nV s1_1.2.1), (nV s1_1.2.2.1), v1_7] 31, ow [v1_6] s1_1.1, ow [v1_7] s1_1.2.2.2.1]) [1, 2, 3, 4, 5, 6, 7, 8, 9, 10] rfl rfl
     rw [set_same hx2_4] at hm
     exact gz hm [0, 1, 2, 3] rfl
    refine gF fo_31_3 rfl (gL hm 6 isAgg29 rfl ?_)
    obtain ⟨p2_1, c2_3, rfl, hl2_1⟩ := ro_slice (hm.ow_rep 8 rfl)
    refine gY (yV st_29 rfl) (gB rfl (gKf rfl (gE ?_)))
    replace hm := hm.imp (c' := ow [v1_2] (x1_1 : List Int)) 4 rfl (fun F h0 => h0)
    replace hm := (hm.shutE (y := (x1_1 : List Int)) 3 4 (by decide) rfl rfl).pk (L' := [ow [v2_14] x2_2, blk b0_1 [(.slice p0_4 r0_1.codes.length c0_4)] 25, ow [(.slice p0_4 r0_1.codes.length c0_4)] r0_1.codes, ow [(sV b1_1 o1_1 r0_2.length c0_2)] (r0_2.set (i1_1).toNat x1_1), holeE b2_5 o2_2 r0_3.length c0_3 (r0_3 : List (List Int)) (i1_1).toNat [v2_14], blk b1_2 [v1_4, (nV r1_1.1.end_), (nV r1_1.1.value), (.slice p2_1 r1_1.1.cells.length c2_3)] 31, ow [v1_4] r1_1.1.said, ow [(.slice p2_1 r1_1.1.cells.length c2_3)] r1_1.1.cells, blk b1_3 [v1_6, (nV s1_1.2.1), (nV s1_1.2.2.1), v1_7] 31, ow [v1_6] s1_1.1, ow [v1_7] s1_1.2.2.2.1]) [0, 1, 2, 3, 5, 6, 7, 8, 9, 10, 11] rfl rfl
    rw [set_same hx1_2] at hm
    replace hm := hm.imp (c' := ow [v2_14] (x2_2 : List Int)) 0 rfl (fun F h0 => h0)
    replace hm := (hm.shutE (y := (x2_2 : List Int)) 4 0 (by decide) rfl rfl).pk (L' := [blk b0_1 [(.slice p0_4 r0_1.codes.length c0_4)] 25, ow [(.slice p0_4 r0_1.codes.length c0_4)] r0_1.codes, ow [(sV b1_1 o1_1 r0_2.length c0_2)] r0_2, ow [(sV b2_5 o2_2 r0_3.length c0_3)] (r0_3.set (i1_1).toNat x2_2), blk b1_2 [v1_4, (nV r1_1.1.end_), (nV r1_1.1.value), (.slice p2_1 r1_1.1.cells.length c2_3)] 31, ow [v1_4] r1_1.1.said, ow [(.slice p2_1 r1_1.1.cells.length c2_3)] r1_1.1.cells, blk b1_3 [v1_6, (nV s1_1.2.1), (nV s1_1.2.2.1), v1_7] 31, ow [v1_6] s1_1.1, ow [v1_7] s1_1.2.2.2.1]) [1, 2, 3, 4, 5, 6, 7, 8, 9, 10] rfl rfl
    rw [set_same hx2_4] at hm
    exact gz hm [0, 1, 2, 3] rfl
   repeat clear hm
   intro s1_2 w hm
   refine gs 74 rfl (fun h1_4 => ?_) fun h1_4 => ?_
   ·
    exact gct rfl (gS (gR (gA rfl (gE (gRt (gLr ho0_4 hq0_1 (gr1 results3 rfl ⟨rfl, hm.below⟩)))))))
   exact gcf rfl (gSk (gR (gP (by omega) (by omega) rfl (gM rfl (gE (gze hm [0, 1, 2, 3] rfl))))))
  repeat clear hm
  intro i0_1 xs0_1 w hm hi0_3 hi0_4
  exact gS (gR (gB rfl (gE (gS (go _ 29 rfl (decide_eq_false (by omega)) (gcf rfl (gXt (gHh (gS (gR (gM rfl (gY (yV st_27 rfl) (gB rfl (gY (yn (hm.blk_at 0 rfl) isAgg25 sizeOf25 rfl) (gC hm rfl call11 (impl_UnitValid_ok _ r0_1 (.slice p0_4 r0_1.codes.length c0_4) (hm.ow_rep 1 rfl)) fun r0_5 hx0_4 w hm => gY (yG rfl (y_eqlb underlying4 rfl rfl rfl)) (gA rfl (gE (gRt (gr1 results3 rfl ⟨rfl, hm.below⟩)))))))))))))))))))

end Go.Proofs.YtjbcoilagfdidaaDoor
