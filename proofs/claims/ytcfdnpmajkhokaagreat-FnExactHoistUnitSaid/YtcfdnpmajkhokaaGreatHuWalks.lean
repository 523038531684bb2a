/- A part of the proof of FnExactHoistUnitSaid. -/
import Derived.Test.YtcfdnpmajkhokaaGreatHuWalksB
namespace Go.Proofs.YtcfdnpmajkhokaaGreat
open Go Go.Wk Go.RowKit
set_option maxRecDepth 4000
set_option maxHeartbeats 4000000
open Tryz
theorem pimpl_doms__idom_ok (w0 : World) (d : doms) (bp0 : Nat) (v1p : Value) (h1p : GT.rep (hp w0) [v1p] d.c.blocks) (v2p : Value) (h2p : GT.rep (hp w0) [v2p] d.over) (v3p : Value) (h3p : GT.rep (hp w0) [v3p] d.in_) (hbbp0 : (hp w0) bp0 = some (.cells ([nV d.c.params, nV d.c.regs, v1p, v2p, v3p] : List Value).toArray 166 (0, 0))) (b_ : Int) :
    ConM Tryz.prog 183 [(pV bp0), nV b_] w0 (pimpl_doms__idom d b_) fun r v w' => v = (nV r) ∧ Below w0.heap.size w0 w' := by
  unfold pimpl_doms__idom
  refine gcon func183 rfl fun r => ?_
  have hm := Mem.start w0
  exact gS (gR (gBx hm rfl fun aA w hm => gBx hm rfl fun aB w hm => gA rfl (gE (gS (gR (gL hm 1 isAgg129 rfl (gY (yU rfl) (gC hm rfl call243 (pimpl_doms__nearest_ok _ d bp0 v1p (hm.now h1p) v2p (hm.now h2p) v3p (hm.now h3p) (hm.lez _ _ ((Heap.le_refl _) _ _ hbbp0)) (fun y0 => pimpl_doms__idom_1 y0 b_ d) (.func (.func 244) #[] #[(pV aB), (pV aA)]) (fun w y0 r hB hq => ⟨244, [(pV aB), (pV aA)], rfl, call244, pimpl_doms__idom_1_ok w y0 b_ aB (hm.blk_later 0 rfl hB) d aA bp0 v1p (rep_later (hm.now h1p) hB) v2p (rep_later (hm.now h2p) hB) v3p (rep_later (hm.now h3p) hB) (hm.old_later hbbp0 hB) (hm.blk_later 1 rfl hB) r hq⟩)) fun aC aD w hm => gA rfl (gE (gRt (gr1 results183 rfl ⟨rfl, hm.below⟩)))))))))))
theorem pimpl_doms__order_1_all (c1_ : MapS (List Int)) : ∀ (b_ : Int) (c0_ : List Int) (r : (List Int)), pimpl_doms__order_1 b_ c0_ c1_ = some r → ∀ (w0 : World) (hz : Heap) (bpc0 : Nat) (v1p : Value) (bpc1 : Nat) (v2p : Value) (h2p : GT.rep hz [v2p] c1_) (hbbpc1 : hz bpc1 = some (.cells ([v2p] : List Value).toArray 200 (0, 0))) (bpc2 : Nat) (hbbpc2 : hz bpc2 = some (.cells ([(.func (.func 219) #[] #[(pV bpc0), (pV bpc1), (pV bpc2)])] : List Value).toArray 199 (0, 0))) (hm0 : Mem w0 hz w0 [blk bpc0 [v1p] 57, ow [v1p] c0_]), Con Tryz.prog 219 [nV b_, (pV bpc0), (pV bpc1), (pV bpc2)] w0 (fun v w' => ∃ (x1 : Value), v = (.tuple #[]) ∧ Mem w0 hz w' [blk bpc0 [x1] 57, ow [x1] r]) := by
  refine pimpl_doms__order_1.partial_correctness c1_ (motive := fun b_ c0_ r => ∀ (w0 : World) (hz : Heap) (bpc0 : Nat) (v1p : Value) (bpc1 : Nat) (v2p : Value) (h2p : GT.rep hz [v2p] c1_) (hbbpc1 : hz bpc1 = some (.cells ([v2p] : List Value).toArray 200 (0, 0))) (bpc2 : Nat) (hbbpc2 : hz bpc2 = some (.cells ([(.func (.func 219) #[] #[(pV bpc0), (pV bpc1), (pV bpc2)])] : List Value).toArray 199 (0, 0))) (hm0 : Mem w0 hz w0 [blk bpc0 [v1p] 57, ow [v1p] c0_]), Con Tryz.prog 219 [nV b_, (pV bpc0), (pV bpc1), (pV bpc2)] w0 (fun v w' => ∃ (x1 : Value), v = (.tuple #[]) ∧ Mem w0 hz w' [blk bpc0 [x1] 57, ow [x1] r])) ?_
  intro rec_ ih_ b_ c0_ r hq w0 hz bpc0 v1p bpc1 v2p h2p hbbpc1 bpc2 hbbpc2 hm0
  have pimpl_doms__order_1_rec : ∀ (w0 : World) (hz : Heap) (b_ : Int) (c0_ : List Int) (bpc0 : Nat) (v1p : Value) (_ : MapS (List Int)) (bpc1 : Nat) (v2p : Value) (h2p : GT.rep hz [v2p] c1_) (hbbpc1 : hz bpc1 = some (.cells ([v2p] : List Value).toArray 200 (0, 0))) (bpc2 : Nat) (hbbpc2 : hz bpc2 = some (.cells ([(.func (.func 219) #[] #[(pV bpc0), (pV bpc1), (pV bpc2)])] : List Value).toArray 199 (0, 0))) (hm0 : Mem w0 hz w0 [blk bpc0 [v1p] 57, ow [v1p] c0_]) (r : (List Int)) (hq : rec_ b_ c0_ = some r), Con Tryz.prog 219 [nV b_, (pV bpc0), (pV bpc1), (pV bpc2)] w0 (fun v w' => ∃ (x1 : Value), v = (.tuple #[]) ∧ Mem w0 hz w' [blk bpc0 [x1] 57, ow [x1] r]) := fun w0 hz b_ c0_ bpc0 v1p _ bpc1 v2p h2p hbbpc1 bpc2 hbbpc2 hm0 r hq => ih_ b_ c0_ r hq w0 hz bpc0 v1p bpc1 v2p h2p hbbpc1 bpc2 hbbpc2 hm0
  refine gconr (ρ := (List Int)) (R := fun r v w' => ∃ (x1 : Value), v = (.tuple #[]) ∧ Mem w0 hz w' [blk bpc0 [x1] 57, ow [x1] r]) func219 rfl hq ?_
  have hm := hm0
  refine gS (gR (gL hm 0 isAgg57 rfl (gM rfl (gf rfl (fun a hf => e_build (vs := #[(0, (nV b_))]) (cs := [nV b_]) et_57 hf hm rfl rfl (by kernel_rfl) rfl rfl) ?_))))
  rintro _ w ⟨aW, rfl, hm⟩
  replace hm := hm.lit (xs := ([b_] : List Int)) 0 rfl rfl rfl rfl
  refine gb fun aX aI => ?_
  obtain ⟨aJ, aK⟩ := appM_some.1 aI
  refine gf rfl (fun a hf => e_append 2 et_57 hf hm rfl (hm.ow_rep 0 rfl) rfl rfl rfl aJ) ?_
  rintro aL w hm
  rw [aK] at hm
  refine gS1 hm 1 sizeOf57 (rep_one (hm.ow_rep 2 rfl)) rfl fun w hm => gE (gS (gR (gY (yl isAgg200 (hm.hz_cell hbbpc1 rfl) rfl) (gM rfl ?_))))
  obtain ⟨aE, aM, aB⟩ := lookL_rep h2p b_
  obtain ⟨aY, aF⟩ : ∃ nv, nv = (aE.get b_).elim (.slice none 0 0) MV.venc := ⟨_, rfl⟩
  rw [← aF] at aB
  refine gY (yG rfl (yl_eq aF (y_lookS (key := b_) (m := aE) underlying3 underlying200 zeroValue57 (GT.mono (Heap.le_trans (Heap.le_refl _) hm.lez) aM) rfl rfl rfl))) ?_
  obtain ⟨aN, aO, rfl, aZ⟩ := ro_slice aB
  refine gY (yV st_57 rfl) (gM rfl (gE (gBk (gNg (fun aG aC a w => ∃ (aA : Value), St 23 [(3, (pV bpc2)), (13, (.slice aN ((MapS.get c1_ b_).getD []).length aO)), (14, (nV ((((MapS.get c1_ b_).getD []).length : Int)))), (15, (nV aG))] w0 hz [blk bpc0 [aA] 57, ow [aA] aC] a w) (fun a hf => ⟨aL, hf.sb rfl, hm.pk [1, 2] rfl rfl⟩) ?_ ?_))))
  ·repeat clear hm
   rintro _ _ aG aC a w ⟨aA, hf, hm⟩ aa ab ac _
   refine gv hf (gS (gR (gB rfl (gE (gS (go _ 16 rfl (decide_eq_true (by omega)) (gct rfl (gSk (gS (gBk (gS (gR (gg fun aH aP aD => ?_)))))))))))))
   obtain ⟨ae, af, ag, he⟩ := idx_form aB aD
   obtain ⟨rfl, _, rfl⟩ := sl3 he
   refine gI st_57 aP (idx_lt aD) rfl (gY (yl isAgg3 ((flat_cells (cs := [nV aH]) (hm.now aB) aD rfl).cell (j := 0) rfl) rfl) (gA rfl (gE (gR (gY (yl isAgg199 (hm.hz_cell hbbpc2 rfl) rfl) (gM rfl ?_))))))
   obtain ⟨aQ, hle, hm1, hsub, aR⟩ := hm.take2 (L1 := [blk bpc0 [aA] 57, ow [aA] aC]) (L2 := []) [0, 1] [] (by decide) rfl rfl
   refine gb fun ah aS => gf rfl (fun a hf => e_callv hf rfl rfl rfl ⟨219, [(pV bpc0), (pV bpc1), (pV bpc2)], rfl, call219, pimpl_doms__order_1_rec _ aQ aH aC bpc0 aA c1_ bpc1 v2p (GT.mono hle h2p) (hle _ _ ((Heap.le_refl _) _ _ hbbpc1)) bpc2 (hle _ _ ((Heap.le_refl _) _ _ hbbpc2)) hm1  _ aS⟩) ?_
   rintro ai w ⟨aT, rfl, hB⟩
   replace hm := aR _ _ hB; clear hB
   exact gE (gR (gP (by omega) (by omega) rfl (gM rfl (gE (gZe fun a hf => ⟨aT, hf.sb rfl, hm.pk [0, 1] rfl rfl⟩)))))
  repeat clear hm
  rintro aj ak a w ⟨aV, hf, hm⟩ am an
  exact gv hf (gS (gR (gB rfl (gE (gS (go _ 16 rfl (decide_eq_false (by omega)) (gcf rfl (gXt (gHh (gre results219 ⟨aV, rfl, hm.pk [0, 1] rfl rfl⟩))))))))))
theorem pimpl_doms__order_1_ok (w0 : World) (hz : Heap) (b_ : Int) (c0_ : List Int) (bpc0 : Nat) (v1p : Value) (c1_ : MapS (List Int)) (bpc1 : Nat) (v2p : Value) (h2p : GT.rep hz [v2p] c1_) (hbbpc1 : hz bpc1 = some (.cells ([v2p] : List Value).toArray 200 (0, 0))) (bpc2 : Nat) (hbbpc2 : hz bpc2 = some (.cells ([(.func (.func 219) #[] #[(pV bpc0), (pV bpc1), (pV bpc2)])] : List Value).toArray 199 (0, 0))) (hm0 : Mem w0 hz w0 [blk bpc0 [v1p] 57, ow [v1p] c0_]) (r : (List Int)) (hq : pimpl_doms__order_1 b_ c0_ c1_ = some r) : Con Tryz.prog 219 [nV b_, (pV bpc0), (pV bpc1), (pV bpc2)] w0 (fun v w' => ∃ (x1 : Value), v = (.tuple #[]) ∧ Mem w0 hz w' [blk bpc0 [x1] 57, ow [x1] r]) := pimpl_doms__order_1_all c1_ b_ c0_ r hq w0 hz bpc0 v1p bpc1 v2p h2p hbbpc1 bpc2 hbbpc2 hm0
theorem pimpl_doms__order_ok (w0 : World) (d : doms) (bp0 : Nat) (v1p : Value) (h1p : GT.rep (hp w0) [v1p] d.c.blocks) (v2p : Value) (h2p : GT.rep (hp w0) [v2p] d.over) (v3p : Value) (h3p : GT.rep (hp w0) [v3p] d.in_) (hbbp0 : (hp w0) bp0 = some (.cells ([nV d.c.params, nV d.c.regs, v1p, v2p, v3p] : List Value).toArray 166 (0, 0))) :
    ConM Tryz.prog 163 [(pV bp0)] w0 (pimpl_doms__order d) fun r v w' => ∃ (x1 : Value), v = x1 ∧ Mem w0 (hp w0) w' [ow [x1] r] := by
  unfold pimpl_doms__order
  refine gcon func163 rfl fun r => ?_
  have hm := Mem.start w0
  refine gS (gR (gA rfl (gE (gS (gR (gf rfl (fun a hf => e_mkM (β := Hdr) hm rfl) ?_))))))
  rintro aA w hm
  replace hm := hm.imp (c' := owl aA (MapS.mk0 : MapS (List Int))) 0 rfl (fun F h0 => owl_mk h0)
  refine gAl hm zeroValue200 rfl fun aB w hm => gS1 hm 0 sizeOf200 (owl_one hm 1 rfl) rfl fun w hm => gE (gS (gS (gR (gM rfl (gY (yG rfl (y_nilptr rfl rfl)) (gF fo_166_2 rfl (gY (yl isAgg98 (hm.hz_cell hbbp0 rfl) rfl) ?_)))))))
  obtain ⟨ag, aN, rfl, ah⟩ := ro_slice h3p
  refine gY (yV st_98 rfl) (gM rfl (gE (gBk (gNf hm (fun aC aD => [(0, (pV bp0)), (3, (pV aB)), (13, (nV ((d.in_.length : Int)))), (14, (nV aC))]) (fun aC aD => [blk aB [aA] 200, owl aA aD]) [0, 1] rfl ?_ ?_))))
  ·repeat clear hm
   intro _ _ aC aD w hm ai aj ak _
   refine gS (gR (gB rfl (gE (gS (go _ 15 rfl (decide_eq_true (by omega)) (gct rfl (gSk (gS (gJ hm (fun aH => [(0, (pV bp0)), (3, (pV aB)), (13, (nV ((d.in_.length : Int)))), (14, (nV aC))]) (fun aH => [blk aB [aA] 200, owl aA aH]) (fun aH => ?_) ?_)))))))))
   ·refine gBk (gS (gR (gM rfl (gA rfl (gE (gS (gR (gM rfl (gY (yG rfl (y_nilptr rfl rfl)) (gF fo_166_2 rfl (gY (yl isAgg98 (hm.hz_cell hbbp0 rfl) rfl) (gM rfl (gg fun aO aP aK => ?_)))))))))))))
    obtain ⟨aQ, aR, am, he⟩ := idx_form h3p aK
    obtain ⟨rfl, _, rfl⟩ := sl3 he
    refine gI st_98 aP (idx_lt aK) rfl (gY (yl isAgg4 ((flat_cells (cs := [(.bool (aO))]) (hm.now h3p) aK rfl).cell (j := 0) rfl) rfl) (gE (gJ hm (fun aI => [(0, (pV bp0)), (3, (pV aB)), (13, (nV ((d.in_.length : Int)))), (14, (nV aC))]) (fun aI => [blk aB [aA] 200, owl aA aI]) (fun aI => ?_) ?_)))
    ·refine gs 23 rfl (fun aS => ?_) fun aS => ?_
     ·refine gct rfl (gS (gR (gM rfl (gM rfl (gC hm rfl call183 (pimpl_doms__idom_ok _ d bp0 v1p (hm.now h1p) v2p (hm.now h2p) (sV aQ aR d.in_.length aN) (hm.now h3p) (hm.lez _ _ ((Heap.le_refl _) _ _ hbbp0)) aC) fun aE an w hm => gA rfl (gE ?_))))))
      obtain ⟨aJ, hm⟩ := hm.owl_out 1 rfl aE
      replace hm : Mem w0 (hp w0) _ [ow [aJ] ((MapS.get aD aE).getD []), blk aB [aA] 200, owlH aA aD aE aJ] := hm
      refine gW (.p 1 (.p 3 (.p 5 (.q 0 (.q 2 (.q 4 (.e 6 (.e 7 (.e 8 .fin .nil) .nil) .nil))))))) [0, 2, 4, 6, 7] [1, 3, 5] hm [1, 2] [blk aB [aA] 200, owlH aA aD aE aJ] rfl mxo (by kernel_rfl) (fun _ _ _ h => h.2) fun w hm hS => tP rfl (fun w => yM rfl) (tP rfl (fun w => yM rfl) (tP rfl (fun w => yM rfl) (tQ rfl hS (fun w hm => yL hm 0 isAgg200 rfl) (tQ rfl hS (fun w hm => yL hm 0 isAgg200 rfl) (tQ rfl hS (fun w hm => yG rfl (y_lookH underlying3 underlying200 zeroValue57 hm 1 rfl rfl rfl rfl)) (tO (tf rfl rfl (fun a hf => e_build (vs := #[(0, (nV aC))]) (cs := [nV aC]) et_57 hf hm rfl rfl (by kernel_rfl) rfl rfl) ?_)))))))
      rintro _ w ⟨aT, rfl, hm⟩
      replace hm := hm.lit (xs := ([aC] : List Int)) 0 rfl rfl rfl rfl
      refine tAk hm [2, 3] rfl fun hS => tO (gb fun aL aV => ?_)
      obtain ⟨aW, aX⟩ := appM_some.1 aV
      refine tf rfl rfl (fun a hf => e_append 1 et_57 hf hm rfl (hm.ow_rep 0 rfl) rfl rfl rfl aW) ?_
      rintro aY w hm
      rw [aX] at hm
      refine tAk hm [2, 3] rfl fun hS => tO ?_
      replace hm := (hm.both 3 1 (by decide) rfl rfl).pk (L' := [ow [sV aT 0 1 1] ([aC] : List Int), blk aB [aA] 200, both (owlH aA aD aE aJ) (ow [aY] aL)]) [0, 2, 3] rfl rfl
      refine tf0 rfl rfl (fun a hf => e_insL (key := aE) (l1 := aL) (b := false) 2 underlying3 underlying200 hf hm rfl rfl rfl rfl rfl) ?_
      rintro _ w hm
      exact tAn rfl (tE (gz hm [1, 2] rfl))
     exact gcf rfl (gSk (gz hm [0, 1] rfl))
    repeat clear hm
    intro aI w hm
    exact gz hm [0, 1] rfl
   repeat clear hm
   intro aH w hm
   exact gR (gP (by omega) (by omega) rfl (gM rfl (gE (gze hm [0, 1] rfl))))
  repeat clear hm
  intro ao aM w hm ap aq
  refine gS (gR (gB rfl (gE (gS (go _ 15 rfl (decide_eq_false (by omega)) (gcf rfl (gXt (gHh (gS (gR (gAl hm zeroValue57 rfl fun aF w hm => gE (gS (gR (gAl hm zeroValue199 rfl fun aG w hm => gE (gS (gR ?_))))))))))))))))
  replace hm := hm.owl_ow 3 rfl
  obtain ⟨aZ, aa, hz_r0_1, hmf⟩ := hm.freeze 3 rfl
  replace hm := hmf.pk (L' := [blk aG [.nilFunc] 199, blk aF [.slice none 0 0] 57, blk aB [aA] 200]) [0, 1, 2] rfl rfl
  clear hmf
  replace hz_r0_1 : GT.rep aZ [aA] aM := fz_ow hz_r0_1
  refine gY (yU rfl) (gS1 hm 0 sizeOf199 rfl rfl fun w hm => gE (gS (gR (gL hm 0 isAgg199 rfl ?_))))
  replace hm := hm.nilow (α := Int)
  obtain ⟨ab, hle, hm1, hsub, ac⟩ := hm.take2 (L1 := [blk aF [.slice none 0 0] 57, ow [.slice none 0 0] ([] : List Int)]) (L2 := [blk aG [(.func (.func 219) #[] #[(pV aF), (pV aB), (pV aG)])] 199, blk aB [aA] 200]) [2, 0] [1, 3] (by decide) rfl rfl
  refine gb fun ar ae => gf rfl (fun a hf => e_callv hf rfl rfl rfl ⟨219, [(pV aF), (pV aB), (pV aG)], rfl, call219, pimpl_doms__order_1_ok _ ab 0 ([] : List Int) aF (.slice none 0 0) aM aB aA (GT.mono hle hz_r0_1) (fz_blk (hsub 1 _ rfl)) aG (fz_blk (hsub 0 _ rfl)) hm1  _ ae⟩) ?_
  rintro au w ⟨af, rfl, hB⟩
  replace hm := ac _ _ hB; clear hB
  refine gE (gS (gR (gL hm 0 isAgg57 rfl (gA rfl (gE (gRt ?_))))))
  replace hm := hm.thaw aa
  exact gr1 results163 rfl ⟨af, rfl, hm.pk [1] rfl rfl⟩
theorem impl_harmless_ok (w0 : World) (op : Int) :
    ConM Tryz.prog 164 [nV op] w0 (impl_harmless op) fun r v w' => v = (.bool (r)) ∧ Below w0.heap.size w0 w' := by
  unfold impl_harmless
  refine gcon func164 rfl fun r => ?_
  have hm := Mem.start w0
  refine gS (gR (gA rfl (gE (gS (gS (gR (gM rfl (gE (gBk (gS (gS (gR (gB rfl (gA rfl (gE (gJ hm (fun aA => [(4, (.bool (aA)))]) (fun aA => []) (fun aA => ?_) ?_))))))))))))))))
  ·refine gsd 4 rfl (fun aH => ?_) fun aH => ?_
   ·exact gct rfl (gSk (gz hm [] rfl))
   refine gcf rfl (gS (gR (gB rfl (gA rfl (gE (gJ hm (fun aB => [(4, (.bool (aB)))]) (fun aB => []) (fun aB => ?_) ?_))))))
   ·refine gsd 4 rfl (fun aI => ?_) fun aI => ?_
    ·exact gct rfl (gSk (gz hm [] rfl))
    refine gcf rfl (gS (gR (gB rfl (gA rfl (gE (gJ hm (fun aC => [(4, (.bool (aC)))]) (fun aC => []) (fun aC => ?_) ?_))))))
    ·refine gsd 4 rfl (fun aJ => ?_) fun aJ => ?_
     ·exact gct rfl (gSk (gz hm [] rfl))
     refine gcf rfl (gS (gR (gB rfl (gA rfl (gE (gJ hm (fun aD => [(4, (.bool (aD)))]) (fun aD => []) (fun aD => ?_) ?_))))))
     ·refine gsd 4 rfl (fun aK => ?_) fun aK => ?_
      ·exact gct rfl (gSk (gz hm [] rfl))
      refine gcf rfl (gS (gR (gB rfl (gA rfl (gE (gJ hm (fun aE => [(4, (.bool (aE)))]) (fun aE => []) (fun aE => ?_) ?_))))))
      ·refine gsd 4 rfl (fun aL => ?_) fun aL => ?_
       ·exact gct rfl (gSk (gz hm [] rfl))
       refine gcf rfl (gS (gR (gB rfl (gA rfl (gE (gJ hm (fun aF => [(4, (.bool (aF)))]) (fun aF => []) (fun aF => ?_) ?_))))))
       ·refine gsd 4 rfl (fun aM => ?_) fun aM => ?_
        ·exact gct rfl (gSk (gz hm [] rfl))
        refine gcf rfl (gS (gR (gB rfl (gA rfl (gE (gJ hm (fun aG => [(4, (.bool (aG)))]) (fun aG => []) (fun aG => ?_) ?_))))))
        ·refine gsd 4 rfl (fun aN => ?_) fun aN => ?_
         ·exact gct rfl (gSk (gz hm [] rfl))
         exact gcf rfl (gR (gB rfl (gA rfl (gE (gz hm [] rfl)))))
        repeat clear hm
        intro aG w hm
        exact gz hm [] rfl
       repeat clear hm
       intro aF w hm
       exact gz hm [] rfl
      repeat clear hm
      intro aE w hm
      exact gz hm [] rfl
     repeat clear hm
     intro aD w hm
     exact gz hm [] rfl
    repeat clear hm
    intro aC w hm
    exact gz hm [] rfl
   repeat clear hm
   intro aB w hm
   exact gz hm [] rfl
  repeat clear hm
  intro aA w hm
  refine gs 4 rfl (fun aO => ?_) fun aO => ?_
  ·exact gct rfl (gS (gR (gA rfl (gE (gRt (gr1 results164 rfl ⟨rfl, hm.below⟩))))))
  exact gcf rfl (gSk (gS (gR (gA rfl (gE (gRt (gr1 results164 rfl ⟨rfl, hm.below⟩)))))))
theorem impl_hoistLoop_1_ok (w0 : World) (r_ : Int) (c0_ : MapS Bool) (v1 : Value) (h1 : GT.rep (hp w0) [v1] c0_) (bf0 : Nat) (hbf0 : w0.heap[bf0]? = some (.cells ([v1] : List Value).toArray 110 (0, 0))) :
    ConM Tryz.prog 165 [nV r_, (pV bf0)] w0 (impl_hoistLoop_1 r_ c0_) fun r v w' => v = (.bool (r)) ∧ Below w0.heap.size w0 w' := by
  unfold impl_hoistLoop_1
  refine gcon func165 rfl fun r => ?_
  have hm := Mem.start w0
  exact gS (gR (gA rfl (gE (gS (gR (gY (yl isAgg110 (hm.old_cell hbf0 rfl) rfl) (gM rfl (gY (yG rfl (y_lookB (key := r_) (m := (c0_ : MapS Bool)) underlying3 underlying110 zeroValue4 (hm.now h1) rfl rfl rfl)) (gA rfl (gE (gRt (gr1 results165 rfl ⟨rfl, hm.below⟩))))))))))))
theorem impl_hoistLoop_ok (w0 : World) (hz : Heap) (c_ : Code_) (bp0 : Nat) (v1p : Value) (d : doms) (bp1 : Nat) (v2p : Value) (h2p : GT.rep hz [v2p] d.c.blocks) (v3p : Value) (h3p : GT.rep hz [v3p] d.over) (v4p : Value) (h4p : GT.rep hz [v4p] d.in_) (hbbp1 : hz bp1 = some (.cells ([nV d.c.params, nV d.c.regs, v2p, v3p, v4p] : List Value).toArray 166 (0, 0))) (h_ : Int) (hm0 : Mem w0 hz w0 [blk bp0 [nV c_.params, nV c_.regs, v1p] 44, ow [v1p] c_.blocks]) :
    ConM Tryz.prog 106 [(pV bp0), (pV bp1), nV h_] w0 (impl_hoistLoop c_ d h_) fun r v w' => ∃ (x1 : Value), v = (.bool (r.1)) ∧ Mem w0 hz w' [blk bp0 [nV r.2.params, nV r.2.regs, x1] 44, ow [x1] r.2.blocks] := by
  unfold impl_hoistLoop
  refine gcon func106 rfl fun r => ?_
  have hm := hm0
  refine gS (gR (gA rfl (gE (gS (gR (gM rfl (gM rfl (gCg rfl call162 (pimpl_doms__body_ok _ d bp1 v2p (hm.now h2p) v3p (hm.now h3p) v4p (hm.now h4p) (hm.lez _ _ ((Heap.le_refl _) _ _ hbbp1)) h_) ?_))))))))
  rintro aC cq cr w ⟨_, rfl, hB⟩
  replace hm := hm.give hB; clear hB
  refine gA rfl (gE (gS (gR (gA rfl (gE (gS (gS (gR (gM rfl (gY (yG rfl (y_nilptr rfl rfl)) (gY (yn (hm.blk_at 1 rfl) isAgg44 sizeOf44 rfl) (gM rfl (gCg rfl call78 (impl_PredsOf_ok _ c_ v1p (hm.ow_rep 2 rfl) h_) ?_)))))))))))))
  rintro aj ct cu w ⟨_, rfl, hB⟩
  replace hm := hm.give hB; clear hB
  obtain ⟨bB, aw, rfl, cv⟩ := ro_slice (hm.ow_rep 0 rfl)
  refine gY (yV st_57 rfl) (gM rfl (gE ?_))
  obtain ⟨aY, aD, rfl, cw⟩ := ro_slice (hm.ow_rep 3 rfl)
  obtain ⟨aJ, aK, rfl, cx⟩ := ro_slice (hm.ow_rep 1 rfl)
  refine gBk ?_
  replace hm := hm.nilow (α := Int)
  refine gNg (fun bO br a w => ∃ (bP : Value), St 161 [(0, (pV bp0)), (1, (pV bp1)), (7, (.slice aJ aC.length aK)), (8, bP), (30, (.slice bB aj.length aw)), (31, (nV ((aj.length : Int)))), (32, (nV bO))] w0 hz [blk bp0 [nV c_.params, nV c_.regs, .slice aY c_.blocks.length aD] 44, ow [.slice aY c_.blocks.length aD] c_.blocks, ow [.slice aJ aC.length aK] aC, ow [bP] br, ow [.slice bB aj.length aw] aj] a w) (fun a hf => ⟨.slice none 0 0, hf.sb rfl, hm.pk [3, 4, 2, 0, 1] rfl rfl⟩) ?_ ?_
  ·repeat clear hm
   rintro _ _ bO br a w ⟨bP, hf, hm⟩ cy cz dA _
   refine gv hf (gS (gR (gB rfl (gE (gS (go _ 33 rfl (decide_eq_true (by omega)) (gct rfl (gSk (gS (gJg (fun bb a w => ∃ (bQ : Value), St 161 [(0, (pV bp0)), (1, (pV bp1)), (7, (.slice aJ aC.length aK)), (8, bQ), (30, (.slice bB aj.length aw)), (31, (nV ((aj.length : Int)))), (32, (nV bO))] w0 hz [blk bp0 [nV c_.params, nV c_.regs, .slice aY c_.blocks.length aD] 44, ow [.slice aY c_.blocks.length aD] c_.blocks, ow [.slice aJ aC.length aK] aC, ow [bQ] bb, ow [.slice bB aj.length aw] aj] a w) (fun bb => ?_) ?_))))))))))
   ·refine gBk (gS (gR (gg fun bH cG bc => ?_)))
    obtain ⟨bs, bt, dB, he⟩ := idx_form (hm.ow_rep 4 rfl) bc
    obtain ⟨rfl, _, rfl⟩ := sl3 he
    refine gI st_57 cG (idx_lt bc) rfl (gY (yl isAgg3 ((flat_cells (cs := [nV bH]) (hm.ow_rep 4 rfl) bc rfl).cell (j := 0) rfl) rfl) (gA rfl (gE (gS (gR (gM rfl (gM rfl (gC hm rfl call125 (slices_Contains_S_int_int_ok _ aC (.slice aJ aC.length aK) (hm.ow_rep 2 rfl) bH) fun dC dD w hm => gN rfl (gE (gJg (fun bd a w => ∃ (bR : Value), St 161 [(0, (pV bp0)), (1, (pV bp1)), (7, (.slice aJ aC.length aK)), (8, bR), (30, (sV bs bt aj.length aw)), (31, (nV ((aj.length : Int)))), (32, (nV bO))] w0 hz [blk bp0 [nV c_.params, nV c_.regs, .slice aY c_.blocks.length aD] 44, ow [.slice aY c_.blocks.length aD] c_.blocks, ow [.slice aJ aC.length aK] aC, ow [bR] bd, ow [sV bs bt aj.length aw] aj] a w) (fun bd => ?_) ?_))))))))))
    ·refine gsn 39 rfl (fun cH => ?_) fun cH => ?_
     ·refine gct rfl (gR (gM rfl (gM rfl (gf rfl (fun a hf => e_build (vs := #[(0, (nV bH))]) (cs := [nV bH]) et_57 hf hm rfl rfl (by kernel_rfl) rfl rfl) ?_))))
      rintro _ w ⟨dE, rfl, hm⟩
      replace hm := hm.lit (xs := ([bH] : List Int)) 0 rfl rfl rfl rfl
      refine gb fun dF cI => ?_
      obtain ⟨cJ, cK⟩ := appM_some.1 cI
      refine gf rfl (fun a hf => e_append 4 et_57 hf hm rfl (hm.ow_rep 0 rfl) rfl rfl rfl cJ) ?_
      rintro cL w hm
      rw [cK] at hm
      exact gA rfl (gE (gZ fun a hf => ⟨cL, hf.sb rfl, hm.pk [1, 2, 3, 4, 5] rfl rfl⟩))
     exact gcf rfl (gSk (gZ fun a hf => ⟨bP, hf.sb rfl, hm.pk [0, 1, 2, 3, 4] rfl rfl⟩))
    repeat clear hm
    rintro bd a w ⟨bR, hf, hm⟩
    exact gv hf (gZ fun a hf => ⟨bR, hf.sb rfl, hm.pk [0, 1, 2, 3, 4] rfl rfl⟩)
   repeat clear hm
   rintro bb a w ⟨bQ, hf, hm⟩
   exact gv hf (gR (gP (by omega) (by omega) rfl (gM rfl (gE (gZe fun a hf => ⟨bQ, hf.sb rfl, hm.pk [0, 1, 2, 3, 4] rfl rfl⟩)))))
  repeat clear hm
  rintro dG aE a w ⟨bJ, hf, hm⟩ dH dI
  refine gv hf (gS (gR (gB rfl (gE (gS (go _ 33 rfl (decide_eq_false (by omega)) (gcf rfl (gXt (gHh (gS (gS (gJ hm (fun bS => [(0, (pV bp0)), (1, (pV bp1)), (7, (.slice aJ aC.length aK)), (8, bJ), (60, (.bool (bS)))]) (fun bS => [blk bp0 [nV c_.params, nV c_.regs, .slice aY c_.blocks.length aD] 44, ow [.slice aY c_.blocks.length aD] c_.blocks, ow [.slice aJ aC.length aK] aC, ow [bJ] aE]) (fun bS => ?_) ?_))))))))))))
  ·replace hm : Mem w0 hz _ [blk bp0 [nV c_.params, nV c_.regs, .slice aY c_.blocks.length aD] 44, ow [.slice aY c_.blocks.length aD] c_.blocks, ow [.slice aJ aC.length aK] aC, ow [bJ] aE, ow [.slice bB aj.length aw] aj] := hm
   refine gW (.p 0 (.p 1 (.p 2 (.p 3 (.p 4 (.p 5 (.p 6 (.p 8 (.p 9 (.q 7 (.e 10 (.p 11 (.p 12 (.e 13 (.p 14 (.p 15 .fin)) .nil))) .nil))))))))))) [10] [0, 1, 2, 3, 4, 5, 6, 8, 9, 11, 12, 14, 15] hm [0, 1, 2, 3, 4] [blk bp0 [nV c_.params, nV c_.regs, .slice aY c_.blocks.length aD] 44, ow [.slice aY c_.blocks.length aD] c_.blocks, ow [.slice aJ aC.length aK] aC, ow [bJ] aE, ow [.slice bB aj.length aw] aj] rfl mxo (by kernel_rfl) (fun _ _ _ h => h.2) fun w hm hS => tP rfl (fun w => yM rfl) ?_
   obtain ⟨dJ, dK, rfl, dL⟩ := ro_slice (hm.ow_rep 3 rfl)
   refine tP rfl (fun w => yV st_57 rfl) (tP rfl (fun w => yB rfl) (tP rfl (fun w => yM rfl) (gsd 48 rfl (fun cM => ?_) fun cM => ?_)))
   ·exact tPo rfl rfl (tPo rfl rfl (tPo rfl rfl (tPo rfl rfl (tPo rfl rfl (tQo rfl hS rfl (tO (tEo rfl rfl (tAs hS (tPo rfl rfl (tPo rfl rfl (tO (tEo rfl rfl (tAn rfl (tPo rfl rfl (tP rfl (fun w => yKt rfl) (tE (gz hm [0, 1, 2, 3] rfl)))))))))))))))))
   refine tP rfl (fun w => yM rfl) (tP rfl (fun w => yG rfl (y_nilptr rfl rfl)) (tP rfl (fun w => yF fo_44_2 rfl) (tP rfl (fun w => yM rfl) (gg fun cN cO be => ?_))))
   obtain ⟨dM, dN, dO, he⟩ := idx_form (hm.ow_rep 3 rfl) be
   obtain ⟨rfl, _, rfl⟩ := sl3 he
   refine tP rfl (fun w => yI st_57 cO (idx_lt be) rfl) (tQ rfl hS (fun w hm => yL hm 0 isAgg42 rfl) (tO (tY rfl (yl isAgg3 ((flat_cells (cs := [nV cN]) (hm.ow_rep 3 rfl) be rfl).cell (j := 0) rfl) rfl) (tAs hS (gg fun dP cP bf => ?_)))))
   obtain ⟨dQ, dR, dS, he⟩ := idx_form' (hm.ow_rep 1 rfl) bf
   obtain ⟨rfl, _, rfl⟩ := sl3 he
   obtain ⟨dT, dU, dV, cQ, dW, dX, dY⟩ := rk_Block_ (hm.ow_rep 1 rfl) bf
   exact tP rfl (fun w => yI st_42 cP (idx_lt bf) rfl) (tP rfl (fun w => yF fo_59_2 rfl) (tO (tY rfl (yl isAgg3 (cQ.cell (j := 2) rfl) rfl) (tAn rfl (tP rfl (fun w => yB rfl) (tP rfl (fun w => yKf rfl) (tE (gz hm [0, 1, 2, 3] rfl))))))))
  repeat clear hm
  intro bS w hm
  refine gs 60 rfl (fun cR => ?_) fun cR => ?_
  ·exact gct rfl (gS (gR (gA rfl (gE (gRt (gr1 results106 rfl ⟨.slice aY c_.blocks.length aD, rfl, hm.pk [0, 1] rfl rfl⟩))))))
  refine gcf rfl (gSk (gS (gR (gf rfl (fun a hf => e_mkM (β := Bool) hm rfl) ?_))))
  rintro aH w hm
  refine gAl hm zeroValue110 rfl fun aR w hm => gS1 hm 0 sizeOf110 (owm_one hm 1 rfl) rfl fun w hm => gE (gS (gS (gR (gM rfl (gY (yG rfl (y_nilptr rfl rfl)) (gY (yn (hm.blk_at 2 rfl) isAgg44 sizeOf44 rfl) (gCg rfl call55 (impl_placesOf_ok _ c_ (.slice aY c_.blocks.length aD) (hm.ow_rep 3 rfl)) ?_)))))))
  rintro ax dZ d4 w ⟨_, rfl, hB⟩
  replace hm := hm.give hB; clear hB
  obtain ⟨bu, bT, rfl, d5⟩ := ro_slice (hm.ow_rep 0 rfl)
  refine gY (yV st_73 rfl) (gM rfl (gE ?_))
  obtain ⟨ak, bK, hz_r0_1, hmf⟩ := hm.freeze 0 rfl
  replace hm := hmf.pk (L' := [blk aR [aH] 110, owm aH (MapS.mk0 : MapS Bool), blk bp0 [nV c_.params, nV c_.regs, .slice aY c_.blocks.length aD] 44, ow [.slice aY c_.blocks.length aD] c_.blocks, ow [.slice aJ aC.length aK] aC, ow [bJ] aE]) [1, 2, 3, 4, 5, 6] rfl rfl
  clear hmf
  replace hz_r0_1 : GT.rep ak [.slice bu ax.length bT] ax := fz_ow hz_r0_1
  obtain ⟨aZ, aV, rfl, d6⟩ := ro_slice (hm.ow_rep 5 rfl)
  refine gBk (gNf hm (fun an bg => [(0, (pV bp0)), (1, (pV bp1)), (7, (.slice aJ aC.length aK)), (8, (.slice aZ aE.length aV)), (11, (pV aR)), (65, (.slice bu ax.length bT)), (66, (nV ((ax.length : Int)))), (67, (nV an))]) (fun an bg => [blk bp0 [nV c_.params, nV c_.regs, .slice aY c_.blocks.length aD] 44, ow [.slice aY c_.blocks.length aD] c_.blocks, ow [.slice aJ aC.length aK] aC, ow [.slice aZ aE.length aV] aE, blk aR [aH] 110, owm aH bg]) [2, 3, 4, 5, 0, 1] rfl ?_ ?_)
  ·repeat clear hm
   intro _ _ an bg w hm d7 d8 d9 _
   refine gS (gR (gB rfl (gE (gS (go _ 68 rfl (decide_eq_true (by omega)) (gct rfl (gSk (gS (gBk (gS (gR (gM rfl (gg fun bL cS bh => ?_)))))))))))))
   obtain ⟨bi, bj, da, he⟩ := idx_form' hz_r0_1 bh
   obtain ⟨rfl, _, rfl⟩ := sl3 he
   obtain ⟨_, _, bk, cT⟩ := ro_get' hz_r0_1 bh
   have bC := cT
   obtain ⟨bv, rfl, -⟩ := id bC
   replace bC : GT.rep ak [bv] bL := bC
   replace bk : CellsAt ak bi (bj + (an).toNat * 1) [bv] := bk
   refine gI st_73 cS (idx_lt bh) rfl (gY (yl isAgg75 ((bk.mono hm.lez).cell (j := 0) rfl) rfl) (gA rfl (gA rfl (gE (gS (gR (gM rfl ?_)))))))
   obtain ⟨cU, bw, rfl, db⟩ := ro_slice bC
   refine gY (yV st_75 rfl) (gM rfl (gE (gBk (gNf hm (fun bU bD => [(0, (pV bp0)), (1, (pV bp1)), (7, (.slice aJ aC.length aK)), (8, (.slice aZ aE.length aV)), (11, (pV aR)), (12, (nV an)), (65, (sV bi bj ax.length bT)), (66, (nV ((ax.length : Int)))), (67, (nV an)), (72, (.slice cU bL.length bw)), (73, (nV ((bL.length : Int)))), (74, (nV bU))]) (fun bU bD => [blk bp0 [nV c_.params, nV c_.regs, .slice aY c_.blocks.length aD] 44, ow [.slice aY c_.blocks.length aD] c_.blocks, ow [.slice aJ aC.length aK] aC, ow [.slice aZ aE.length aV] aE, blk aR [aH] 110, owm aH bD]) [0, 1, 2, 3, 4, 5] rfl ?_ ?_))))
   ·repeat clear hm
    intro _ _ bU bD w hm dc dd de _
    refine gS (gR (gB rfl (gE (gS (go _ 75 rfl (decide_eq_true (by omega)) (gct rfl (gSk (gS (gBk (gS (gR (gg fun ay cV bl => ?_))))))))))))
    obtain ⟨cW, cX, df, he⟩ := idx_form bC bl
    obtain ⟨rfl, _, rfl⟩ := sl3 he
    refine gI st_75 cV (idx_lt bl) rfl (gY (yn (flat_cells (cs := [nV ay.block, nV ay.ins]) (hm.now bC) bl rfl) isAgg77 sizeOf77 rfl) (gAl hm zeroValue77 rfl fun bx w hm => gSN hm 0 sizeOf77 (one_cons rfl (one_cons rfl one_nil)) rfl fun w hm => gE (gJ hm (fun bV => [(0, (pV bp0)), (1, (pV bp1)), (7, (.slice aJ aC.length aK)), (8, (.slice aZ aE.length aV)), (11, (pV aR)), (12, (nV an)), (65, (sV bi bj ax.length bT)), (66, (nV ((ax.length : Int)))), (67, (nV an)), (72, (sV cW cX bL.length bw)), (73, (nV ((bL.length : Int)))), (74, (nV bU))]) (fun bV => [blk bp0 [nV c_.params, nV c_.regs, .slice aY c_.blocks.length aD] 44, ow [.slice aY c_.blocks.length aD] c_.blocks, ow [.slice aJ aC.length aK] aC, ow [.slice aZ aE.length aV] aE, blk aR [aH] 110, owm aH bV]) (fun bV => ?_) ?_)))
    ·replace hm : Mem w0 ak _ [blk bx [nV ay.block, nV ay.ins] 77, blk bp0 [nV c_.params, nV c_.regs, .slice aY c_.blocks.length aD] 44, ow [.slice aY c_.blocks.length aD] c_.blocks, ow [.slice aJ aC.length aK] aC, ow [.slice aZ aE.length aV] aE, blk aR [aH] 110, owm aH bD] := hm
     refine gW (.p 1 (.p 3 (.q 0 (.e 2 (.e 4 (.p 5 (.p 6 (.p 7 (.e 8 (.e 9 (.p 10 (.e 11 .fin .nil)) .nil) .nil)))) .nil) .nil)))) [2, 4, 8, 9] [1, 3, 5, 6, 7, 10] hm [0, 1, 2, 3, 4, 5, 6] [blk bx [nV ay.block, nV ay.ins] 77, blk bp0 [nV c_.params, nV c_.regs, .slice aY c_.blocks.length aD] 44, ow [.slice aY c_.blocks.length aD] c_.blocks, ow [.slice aJ aC.length aK] aC, ow [.slice aZ aE.length aV] aE, blk aR [aH] 110, owm aH bD] rfl mxo (by kernel_rfl) (fun _ _ _ h => h.2) fun w hm hS => tP rfl (fun w => yM rfl) (tP rfl (fun w => yM rfl) (tQ rfl hS (fun w hm => yL hm 5 isAgg110 rfl) (tO (tY rfl (yL hm 5 isAgg110 rfl) (tAs hS (tO (tY rfl (yG rfl (y_lookB (key := an) (m := (bD : MapS Bool)) underlying3 underlying110 zeroValue4 (hm.owm_rep 6 rfl) rfl rfl rfl)) (tAs hS (tP rfl (fun w => yM rfl) (gs 83 rfl (fun cY => ?_) fun cY => ?_))))))))))
     ·refine tPo rfl rfl (tPo rfl rfl (tO (tEo rfl rfl (tAs hS (tO (tEo rfl rfl (tAs hS (tP rfl (fun w => yKt rfl) (tO (tf0 rfl rfl (fun a hf => e_insM (β := Bool) (key := an) (u := true) (b := false) 6 underlying3 underlying110 hf hm rfl rfl rfl rfl rfl) ?_))))))))))
      rintro _ w hm
      exact tAn rfl (tE (gz hm [1, 2, 3, 4, 5, 6] rfl))
     refine tP rfl (fun w => yM rfl) (tP rfl (fun w => yF fo_77_0 rfl) (tO (tY rfl (yL hm 0 isAgg3 rfl) (tAs hS (tO (gb fun cZ c7 => tf rfl rfl (fun a hf => e_call hf rfl call125 rfl (slices_Contains_S_int_int_ok _ aC (.slice aJ aC.length aK) (hm.ow_rep 3 rfl) ay.block _ c7)) ?_))))))
     rintro dg w ⟨rfl, hB⟩
     replace hm := hm.below' hB; clear hB
     refine tAk hm [0, 1, 2, 3, 4, 5, 6] rfl fun hS => tP rfl (fun w => yKf rfl) (tO (tf0 rfl rfl (fun a hf => e_insM (β := Bool) (key := an) (u := cZ) (b := false) 6 underlying3 underlying110 hf hm rfl rfl rfl rfl rfl) ?_))
     rintro _ w hm
     exact tAn rfl (tE (gz hm [1, 2, 3, 4, 5, 6] rfl))
    repeat clear hm
    intro bV w hm
    exact gR (gP (by omega) (by omega) rfl (gM rfl (gE (gze hm [0, 1, 2, 3, 4, 5] rfl))))
   repeat clear hm
   intro dh di w hm dk dl
   exact gS (gR (gB rfl (gE (gS (go _ 75 rfl (decide_eq_false (by omega)) (gcf rfl (gXt (gHh (gR (gP (by omega) (by omega) rfl (gM rfl (gE (gze hm [0, 1, 2, 3, 4, 5] rfl)))))))))))))
  repeat clear hm
  intro dm dp w hm dq dr
  refine gS (gR (gB rfl (gE (gS (go _ 68 rfl (decide_eq_false (by omega)) (gcf rfl (gXt (gHh (gS (gR (gA rfl (gE (gS (gS (gR (gM rfl (gCg rfl call163 (pimpl_doms__order_ok _ d bp1 v2p (hm.now (GT.mono bK h2p)) v3p (hm.now (GT.mono bK h3p)) v4p (hm.now (GT.mono bK h4p)) (hm.lez _ _ (bK _ _ hbbp1))) ?_)))))))))))))))))
  rintro aI dt du w ⟨_, rfl, hB⟩
  replace hm := hm.give hB; clear hB
  obtain ⟨bW, aW, rfl, dv⟩ := ro_slice (hm.ow_rep 0 rfl)
  refine gY (yV st_57 rfl) (gM rfl (gE (gBk (gNf hm (fun az bM => [(0, (pV bp0)), (7, (.slice aJ aC.length aK)), (8, (.slice aZ aE.length aV)), (11, (pV aR)), (16, (.bool (bM.2.2))), (92, (.slice bW aI.length aW)), (93, (nV ((aI.length : Int)))), (94, (nV az))]) (fun az bM => [blk bp0 [nV c_.params, nV c_.regs, .slice aY c_.blocks.length aD] 44, ow [.slice aY c_.blocks.length aD] bM.1, ow [.slice aJ aC.length aK] aC, ow [.slice aZ aE.length aV] aE, blk aR [aH] 110, owm aH bM.2.1, ow [.slice bW aI.length aW] aI]) [1, 2, 3, 4, 5, 6, 0] rfl ?_ ?_))))
  ·repeat clear hm
   intro _ _ az bM w hm dw dx dy _
   refine gS (gR (gB rfl (gE (gS (go _ 95 rfl (decide_eq_true (by omega)) (gct rfl (gSk (gS (gJ hm (fun bE => [(0, (pV bp0)), (7, (.slice aJ aC.length aK)), (8, (.slice aZ aE.length aV)), (11, (pV aR)), (16, (.bool (bE.2.2))), (92, (.slice bW aI.length aW)), (93, (nV ((aI.length : Int)))), (94, (nV az))]) (fun bE => [blk bp0 [nV c_.params, nV c_.regs, .slice aY c_.blocks.length aD] 44, ow [.slice aY c_.blocks.length aD] bE.1, ow [.slice aJ aC.length aK] aC, ow [.slice aZ aE.length aV] aE, blk aR [aH] 110, owm aH bE.2.1, ow [.slice bW aI.length aW] aI]) (fun bE => ?_) ?_)))))))))
   ·refine gBk (gS (gR (gg fun aX c8 bm => ?_)))
    obtain ⟨aa, ab, dz, he⟩ := idx_form (hm.ow_rep 6 rfl) bm
    obtain ⟨rfl, _, rfl⟩ := sl3 he
    refine gI st_57 c8 (idx_lt bm) rfl (gY (yl isAgg3 ((flat_cells (cs := [nV aX]) (hm.ow_rep 6 rfl) bm rfl).cell (j := 0) rfl) rfl) (gA rfl (gE (gS (gS (gR (gM rfl (gM rfl (gC hm rfl call125 (slices_Contains_S_int_int_ok _ aC (.slice aJ aC.length aK) (hm.ow_rep 2 rfl) aX) fun eA eB w hm => gN rfl (gE (gsn 101 rfl (fun c9 => ?_) fun c9 => ?_)))))))))))
    ·exact gct rfl (gXt (gHh (gz hm [0, 1, 2, 3, 4, 5, 6] rfl)))
    refine gcf rfl (gSk (gS (gR (gA rfl (gE (gS (gS (gR (gM rfl (gY (yG rfl (y_nilptr rfl rfl)) (gF fo_44_2 rfl (gL hm 0 isAgg42 rfl (gM rfl (gg fun aA bo bN => ?_))))))))))))))
    obtain ⟨aL, aM, eC, he⟩ := idx_form' (hm.ow_rep 1 rfl) bN
    obtain ⟨rfl, _, rfl⟩ := sl3 he
    obtain ⟨eD, eE, eF, eG, eH, eI, eJ⟩ := rk_Block_ (hm.ow_rep 1 rfl) bN
    have hL2_1 := rep_slice_len (hm.ow_rep 1 rfl)
    refine gI st_42 bo (idx_lt2 bN hL2_1) rfl (gF fo_59_1 rfl ?_)
    obtain ⟨aO, eK, aP, hm⟩ := pin_Block_ hm 1 rfl bN
    have bz : (aX).toNat < c_.blocks.length := (idx_lt2 bN (hm.holeE_len 4 rfl))
    refine gY (yl isAgg56 ((hm.holeE_at 4 rfl).cell (j := 1) rfl) rfl) ?_
    obtain ⟨ar, aN, rfl, eL⟩ := ro_slice (hm.ow_rep 1 rfl)
    refine gY (yV st_56 rfl) (gM rfl (gE ?_))
    replace hm := hm.drnV0 1 rfl
    refine gBk ?_
    replace hm := hm.nilow (α := Ins_)
    refine gNg (fun ac aG a w => ∃ (ae : Value), St 161 [(0, (pV bp0)), (7, (.slice aJ aC.length aK)), (8, (.slice aZ aE.length aV)), (11, (pV aR)), (16, (.bool (aG.2.2.1))), (18, (nV aX)), (19, ae), (92, (sV aa ab aI.length aW)), (93, (nV ((aI.length : Int)))), (94, (nV az)), (109, (.slice ar aA.ins.length aN)), (110, (nV ((aA.ins.length : Int)))), (111, (nV ac))] w0 ak [blk bp0 [nV c_.params, nV c_.regs, sV aL aM c_.blocks.length aD] 44, holeE aL aM c_.blocks.length aD (aG.1 : List Block_) (aX).toNat [aO, .slice ar aA.ins.length aN, nV aA.jump, nV aA.on, aP], ow [aO] aA.phis, drnV (.slice ar aA.ins.length aN) (aA.ins : List Ins_) (ac), ow [aP] aA.next_, ow [.slice aJ aC.length aK] aC, ow [.slice aZ aE.length aV] aE, blk aR [aH] 110, owm aH aG.2.1, ow [ae] aG.2.2.2, ow [sV aa ab aI.length aW] aI] a w) (fun a hf => ⟨.slice none 0 0, hf.sb rfl, hm.pk [4, 5, 3, 2, 1, 6, 7, 8, 9, 0, 10] rfl rfl⟩) ?_ ?_
    ·repeat clear hm
     rintro _ _ ac aG a w ⟨ae, hf, hm⟩ eM eN eO _
     refine gv hf (gS (gR (gB rfl (gE (gS (go _ 112 rfl (decide_eq_true (by omega)) (gct rfl (gSk (gS (gJg (fun bF a w => ∃ (bX : Value), St 161 [(0, (pV bp0)), (7, (.slice aJ aC.length aK)), (8, (.slice aZ aE.length aV)), (11, (pV aR)), (16, (.bool (bF.2.2.1))), (18, (nV aX)), (19, bX), (92, (sV aa ab aI.length aW)), (93, (nV ((aI.length : Int)))), (94, (nV az)), (109, (.slice ar aA.ins.length aN)), (110, (nV ((aA.ins.length : Int)))), (111, (nV ac))] w0 ak [blk bp0 [nV c_.params, nV c_.regs, sV aL aM c_.blocks.length aD] 44, holeE aL aM c_.blocks.length aD (bF.1 : List Block_) (aX).toNat [aO, .slice ar aA.ins.length aN, nV aA.jump, nV aA.on, aP], ow [aO] aA.phis, drnS (.slice ar aA.ins.length aN) (aA.ins : List Ins_) (ac), ow [aP] aA.next_, ow [.slice aJ aC.length aK] aC, ow [.slice aZ aE.length aV] aE, blk aR [aH] 110, owm aH bF.2.1, ow [bX] bF.2.2.2, ow [sV aa ab aI.length aW] aI] a w) (fun bF => ?_) ?_))))))))))
     ·refine gBk (gS (gR (gg fun aB cA bY => ?_)))
      obtain ⟨aS, aT, eP, he⟩ := hm.drn_form 3 rfl bY
      obtain ⟨rfl, _, rfl⟩ := sl3 he
      obtain ⟨_, ca, hm⟩ := hm.drn_pin 3 rfl bY
      have cb := hm.ow_rep 0 rfl
      obtain ⟨_, _, rfl, rfl, _, _, rfl, rfl, _, _, rfl, bZ, rfl⟩ := cb
      obtain ⟨aQ, rfl, -⟩ := id bZ
      replace bZ : GT.rep (hp _) [aQ] aB.args := bZ
      clear ca bZ
      replace hm : Mem w0 ak _ [ow [nV aB.op, nV aB.to, aQ, nV aB.n_] (aB : Ins_), blk bp0 [nV c_.params, nV c_.regs, sV aL aM c_.blocks.length aD] 44, holeE aL aM c_.blocks.length aD (aG.1 : List Block_) (aX).toNat [aO, sV aS aT aA.ins.length aN, nV aA.jump, nV aA.on, aP], ow [aO] aA.phis, drnH aS aT aA.ins.length aN (aA.ins : List Ins_) (ac).toNat [nV aB.op, nV aB.to, aQ, nV aB.n_], ow [aP] aA.next_, ow [.slice aJ aC.length aK] aC, ow [.slice aZ aE.length aV] aE, blk aR [aH] 110, owm aH aG.2.1, ow [ae] aG.2.2.2, ow [sV aa ab aI.length aW] aI] := hm
      replace hm := hm.imp (c' := ow ([nV aB.op] ++ [nV aB.to, aQ, nV aB.n_]) ((aB.op, (aB.to, aB.args, aB.n_)) : Int × Int × (List Int) × Int)) 0 rfl (fun F h0 => h0)
      replace hm := Mem.unpair (α := Int) (β := Int × (List Int) × Int) (c := [nV aB.op]) (d := [nV aB.to, aQ, nV aB.n_]) (x := aB.op) (y := (aB.to, aB.args, aB.n_)) hm 0 rfl rfl
      replace hm := hm.imp (c' := ow ([nV aB.to] ++ [aQ, nV aB.n_]) ((aB.to, (aB.args, aB.n_)) : Int × (List Int) × Int)) 0 rfl (fun F h0 => h0)
      replace hm := Mem.unpair (α := Int) (β := (List Int) × Int) (c := [nV aB.to]) (d := [aQ, nV aB.n_]) (x := aB.to) (y := (aB.args, aB.n_)) hm 0 rfl rfl
      replace hm := hm.imp (c' := ow ([aQ] ++ [nV aB.n_]) ((aB.args, aB.n_) : (List Int) × Int)) 0 rfl (fun F h0 => h0)
      replace hm := Mem.unpair (α := List Int) (β := Int) (c := [aQ]) (d := [nV aB.n_]) (x := aB.args) (y := aB.n_) hm 0 rfl rfl
      replace hm := hm.pk (L' := [ow [aQ] aB.args, blk bp0 [nV c_.params, nV c_.regs, sV aL aM c_.blocks.length aD] 44, holeE aL aM c_.blocks.length aD (aG.1 : List Block_) (aX).toNat [aO, sV aS aT aA.ins.length aN, nV aA.jump, nV aA.on, aP], ow [aO] aA.phis, drnH aS aT aA.ins.length aN (aA.ins : List Ins_) (ac).toNat [nV aB.op, nV aB.to, aQ, nV aB.n_], ow [aP] aA.next_, ow [.slice aJ aC.length aK] aC, ow [.slice aZ aE.length aV] aE, blk aR [aH] 110, owm aH aG.2.1, ow [ae] aG.2.2.2, ow [sV aa ab aI.length aW] aI]) [1, 4, 5, 6, 7, 8, 9, 10, 11, 12, 13, 14] rfl rfl
      have hL4_1 := hm.drnH_len 4 rfl
      refine gI st_56 cA (idx_lt2 bY hL4_1) rfl (gY (yn (hm.drnH_at 4 rfl) isAgg61 sizeOf61 rfl) (gAl hm zeroValue61 rfl fun ah w hm => gSN hm 0 sizeOf61 (one_cons rfl (one_cons rfl (one_cons (rep_one (hm.ow_rep 1 rfl)) (one_cons rfl one_nil)))) rfl fun w hm => gE (gS (gS ?_))))
      replace hm := hm.drnH_gone 5 rfl cA bY
      refine gJ hm (fun b7 => [(0, (pV bp0)), (7, (.slice aJ aC.length aK)), (8, (.slice aZ aE.length aV)), (11, (pV aR)), (16, (.bool (aG.2.2.1))), (18, (nV aX)), (19, ae), (21, (pV ah)), (92, (sV aa ab aI.length aW)), (93, (nV ((aI.length : Int)))), (94, (nV az)), (109, (sV aS aT aA.ins.length aN)), (110, (nV ((aA.ins.length : Int)))), (111, (nV ac)), (124, (.bool (b7)))]) (fun b7 => [blk bp0 [nV c_.params, nV c_.regs, sV aL aM c_.blocks.length aD] 44, holeE aL aM c_.blocks.length aD (aG.1 : List Block_) (aX).toNat [aO, sV aS aT aA.ins.length aN, nV aA.jump, nV aA.on, aP], ow [aO] aA.phis, drnS (sV aS aT aA.ins.length aN) (aA.ins : List Ins_) (ac), ow [aP] aA.next_, ow [.slice aJ aC.length aK] aC, ow [.slice aZ aE.length aV] aE, blk aR [aH] 110, owm aH aG.2.1, ow [ae] aG.2.2.2, blk ah [nV aB.op, nV aB.to, aQ, nV aB.n_] 61, ow [aQ] aB.args, ow [sV aa ab aI.length aW] aI]) (fun b7 => ?_) ?_
      ·refine gR (gF fo_61_0 rfl (gL hm 0 isAgg3 rfl (gC hm rfl call164 (impl_harmless_ok _ aB.op) fun eQ eR w hm => gN rfl (gM rfl (gsn 119 rfl (fun cc => ?_) fun cc => ?_)))))
       ·exact gO rfl (gO rfl (gO rfl (gO rfl (gKt rfl (gE (gz hm [2, 3, 4, 5, 6, 7, 8, 9, 10, 11, 0, 1, 12] rfl))))))
       exact gF fo_61_2 rfl (gL hm 0 isAgg57 rfl (gY (yU rfl) (gC hm rfl call147 (slices_ContainsFunc_S_int_int_ok _ aB.args aQ (hm.ow_rep 1 rfl) (fun y0 => impl_hoistLoop_1 y0 aG.2.1) (.func (.func 165) #[] #[(pV aR)]) (fun w y0 r hB hq => ⟨165, [(pV aR)], rfl, call165, impl_hoistLoop_1_ok w y0 aG.2.1 aH (rep_later (hm.owm_rep 10 rfl) hB) aR (hm.blk_later 9 rfl hB) r hq⟩)) fun eS eT w hm => gKf rfl (gE (gz hm [2, 3, 4, 5, 6, 7, 8, 9, 10, 11, 0, 1, 12] rfl)))))
      repeat clear hm
      intro b7 w hm
      refine gs 124 rfl (fun cd => ?_) fun cd => ?_
      ·refine gct rfl (gS (gR (gM rfl (gY (yn (hm.blk_at 10 rfl) isAgg61 sizeOf61 rfl) (gf rfl (fun a hf => e_build (vs := #[(0, (.agg #[nV aB.op, nV aB.to, aQ, nV aB.n_]))]) (cs := [nV aB.op, nV aB.to, aQ, nV aB.n_]) et_56 hf hm rfl rfl (by kernel_rfl) rfl rfl) ?_)))))
       rintro _ w ⟨b8, rfl, hm⟩
       replace hm := hm.els_nil (α := Ins_)
       replace hm : Mem w0 ak _ [els [] ([] : List Ins_), blk b8 [nV aB.op, nV aB.to, aQ, nV aB.n_] 61, blk bp0 [nV c_.params, nV c_.regs, sV aL aM c_.blocks.length aD] 44, holeE aL aM c_.blocks.length aD (aG.1 : List Block_) (aX).toNat [aO, sV aS aT aA.ins.length aN, nV aA.jump, nV aA.on, aP], ow [aO] aA.phis, drnS (sV aS aT aA.ins.length aN) (aA.ins : List Ins_) (ac), ow [aP] aA.next_, ow [.slice aJ aC.length aK] aC, ow [.slice aZ aE.length aV] aE, blk aR [aH] 110, owm aH aG.2.1, ow [ae] aG.2.2.2, blk ah [nV aB.op, nV aB.to, aQ, nV aB.n_] 61, ow [nV aB.op, nV aB.to, aQ, nV aB.n_] (aB : Ins_), ow [sV aa ab aI.length aW] aI] := mk_Ins_ aB.op aB.to aB.n_ hm 13 rfl
       replace hm := (hm.els_cons 0 13 (by decide) rfl rfl).pk (L' := [els [nV aB.op, nV aB.to, aQ, nV aB.n_] ([aB] : List Ins_), blk b8 [nV aB.op, nV aB.to, aQ, nV aB.n_] 61, blk bp0 [nV c_.params, nV c_.regs, sV aL aM c_.blocks.length aD] 44, holeE aL aM c_.blocks.length aD (aG.1 : List Block_) (aX).toNat [aO, sV aS aT aA.ins.length aN, nV aA.jump, nV aA.on, aP], ow [aO] aA.phis, drnS (sV aS aT aA.ins.length aN) (aA.ins : List Ins_) (ac), ow [aP] aA.next_, ow [.slice aJ aC.length aK] aC, ow [.slice aZ aE.length aV] aE, blk aR [aH] 110, owm aH aG.2.1, ow [ae] aG.2.2.2, blk ah [nV aB.op, nV aB.to, aQ, nV aB.n_] 61, ow [sV aa ab aI.length aW] aI]) [0, 1, 2, 3, 4, 5, 6, 7, 8, 9, 10, 11, 12, 14] rfl rfl
       replace hm := (hm.lit_els 1 0 (by decide) rfl rfl rfl rfl).pk (L' := [ow [sV b8 0 1 1] ([aB] : List Ins_), blk bp0 [nV c_.params, nV c_.regs, sV aL aM c_.blocks.length aD] 44, holeE aL aM c_.blocks.length aD (aG.1 : List Block_) (aX).toNat [aO, sV aS aT aA.ins.length aN, nV aA.jump, nV aA.on, aP], ow [aO] aA.phis, drnS (sV aS aT aA.ins.length aN) (aA.ins : List Ins_) (ac), ow [aP] aA.next_, ow [.slice aJ aC.length aK] aC, ow [.slice aZ aE.length aV] aE, blk aR [aH] 110, owm aH aG.2.1, ow [ae] aG.2.2.2, blk ah [nV aB.op, nV aB.to, aQ, nV aB.n_] 61, ow [sV aa ab aI.length aW] aI]) [1, 2, 3, 4, 5, 6, 7, 8, 9, 10, 11, 12, 13] rfl rfl
       refine gb fun eU ce => ?_
       obtain ⟨cf, cg⟩ := appM_some.1 ce
       replace hm := (hm.both 10 0 (by decide) rfl rfl).pk (L' := [blk bp0 [nV c_.params, nV c_.regs, sV aL aM c_.blocks.length aD] 44, holeE aL aM c_.blocks.length aD (aG.1 : List Block_) (aX).toNat [aO, sV aS aT aA.ins.length aN, nV aA.jump, nV aA.on, aP], ow [aO] aA.phis, drnS (sV aS aT aA.ins.length aN) (aA.ins : List Ins_) (ac), ow [aP] aA.next_, ow [.slice aJ aC.length aK] aC, ow [.slice aZ aE.length aV] aE, blk aR [aH] 110, owm aH aG.2.1, both (ow [ae] aG.2.2.2) (ow [sV b8 0 1 1] ([aB] : List Ins_)), blk ah [nV aB.op, nV aB.to, aQ, nV aB.n_] 61, ow [sV aa ab aI.length aW] aI]) [1, 2, 3, 4, 5, 6, 7, 8, 9, 10, 11, 12] rfl rfl
       refine gf rfl (fun a hf => e_appendD (xs := aG.2.2.2) (ys := ([aB] : List Ins_)) 9 et_56 hf hm rfl rfl rfl rfl cf) ?_
       rintro ci w hm
       rw [cg] at hm
       exact gA rfl (gE (gXt (gHh (gZ fun a hf => ⟨ci, hf.sb rfl, hm.pk [0, 1, 2, 3, 4, 5, 6, 7, 8, 9, 11] rfl rfl⟩))))
      refine gcf rfl (gSk (gS (gR (gL hm 7 isAgg110 rfl (gF fo_61_1 rfl (gL hm 10 isAgg3 rfl (gf0 rfl (fun a hf => e_insM (β := Bool) (key := aB.to) (u := false) (b := false) 8 underlying3 underlying110 hf hm rfl rfl rfl rfl rfl) ?_)))))))
      rintro _ w hm
      refine gA rfl (gE (gS (gg fun am cj bp => gg fun aF cB cC => gb fun eV b9 => ?_)))
      replace b9 := neI_some b9 bo cB
      obtain ⟨af, ai, ag, hm⟩ := pinb_Block_ hm 1 rfl cC b9
      replace hm : Mem w0 ak _ [ow [ag] aF.next_, ow [ai] aF.ins, ow [af] aF.phis, blk bp0 [nV c_.params, nV c_.regs, sV aL aM c_.blocks.length aD] 44, hole2E aL aM c_.blocks.length aD (aG.1 : List Block_) (aX).toNat [aO, sV aS aT aA.ins.length aN, nV aA.jump, nV aA.on, aP] (am).toNat [af, ai, nV aF.jump, nV aF.on, ag], ow [aO] aA.phis, drnS (sV aS aT aA.ins.length aN) (aA.ins : List Ins_) (ac), ow [aP] aA.next_, ow [.slice aJ aC.length aK] aC, ow [.slice aZ aE.length aV] aE, blk aR [aH] 110, owm aH (MapS.ins aG.2.1 aB.to false), ow [ae] aG.2.2.2, blk ah [nV aB.op, nV aB.to, aQ, nV aB.n_] 61, ow [aQ] aB.args, ow [sV aa ab aI.length aW] aI] := hm
      refine gW (.p 0 (.p 1 (.p 2 (.p 4 (.p 5 (.q 3 (.e 6 (.p 7 (.p 8 .fin)) .nil))))))) [6] [0, 1, 2, 4, 5, 7, 8] hm [0, 1, 2, 3, 4, 5, 6, 7, 8, 9, 10, 11, 12, 13, 14, 15] [ow [ag] aF.next_, ow [ai] aF.ins, ow [af] aF.phis, blk bp0 [nV c_.params, nV c_.regs, sV aL aM c_.blocks.length aD] 44, hole2E aL aM c_.blocks.length aD (aG.1 : List Block_) (aX).toNat [aO, sV aS aT aA.ins.length aN, nV aA.jump, nV aA.on, aP] (am).toNat [af, ai, nV aF.jump, nV aF.on, ag], ow [aO] aA.phis, drnS (sV aS aT aA.ins.length aN) (aA.ins : List Ins_) (ac), ow [aP] aA.next_, ow [.slice aJ aC.length aK] aC, ow [.slice aZ aE.length aV] aE, blk aR [aH] 110, owm aH (MapS.ins aG.2.1 aB.to false), ow [ae] aG.2.2.2, blk ah [nV aB.op, nV aB.to, aQ, nV aB.n_] 61, ow [aQ] aB.args, ow [sV aa ab aI.length aW] aI] rfl mxo (by kernel_rfl) (fun _ _ _ h => h.2) fun w hm hS => tP rfl (fun w => yM rfl) (tP rfl (fun w => yG rfl (y_nilptr rfl rfl)) (tP rfl (fun w => yF fo_44_2 rfl) (tP rfl (fun w => yM rfl) ?_)))
      obtain ⟨ao, ap, eW, he⟩ := idx_form (hm.ow_rep 9 rfl) bp
      obtain ⟨rfl, _, rfl⟩ := sl3 he
      refine tP rfl (fun w => yI st_57 cj (idx_lt bp) rfl) (tQ rfl hS (fun w hm => yL hm 3 isAgg42 rfl) (tO (tY rfl (yl isAgg3 ((flat_cells (cs := [nV am]) (hm.ow_rep 9 rfl) bp rfl).cell (j := 0) rfl) rfl) (tAs hS ?_))))
      have hL4_2 := hm.hole2E_len 4 rfl
      refine tP rfl (fun w => yI st_42 cB (idx_lt2 cC hL4_2) rfl) (tP rfl (fun w => yA rfl) (tE ?_))
      replace hm : Mem w0 ak _ [ow [ag] aF.next_, ow [ai] aF.ins, ow [af] aF.phis, blk bp0 [nV c_.params, nV c_.regs, sV aL aM c_.blocks.length aD] 44, hole2E aL aM c_.blocks.length aD (aG.1 : List Block_) (aX).toNat [aO, sV aS aT aA.ins.length aN, nV aA.jump, nV aA.on, aP] (am).toNat [af, ai, nV aF.jump, nV aF.on, ag], ow [aO] aA.phis, drnS (sV aS aT aA.ins.length aN) (aA.ins : List Ins_) (ac), ow [aP] aA.next_, ow [.slice aJ aC.length aK] aC, ow [sV ao ap aE.length aV] aE, blk aR [aH] 110, owm aH (MapS.ins aG.2.1 aB.to false), ow [ae] aG.2.2.2, blk ah [nV aB.op, nV aB.to, aQ, nV aB.n_] 61, ow [aQ] aB.args, ow [sV aa ab aI.length aW] aI] := hm
      refine gW (.p 0 (.p 1 (.p 2 (.p 3 (.q 4 (.e 5 (.e 6 (.e 7 (.p 8 (.p 9 (.e 10 .fin .nil))) .nil) .nil) .nil)))))) [5, 6] [0, 1, 2, 3, 8, 9] hm [0, 1, 2, 3, 4, 5, 6, 7, 8, 9, 10, 11, 12, 13, 15] [ow [ag] aF.next_, ow [ai] aF.ins, ow [af] aF.phis, blk bp0 [nV c_.params, nV c_.regs, sV aL aM c_.blocks.length aD] 44, hole2E aL aM c_.blocks.length aD (aG.1 : List Block_) (aX).toNat [aO, sV aS aT aA.ins.length aN, nV aA.jump, nV aA.on, aP] (am).toNat [af, ai, nV aF.jump, nV aF.on, ag], ow [aO] aA.phis, drnS (sV aS aT aA.ins.length aN) (aA.ins : List Ins_) (ac), ow [aP] aA.next_, ow [.slice aJ aC.length aK] aC, ow [sV ao ap aE.length aV] aE, blk aR [aH] 110, owm aH (MapS.ins aG.2.1 aB.to false), ow [ae] aG.2.2.2, blk ah [nV aB.op, nV aB.to, aQ, nV aB.n_] 61, ow [sV aa ab aI.length aW] aI] rfl mxo (by kernel_rfl) (fun _ _ _ h => h.2) fun w hm hS => tP rfl (fun w => yM rfl) (tP rfl (fun w => yM rfl) (tP rfl (fun w => yG rfl (y_nilptr rfl rfl)) (tP rfl (fun w => yF fo_59_1 rfl) (tQ rfl hS (fun w hm => yl isAgg56 ((hm.hole2E_at2 4 rfl).cell (j := 1) rfl) rfl) (tO (tY rfl (yn (hm.blk_at 13 rfl) isAgg61 sizeOf61 rfl) (tAs hS (tO (tf rfl rfl (fun a hf => e_build (vs := #[(0, (.agg #[nV aB.op, nV aB.to, aQ, nV aB.n_]))]) (cs := [nV aB.op, nV aB.to, aQ, nV aB.n_]) et_56 hf hm rfl rfl (by kernel_rfl) rfl rfl) ?_)))))))))
      rintro _ w ⟨ba, rfl, hm⟩
      replace hm := hm.els_nil (α := Ins_)
      replace hm : Mem w0 ak _ [els [] ([] : List Ins_), blk ba [nV aB.op, nV aB.to, aQ, nV aB.n_] 61, ow [ag] aF.next_, ow [ai] aF.ins, ow [af] aF.phis, blk bp0 [nV c_.params, nV c_.regs, sV aL aM c_.blocks.length aD] 44, hole2E aL aM c_.blocks.length aD (aG.1 : List Block_) (aX).toNat [aO, sV aS aT aA.ins.length aN, nV aA.jump, nV aA.on, aP] (am).toNat [af, ai, nV aF.jump, nV aF.on, ag], ow [aO] aA.phis, drnS (sV aS aT aA.ins.length aN) (aA.ins : List Ins_) (ac), ow [aP] aA.next_, ow [.slice aJ aC.length aK] aC, ow [sV ao ap aE.length aV] aE, blk aR [aH] 110, owm aH (MapS.ins aG.2.1 aB.to false), ow [ae] aG.2.2.2, blk ah [nV aB.op, nV aB.to, aQ, nV aB.n_] 61, ow [nV aB.op, nV aB.to, aQ, nV aB.n_] (aB : Ins_), ow [sV aa ab aI.length aW] aI] := mk_Ins_ aB.op aB.to aB.n_ hm 16 rfl
      replace hm := (hm.els_cons 0 16 (by decide) rfl rfl).pk (L' := [els [nV aB.op, nV aB.to, aQ, nV aB.n_] ([aB] : List Ins_), blk ba [nV aB.op, nV aB.to, aQ, nV aB.n_] 61, ow [ag] aF.next_, ow [ai] aF.ins, ow [af] aF.phis, blk bp0 [nV c_.params, nV c_.regs, sV aL aM c_.blocks.length aD] 44, hole2E aL aM c_.blocks.length aD (aG.1 : List Block_) (aX).toNat [aO, sV aS aT aA.ins.length aN, nV aA.jump, nV aA.on, aP] (am).toNat [af, ai, nV aF.jump, nV aF.on, ag], ow [aO] aA.phis, drnS (sV aS aT aA.ins.length aN) (aA.ins : List Ins_) (ac), ow [aP] aA.next_, ow [.slice aJ aC.length aK] aC, ow [sV ao ap aE.length aV] aE, blk aR [aH] 110, owm aH (MapS.ins aG.2.1 aB.to false), ow [ae] aG.2.2.2, blk ah [nV aB.op, nV aB.to, aQ, nV aB.n_] 61, ow [sV aa ab aI.length aW] aI]) [0, 1, 2, 3, 4, 5, 6, 7, 8, 9, 10, 11, 12, 13, 14, 15, 17] rfl rfl
      replace hm := (hm.lit_els 1 0 (by decide) rfl rfl rfl rfl).pk (L' := [ow [sV ba 0 1 1] ([aB] : List Ins_), ow [ag] aF.next_, ow [ai] aF.ins, ow [af] aF.phis, blk bp0 [nV c_.params, nV c_.regs, sV aL aM c_.blocks.length aD] 44, hole2E aL aM c_.blocks.length aD (aG.1 : List Block_) (aX).toNat [aO, sV aS aT aA.ins.length aN, nV aA.jump, nV aA.on, aP] (am).toNat [af, ai, nV aF.jump, nV aF.on, ag], ow [aO] aA.phis, drnS (sV aS aT aA.ins.length aN) (aA.ins : List Ins_) (ac), ow [aP] aA.next_, ow [.slice aJ aC.length aK] aC, ow [sV ao ap aE.length aV] aE, blk aR [aH] 110, owm aH (MapS.ins aG.2.1 aB.to false), ow [ae] aG.2.2.2, blk ah [nV aB.op, nV aB.to, aQ, nV aB.n_] 61, ow [sV aa ab aI.length aW] aI]) [1, 2, 3, 4, 5, 6, 7, 8, 9, 10, 11, 12, 13, 14, 15, 16] rfl rfl
      refine tAk hm [1, 2, 3, 4, 5, 6, 7, 8, 9, 10, 11, 12, 13, 14, 15] rfl fun hS => tO (gb fun bA ck => ?_)
      obtain ⟨cl, cm⟩ := appM_some.1 ck
      replace hm := (hm.both 2 0 (by decide) rfl rfl).pk (L' := [ow [ag] aF.next_, both (ow [ai] aF.ins) (ow [sV ba 0 1 1] ([aB] : List Ins_)), ow [af] aF.phis, blk bp0 [nV c_.params, nV c_.regs, sV aL aM c_.blocks.length aD] 44, hole2E aL aM c_.blocks.length aD (aG.1 : List Block_) (aX).toNat [aO, sV aS aT aA.ins.length aN, nV aA.jump, nV aA.on, aP] (am).toNat [af, ai, nV aF.jump, nV aF.on, ag], ow [aO] aA.phis, drnS (sV aS aT aA.ins.length aN) (aA.ins : List Ins_) (ac), ow [aP] aA.next_, ow [.slice aJ aC.length aK] aC, ow [sV ao ap aE.length aV] aE, blk aR [aH] 110, owm aH (MapS.ins aG.2.1 aB.to false), ow [ae] aG.2.2.2, blk ah [nV aB.op, nV aB.to, aQ, nV aB.n_] 61, ow [sV aa ab aI.length aW] aI]) [1, 2, 3, 4, 5, 6, 7, 8, 9, 10, 11, 12, 13, 14, 15] rfl rfl
      refine tf rfl rfl (fun a hf => e_appendD (xs := aF.ins) (ys := ([aB] : List Ins_)) 1 et_56 hf hm rfl rfl rfl rfl cl) ?_
      rintro au w hm
      rw [cm] at hm
      refine tAn rfl (tP rfl (fun w => yG rfl (y_nilptr rfl rfl)) (tP rfl (fun w => yF fo_59_1 rfl) (tO ?_)))
      have cD : ∀ u ∈ ([au] : List Value), u.oneCell' = true := (one_cons (rep_one (hm.ow_rep 1 rfl)) one_nil)
      replace hm : Mem w0 ak _ [ow [ag] aF.next_, ow [au] bA, ow [af] aF.phis, blk bp0 [nV c_.params, nV c_.regs, sV aL aM c_.blocks.length aD] 44, hole2E aL aM c_.blocks.length aD (aG.1 : List Block_) (am).toNat [af, ai, nV aF.jump, nV aF.on, ag] (aX).toNat [aO, sV aS aT aA.ins.length aN, nV aA.jump, nV aA.on, aP], ow [aO] aA.phis, drnS (sV aS aT aA.ins.length aN) (aA.ins : List Ins_) (ac), ow [aP] aA.next_, ow [.slice aJ aC.length aK] aC, ow [sV ao ap aE.length aV] aE, blk aR [aH] 110, owm aH (MapS.ins aG.2.1 aB.to false), ow [ae] aG.2.2.2, blk ah [nV aB.op, nV aB.to, aQ, nV aB.n_] 61, ow [sV aa ab aI.length aW] aI] := hm.hole2E_swap 4 rfl
      refine tf0 rfl rfl (fun a hf => e_storeH2 (j := 1) (vs := [au]) 4 hf hm rfl rfl rfl sizeOf56 rfl rfl (cells_one (cD _ (List.mem_singleton.2 rfl))) cD rfl) ?_
      rintro _ w hm
      replace hm : Mem w0 ak _ [ow [ag] aF.next_, ow [au] bA, ow [af] aF.phis, blk bp0 [nV c_.params, nV c_.regs, sV aL aM c_.blocks.length aD] 44, hole2E aL aM c_.blocks.length aD (aG.1 : List Block_) (am).toNat [af, au, nV aF.jump, nV aF.on, ag] (aX).toNat [aO, sV aS aT aA.ins.length aN, nV aA.jump, nV aA.on, aP], ow [aO] aA.phis, drnS (sV aS aT aA.ins.length aN) (aA.ins : List Ins_) (ac), ow [aP] aA.next_, ow [.slice aJ aC.length aK] aC, ow [sV ao ap aE.length aV] aE, blk aR [aH] 110, owm aH (MapS.ins aG.2.1 aB.to false), ow [ae] aG.2.2.2, blk ah [nV aB.op, nV aB.to, aQ, nV aB.n_] 61, ow [sV aa ab aI.length aW] aI] := hm
      refine tAn rfl (tE ?_)
      obtain ⟨cn, co⟩ := hm.hole2E_hx2 4 rfl bz
      replace hm : Mem w0 ak _ [ow [ag] aF.next_, ow [au] bA, ow [af] aF.phis, blk bp0 [nV c_.params, nV c_.regs, sV aL aM c_.blocks.length aD] 44, hole2E aL aM c_.blocks.length aD (aG.1 : List Block_) (aX).toNat [aO, sV aS aT aA.ins.length aN, nV aA.jump, nV aA.on, aP] (am).toNat [af, au, nV aF.jump, nV aF.on, ag], ow [aO] aA.phis, drnS (sV aS aT aA.ins.length aN) (aA.ins : List Ins_) (ac), ow [aP] aA.next_, ow [.slice aJ aC.length aK] aC, ow [sV ao ap aE.length aV] aE, blk aR [aH] 110, owm aH (MapS.ins aG.2.1 aB.to false), ow [ae] aG.2.2.2, blk ah [nV aB.op, nV aB.to, aQ, nV aB.n_] 61, ow [sV aa ab aI.length aW] aI] := hm.hole2E_swap 4 rfl
      replace hm := (mk_Block_ aF.jump aF.on hm 2 1 0 rfl).pk (L' := [ow [af, au, nV aF.jump, nV aF.on, ag] ((⟨aF.phis, bA, aF.jump, aF.on, aF.next_⟩ : Block_) : Block_), blk bp0 [nV c_.params, nV c_.regs, sV aL aM c_.blocks.length aD] 44, hole2E aL aM c_.blocks.length aD (aG.1 : List Block_) (aX).toNat [aO, sV aS aT aA.ins.length aN, nV aA.jump, nV aA.on, aP] (am).toNat [af, au, nV aF.jump, nV aF.on, ag], ow [aO] aA.phis, drnS (sV aS aT aA.ins.length aN) (aA.ins : List Ins_) (ac), ow [aP] aA.next_, ow [.slice aJ aC.length aK] aC, ow [sV ao ap aE.length aV] aE, blk aR [aH] 110, owm aH (MapS.ins aG.2.1 aB.to false), ow [ae] aG.2.2.2, blk ah [nV aB.op, nV aB.to, aQ, nV aB.n_] 61, ow [sV aa ab aI.length aW] aI]) [2, 3, 4, 5, 6, 7, 8, 9, 10, 11, 12, 13, 14] rfl rfl
      replace hm := (hm.shut2E (y := ((⟨aF.phis, bA, aF.jump, aF.on, aF.next_⟩ : Block_) : Block_)) 2 0 (by decide) rfl rfl).pk (L' := [blk bp0 [nV c_.params, nV c_.regs, sV aL aM c_.blocks.length aD] 44, holeE aL aM c_.blocks.length aD ((aG.1.set (am).toNat (⟨aF.phis, bA, aF.jump, aF.on, aF.next_⟩ : Block_)) : List Block_) (aX).toNat [aO, sV aS aT aA.ins.length aN, nV aA.jump, nV aA.on, aP], ow [aO] aA.phis, drnS (sV aS aT aA.ins.length aN) (aA.ins : List Ins_) (ac), ow [aP] aA.next_, ow [.slice aJ aC.length aK] aC, ow [sV ao ap aE.length aV] aE, blk aR [aH] 110, owm aH (MapS.ins aG.2.1 aB.to false), ow [ae] aG.2.2.2, blk ah [nV aB.op, nV aB.to, aQ, nV aB.n_] 61, ow [sV aa ab aI.length aW] aI]) [1, 2, 3, 4, 5, 6, 7, 8, 9, 10, 11, 12] rfl rfl
      have eX : ((aG.1.set (am).toNat (⟨aF.phis, bA, aF.jump, aF.on, aF.next_⟩ : Block_)) : List Block_)[(aX).toNat]? = some cn := (List.getElem?_set_ne (Ne.symm (Ne.symm (Ne.symm b9)))).trans co
      exact gZ fun a hf => ⟨ae, hf.sb rfl, hm.pk [0, 1, 2, 3, 4, 5, 6, 7, 8, 9, 11] rfl rfl⟩
     repeat clear hm
     rintro bF a w ⟨bX, hf, hm⟩
     refine gv hf (gR (gP (by omega) (by omega) rfl (gM rfl (gE ?_))))
     replace hm := hm.drnS_next 3 rfl
     exact gZe fun a hf => ⟨bX, hf.sb rfl, hm.pk [0, 1, 2, 3, 4, 5, 6, 7, 8, 9, 10] rfl rfl⟩
    repeat clear hm
    rintro bq aq a w ⟨bG, hf, hm⟩ eY eZ
    refine gv hf (gS (gR (gB rfl (gE (gS (go _ 112 rfl (decide_eq_false (by omega)) (gcf rfl (gXt (gHh (gR (gM rfl (gY (yG rfl (y_nilptr rfl rfl)) (gF fo_44_2 rfl (gL hm 0 isAgg42 rfl (gM rfl (gM rfl ?_))))))))))))))))
    have hL2_2 := hm.holeE_len 1 rfl
    obtain ⟨ea, cE⟩ := hm.holeE_hx 1 rfl bz
    refine gI st_42 bo (idx_lt2 cE hL2_2) rfl (gF fo_59_1 rfl ?_)
    have cF : ∀ u ∈ ([bG] : List Value), u.oneCell' = true := (one_cons (rep_one (hm.ow_rep 9 rfl)) one_nil)
    refine gf0 rfl (fun a hf => e_storeH (j := 1) (vs := [bG]) 1 hf hm rfl rfl rfl sizeOf56 rfl rfl (cells_one (cF _ (List.mem_singleton.2 rfl))) cF rfl) ?_
    rintro _ w hm
    replace hm : Mem w0 ak _ [blk bp0 [nV c_.params, nV c_.regs, sV aL aM c_.blocks.length aD] 44, holeE aL aM c_.blocks.length aD (aq.1 : List Block_) (aX).toNat [aO, bG, nV aA.jump, nV aA.on, aP], ow [aO] aA.phis, drnV (.slice ar aA.ins.length aN) (aA.ins : List Ins_) (bq), ow [aP] aA.next_, ow [.slice aJ aC.length aK] aC, ow [.slice aZ aE.length aV] aE, blk aR [aH] 110, owm aH aq.2.1, ow [bG] aq.2.2.2, ow [sV aa ab aI.length aW] aI] := hm
    refine gE ?_
    replace hm := (mk_Block_ aA.jump aA.on hm 2 9 4 rfl).pk (L' := [blk bp0 [nV c_.params, nV c_.regs, sV aL aM c_.blocks.length aD] 44, holeE aL aM c_.blocks.length aD (aq.1 : List Block_) (aX).toNat [aO, bG, nV aA.jump, nV aA.on, aP], ow [aO, bG, nV aA.jump, nV aA.on, aP] ((⟨aA.phis, aq.2.2.2, aA.jump, aA.on, aA.next_⟩ : Block_) : Block_), drnV (.slice ar aA.ins.length aN) (aA.ins : List Ins_) (bq), ow [.slice aJ aC.length aK] aC, ow [.slice aZ aE.length aV] aE, blk aR [aH] 110, owm aH aq.2.1, ow [sV aa ab aI.length aW] aI]) [0, 1, 2, 3, 5, 6, 7, 8, 10] rfl rfl
    replace hm := (hm.shutE (y := ((⟨aA.phis, aq.2.2.2, aA.jump, aA.on, aA.next_⟩ : Block_) : Block_)) 1 2 (by decide) rfl rfl).pk (L' := [blk bp0 [nV c_.params, nV c_.regs, sV aL aM c_.blocks.length aD] 44, ow [sV aL aM c_.blocks.length aD] (aq.1.set (aX).toNat (⟨aA.phis, aq.2.2.2, aA.jump, aA.on, aA.next_⟩ : Block_)), drnV (.slice ar aA.ins.length aN) (aA.ins : List Ins_) (bq), ow [.slice aJ aC.length aK] aC, ow [.slice aZ aE.length aV] aE, blk aR [aH] 110, owm aH aq.2.1, ow [sV aa ab aI.length aW] aI]) [0, 1, 3, 4, 5, 6, 7, 8] rfl rfl
    have eb := List.getElem?_set_self (a := ((⟨aA.phis, aq.2.2.2, aA.jump, aA.on, aA.next_⟩ : Block_) : Block_)) (idx_lt cE)
    exact gz hm [0, 1, 3, 4, 5, 6, 7] rfl
   repeat clear hm
   intro bE w hm
   exact gR (gP (by omega) (by omega) rfl (gM rfl (gE (gze hm [0, 1, 2, 3, 4, 5, 6] rfl))))
  repeat clear hm
  intro ec ed w hm ee ef
  refine gS (gR (gB rfl (gE (gS (go _ 95 rfl (decide_eq_false (by omega)) (gcf rfl (gXt (gHh (gS (gR (gM rfl (gA rfl (gE (gRt ?_))))))))))))))
  replace hm := hm.thaw bK
  exact gr1 results106 rfl ⟨.slice aY c_.blocks.length aD, rfl, hm.pk [0, 1] rfl rfl⟩
theorem impl_hoisted_ok (w0 : World) (c_ : Code_) (v1 : Value) (h1 : GT.rep (hp w0) [v1] c_.blocks) :
    ConM Tryz.prog 58 [(.agg #[nV c_.params, nV c_.regs, v1])] w0 (impl_hoisted c_) fun r v w' => ∃ (x1 : Value), v = (.agg #[nV r.params, nV r.regs, x1]) ∧ Mem w0 (hp w0) w' [ow [x1] r.blocks] := by
  unfold impl_hoisted
  refine gcon func58 rfl fun r => ?_
  have hm := Mem.start w0
  refine gS (gR (gBx hm rfl fun ay w hm => gAl hm zeroValue44 rfl fun aC w hm => gE (gS (gJg (fun aA a w => ∃ (aL : Heap) (aB : Nat) (aW : Value) (aD : Nat) (aK aX aY : Value), Heap.le (hp w0) aL ∧ GT.rep aL [aK] (aA.2.2.2.2.2.1) ∧ St 28 [(2, (pV aC)), (3, (pV aB)), (4, (pV aD))] w0 aL [blk aC [nV 0, nV 0, .slice none 0 0] 44, blk aB [nV aA.1, nV aA.2.1, aW] 44, ow [aW] aA.2.2.1, blk aD [nV aA.2.2.2.1, nV aA.2.2.2.2.1, aK, aX, aY] 166, ow [aX] aA.2.2.2.2.2.2.1, ow [aY] aA.2.2.2.2.2.2.2] a w) (fun aA => ?_) ?_))))
  ·refine gW (.q 0 (.q 2 (.e 1 (.e 3 (.e 4 (.e 5 (.p 6 .fin) .nil) .nil) (.e 4 (.e 3 (.e 5 (.p 6 .fin) .nil) .nil) .nil)) (.e 4 (.e 1 (.e 3 (.e 5 (.p 6 .fin) .nil) .nil) .nil) .nil)))) [0, 1, 2, 4] [6] hm [0, 1] [blk aC [nV 0, nV 0, .slice none 0 0] 44, blk ay [nV c_.params, nV c_.regs, v1] 44] rfl mxo (by kernel_rfl) (fun _ _ _ h => h.2) fun w hm hS => tQ rfl hS (fun w hm => yn (hm.blk_at 1 rfl) isAgg44 sizeOf44 rfl) (tQ rfl hS (fun w hm => yn (hm.blk_at 1 rfl) isAgg44 sizeOf44 rfl) (gb fun bg an => gb fun bh aZ => gb fun bi aM => tMo ?_ ?_))
   ·refine tf rfl rfl (fun a hf => e_call hf rfl call73 rfl (impl_cloneCode_ok _ c_ v1 (hm.now h1) _ an)) ?_
    rintro bj w ⟨ao, rfl, hB⟩
    replace hm := hm.give hB; clear hB
    refine tAk hm [1, 2] rfl fun hS => tMo ?_ ?_
    ·refine tf rfl rfl (fun a hf => e_call hf rfl call104 rfl (impl_domsOf_ok _ _ hm.lez c_ v1 h1  _ aZ)) ?_
     rintro bk w aa
     rcases aa with ⟨ab, -, -⟩ | ⟨bl, ab, aa⟩
     ·cases ab.symm.trans aM
     obtain rfl := Option.some.inj (aM.symm.trans ab)
     obtain ⟨az, bA, bB, bC, bD, rfl, ac, bE, hB⟩ := aa
     replace hm := Mem.giveA hm ac hB; clear hB
     refine tAn rfl (tO (tf rfl rfl (fun a hf => e_alloc hm zeroValue44 rfl rfl) ?_))
     rintro _ w ⟨bF, rfl, hm⟩
     refine tAk (hm.thaw ac) [5, 6] rfl fun hS => tO (tf0 rfl rfl (fun a hf => e_storeN 0 hf hm rfl sizeOf44 rfl rfl rfl (one_cons rfl (one_cons rfl (one_cons (rep_one (hm.ow_rep 4 rfl)) one_nil))) rfl rfl) ?_)
     rintro _ w hm
     exact tAn rfl (tP rfl (fun w => yA rfl) (tE (gZ fun a hf => ⟨bD, bF, ao, az, bA, bB, bC, ac, bE, hf.sb rfl, hm.pk [5, 0, 4, 1, 2, 3] rfl rfl⟩)))
    refine tO (tf rfl rfl (fun a hf => e_alloc hm zeroValue44 rfl rfl) ?_)
    rintro _ w ⟨bG, rfl, hm⟩
    refine tAk hm [2, 3] rfl fun hS => tO (tf rfl rfl (fun a hf => e_call hf rfl call104 rfl (impl_domsOf_ok _ _ hm.lez c_ v1 h1  _ aZ)) ?_)
    rintro bm w ae
    rcases ae with ⟨af, -, -⟩ | ⟨bo, af, ae⟩
    ·cases af.symm.trans aM
    obtain rfl := Option.some.inj (aM.symm.trans af)
    obtain ⟨bH, bJ, bK, bL, bM, rfl, ap, bN, hB⟩ := ae
    replace hm := Mem.giveA hm ap hB; clear hB
    refine tAn rfl (tO (tf0 rfl rfl (fun a hf => e_storeN 3 hf hm rfl sizeOf44 rfl rfl rfl (one_cons rfl (one_cons rfl (one_cons (rep_one (hm.ow_rep 4 rfl)) one_nil))) rfl rfl) ?_))
    rintro _ w hm
    exact tAn rfl (tP rfl (fun w => yA rfl) (tE (gZ fun a hf => ⟨bM, bG, ao, bH, bJ, bK, bL, ap, bN, hf.sb rfl, hm.pk [5, 3, 4, 0, 1, 2] rfl rfl⟩)))
   refine tO (tf rfl rfl (fun a hf => e_alloc hm zeroValue44 rfl rfl) ?_)
   rintro _ w ⟨bO, rfl, hm⟩
   refine tAk hm [1, 2] rfl fun hS => tO (tf rfl rfl (fun a hf => e_call hf rfl call73 rfl (impl_cloneCode_ok _ c_ v1 (hm.now h1) _ an)) ?_)
   rintro bp w ⟨bP, rfl, hB⟩
   replace hm := hm.give hB; clear hB
   refine tAk hm [2, 3] rfl fun hS => tO (tf rfl rfl (fun a hf => e_call hf rfl call104 rfl (impl_domsOf_ok _ _ hm.lez c_ v1 h1  _ aZ)) ?_)
   rintro bq w ag
   rcases ag with ⟨ah, -, -⟩ | ⟨br, ah, ag⟩
   ·cases ah.symm.trans aM
   obtain rfl := Option.some.inj (aM.symm.trans ah)
   obtain ⟨bQ, bR, bS, bT, bU, rfl, aq, bV, hB⟩ := ag
   replace hm := Mem.giveA hm aq hB; clear hB
   refine tAn rfl (tO (tf0 rfl rfl (fun a hf => e_storeN 4 hf hm rfl sizeOf44 rfl rfl rfl (one_cons rfl (one_cons rfl (one_cons (rep_one (hm.ow_rep 3 rfl)) one_nil))) rfl rfl) ?_))
   rintro _ w hm
   exact tAn rfl (tP rfl (fun w => yA rfl) (tE (gZ fun a hf => ⟨bU, bO, bP, bQ, bR, bS, bT, aq, bV, hf.sb rfl, hm.pk [5, 4, 3, 0, 1, 2] rfl rfl⟩)))
  repeat clear hm
  rintro aA a w ⟨aL, aB, aW, aD, aK, aX, aY, bW, ar, hf, hm⟩
  refine gv hf (gS (gS (gR (gA rfl (gE ?_)))))
  obtain ⟨bX, bY, rfl, bs⟩ := ro_slice (hm.ow_rep 2 rfl)
  obtain ⟨aF, aG, rfl, bt⟩ := ro_slice (hm.ow_rep 4 rfl)
  obtain ⟨aH, aI, rfl, bu⟩ := ro_slice (hm.ow_rep 5 rfl)
  refine gJg (fun aQ a w => ∃ (aS : Value), St 28 [(2, (pV aC)), (3, (pV aB))] w0 aL [blk aC [nV 0, nV 0, .slice none 0 0] 44, blk aB [nV aQ.1, nV aQ.2.1, aS] 44, ow [aS] aQ.2.2] a w) (fun aQ => ?_) ?_
  ·refine gBk (gMg (fun aN a w => ∃ (aT : Value), St 28 [(2, (pV aC)), (3, (pV aB)), (4, (pV aD)), (5, (.bool (aN.2.2.2)))] w0 aL [blk aC [nV 0, nV 0, .slice none 0 0] 44, blk aB [nV aN.1, nV aN.2.1, aT] 44, ow [aT] aN.2.2.1, blk aD [nV aA.2.2.2.1, nV aA.2.2.2.2.1, aK, .slice aF aA.2.2.2.2.2.2.1.length aG, .slice aH aA.2.2.2.2.2.2.2.length aI] 166, ow [.slice aF aA.2.2.2.2.2.2.1.length aG] aA.2.2.2.2.2.2.1, ow [.slice aH aA.2.2.2.2.2.2.2.length aI] aA.2.2.2.2.2.2.2] a w) (fun a hf => ⟨.slice bX aA.2.2.1.length bY, hf.sb rfl, hm.pk [0, 1, 2, 3, 4, 5] rfl rfl⟩) ?_)
   repeat clear hm
   rintro bv bZ aN a w ⟨aT, hf, hm⟩ bw b7
   refine gv hf (gS (gS (gR (gM rfl (gE (gs 12 rfl (fun b8 => ?_) fun b8 => ?_))))))
   ·refine gct rfl (gSk (gBk (gS (gR (gA rfl (gE (gS (gR (gM rfl (gCg rfl call105 (pimpl_doms__heads_ok _ (⟨(⟨aA.2.2.2.1, aA.2.2.2.2.1, aA.2.2.2.2.2.1⟩ : Code_), aA.2.2.2.2.2.2.1, aA.2.2.2.2.2.2.2⟩ : doms) aD aK (hm.now ar) (.slice aF aA.2.2.2.2.2.2.1.length aG) (hm.ow_rep 4 rfl) (.slice aH aA.2.2.2.2.2.2.2.length aI) (hm.ow_rep 5 rfl) (hm.blk_cells 3 rfl).1) ?_))))))))))
    rintro aJ bx bz w ⟨_, rfl, hB⟩
    replace hm := hm.give hB; clear hB
    obtain ⟨au, aR, rfl, cA⟩ := ro_slice (hm.ow_rep 0 rfl)
    refine gY (yV st_57 rfl) (gM rfl (gE ?_))
    obtain ⟨b9, ba, rfl, cB⟩ := ro_slice (hm.ow_rep 3 rfl)
    refine gBk (gNg (fun ai aE a w => ∃ (aO : Value), St 28 [(2, (pV aC)), (3, (pV aB)), (4, (pV aD)), (5, (.bool (aE.2.2.2))), (14, (.slice au aJ.length aR)), (15, (nV ((aJ.length : Int)))), (16, (nV ai))] w0 aL [blk aC [nV 0, nV 0, .slice none 0 0] 44, blk aB [nV aE.1, nV aE.2.1, aO] 44, ow [aO] aE.2.2.1, blk aD [nV aA.2.2.2.1, nV aA.2.2.2.2.1, aK, .slice aF aA.2.2.2.2.2.2.1.length aG, .slice aH aA.2.2.2.2.2.2.2.length aI] 166, ow [.slice aF aA.2.2.2.2.2.2.1.length aG] aA.2.2.2.2.2.2.1, ow [.slice aH aA.2.2.2.2.2.2.2.length aI] aA.2.2.2.2.2.2.2, ow [.slice au aJ.length aR] aJ] a w) (fun a hf => ⟨.slice b9 aN.2.2.1.length ba, hf.sb rfl, hm.pk [1, 2, 3, 4, 5, 6, 0] rfl rfl⟩) ?_ ?_)
    ·repeat clear hm
     rintro _ _ ai aE a w ⟨aO, hf, hm⟩ cC cD cE _
     refine gv hf (gS (gR (gB rfl (gE (gS (go _ 17 rfl (decide_eq_true (by omega)) (gct rfl (gSk (gS (gBk (gS (gR (gg fun aw bb aj => ?_)))))))))))))
     obtain ⟨ak, am, cF, he⟩ := idx_form (hm.ow_rep 6 rfl) aj
     obtain ⟨rfl, _, rfl⟩ := sl3 he
     refine gI st_57 bb (idx_lt aj) rfl (gY (yl isAgg3 ((flat_cells (cs := [nV aw]) (hm.ow_rep 6 rfl) aj rfl).cell (j := 0) rfl) rfl) (gA rfl (gE (gJg (fun aP a w => ∃ (aV : Value), St 28 [(2, (pV aC)), (3, (pV aB)), (4, (pV aD)), (5, (.bool (aP.2.2.2))), (14, (sV ak am aJ.length aR)), (15, (nV ((aJ.length : Int)))), (16, (nV ai))] w0 aL [blk aC [nV 0, nV 0, .slice none 0 0] 44, blk aB [nV aP.1, nV aP.2.1, aV] 44, ow [aV] aP.2.2.1, blk aD [nV aA.2.2.2.1, nV aA.2.2.2.2.1, aK, .slice aF aA.2.2.2.2.2.2.1.length aG, .slice aH aA.2.2.2.2.2.2.2.length aI] 166, ow [.slice aF aA.2.2.2.2.2.2.1.length aG] aA.2.2.2.2.2.2.1, ow [.slice aH aA.2.2.2.2.2.2.2.length aI] aA.2.2.2.2.2.2.2, ow [sV ak am aJ.length aR] aJ] a w) (fun aP => ?_) ?_))))
     ·refine gR (gM rfl (gM rfl ?_))
      obtain ⟨bc, hle, hm1, hsub, bd⟩ := hm.take2 (L1 := [blk aB [nV aE.1, nV aE.2.1, aO] 44, ow [aO] aE.2.2.1]) (L2 := [blk aC [nV 0, nV 0, .slice none 0 0] 44, blk aD [nV aA.2.2.2.1, nV aA.2.2.2.2.1, aK, .slice aF aA.2.2.2.2.2.2.1.length aG, .slice aH aA.2.2.2.2.2.2.2.length aI] 166, ow [.slice aF aA.2.2.2.2.2.2.1.length aG] aA.2.2.2.2.2.2.1, ow [.slice aH aA.2.2.2.2.2.2.2.length aI] aA.2.2.2.2.2.2.2, ow [sV ak am aJ.length aR] aJ]) [1, 2] [0, 3, 4, 5, 6] (by decide) rfl rfl
      refine gCg rfl call106 (impl_hoistLoop_ok _ bc (⟨aE.1, aE.2.1, aE.2.2.1⟩ : Code_) aB aO (⟨(⟨aA.2.2.2.1, aA.2.2.2.2.1, aA.2.2.2.2.2.1⟩ : Code_), aA.2.2.2.2.2.2.1, aA.2.2.2.2.2.2.2⟩ : doms) aD aK (GT.mono hle ar) (.slice aF aA.2.2.2.2.2.2.1.length aG) (fz_ow (hsub 2 _ rfl)) (.slice aH aA.2.2.2.2.2.2.2.length aI) (fz_ow (hsub 3 _ rfl)) (fz_blk (hsub 1 _ rfl)) aw hm1 ) ?_
      rintro cG cH cI w ⟨ax, rfl, hB⟩
      replace hm := bd _ _ hB; clear hB
      refine gM rfl (gs 23 rfl (fun be => ?_) fun be => ?_)
      ·exact gO rfl (gKt rfl (gA rfl (gE (gZ fun a hf => ⟨ax, hf.sb rfl, hm.pk [2, 0, 1, 3, 4, 5, 6] rfl rfl⟩))))
      exact gM rfl (gKf rfl (gA rfl (gE (gZ fun a hf => ⟨ax, hf.sb rfl, hm.pk [2, 0, 1, 3, 4, 5, 6] rfl rfl⟩))))
     repeat clear hm
     rintro aP a w ⟨aV, hf, hm⟩
     exact gv hf (gR (gP (by omega) (by omega) rfl (gM rfl (gE (gZe fun a hf => ⟨aV, hf.sb rfl, hm.pk [0, 1, 2, 3, 4, 5, 6] rfl rfl⟩)))))
    repeat clear hm
    rintro cJ cK a w ⟨bf, hf, hm⟩ cL cM
    exact gv hf (gS (gR (gB rfl (gE (gS (go _ 17 rfl (decide_eq_false (by omega)) (gcf rfl (gXt (gHh (gZe fun a hf => ⟨bf, hf.sb rfl, hm.pk [0, 1, 2, 3, 4, 5] rfl rfl⟩))))))))))
   exact gcf rfl (gXt (gHh (gLp b7 bZ (gZ fun a hf => ⟨aT, hf.sb rfl, hm.pk [0, 1, 2] rfl rfl⟩))))
  repeat clear hm
  rintro aQ a w ⟨aS, hf, hm⟩
  refine gv hf (gS (gR (gY (yn (hm.blk_at 1 rfl) isAgg44 sizeOf44 rfl) (gSN hm 0 sizeOf44 (one_cons rfl (one_cons rfl (one_cons (rep_one (hm.ow_rep 2 rfl)) one_nil))) rfl fun w hm => gE (gRt ?_)))))
  replace hm := hm.thaw bW
  exact grc 0 results58 hm rfl isAgg44 sizeOf44 ⟨aS, rfl, hm.pk [2] rfl rfl⟩
theorem impl_onlyValid_ok (w0 : World) (hz : Heap) (u : Unit_) (v1 : Value) (ok : Bool) (hm0 : Mem w0 hz w0 [ow [v1] u.codes]) :
    ConM Tryz.prog 34 [(.agg #[v1]), (.bool (ok))] w0 (impl_onlyValid u ok) fun r v w' => ∃ (x1 : Value), v = (.tuple #[(.agg #[x1]), (.bool (r.2))]) ∧ Mem w0 hz w' [ow [x1] r.1.codes] := by
  unfold impl_onlyValid
  refine gcon func34 rfl fun r => ?_
  have hm := hm0
  refine gS (gR (gBx hm rfl fun aB w hm => gAl hm zeroValue28 rfl fun aC w hm => gA rfl (gE (gS (gS (gJ hm (fun aA => [(2, (pV aB)), (4, (pV aC)), (12, (.bool (aA)))]) (fun aA => [blk aB [v1] 28, ow [v1] u.codes, blk aC [.slice none 0 0] 28]) (fun aA => ?_) ?_))))))
  ·refine gR (gM rfl (gN rfl (gM rfl (gsn 8 rfl (fun aD => ?_) fun aD => ?_))))
   ·exact gO rfl (gO rfl (gO rfl (gKt rfl (gE (gz hm [1, 2, 0] rfl)))))
   exact gY (yn (hm.blk_at 1 rfl) isAgg28 sizeOf28 rfl) (gC hm rfl call48 (impl_UnitValid_ok _ u v1 (hm.ow_rep 2 rfl)) fun aF aG w hm => gN rfl (gKf rfl (gE (gz hm [1, 2, 0] rfl))))
  repeat clear hm
  intro aA w hm
  refine gs 12 rfl (fun aE => ?_) fun aE => ?_
  ·refine gct rfl (gS (gR (gY (yG rfl (y_build (vs := []) (cs := #[.slice none 0 0]) rfl rfl (by kernel_rfl))) (gSN hm 2 sizeOf28 (one_cons rfl one_nil) rfl fun w hm => gA rfl (gE (gRt ?_))))))
   replace hm := hm.nilow (α := Code_)
   exact grct 3 results34 hm rfl isAgg28 sizeOf28 ⟨.slice none 0 0, rfl, hm.pk [0] rfl rfl⟩
  exact gcf rfl (gSk (gS (gR (gY (yn (hm.blk_at 0 rfl) isAgg28 sizeOf28 rfl) (gSN hm 2 sizeOf28 (one_cons (rep_one (hm.ow_rep 1 rfl)) one_nil) rfl fun w hm => gA rfl (gE (gRt (grct 2 results34 hm rfl isAgg28 sizeOf28 ⟨v1, rfl, hm.pk [1] rfl rfl⟩))))))))
theorem impl_HoistUnit_ok (w0 : World) (u : Unit_) (v1 : Value) (h1 : GT.rep (hp w0) [v1] u.codes) :
    ConM Tryz.prog 23 [(.agg #[v1])] w0 (impl_HoistUnit u) fun r v w' => ∃ (x1 : Value), v = (.tuple #[(.agg #[x1]), (.bool (r.2))]) ∧ Mem w0 (hp w0) w' [ow [x1] r.1.codes] := by
  unfold impl_HoistUnit
  refine gcon func23 rfl fun r => ?_
  have hm := Mem.start w0
  refine gS (gR (gBx hm rfl fun aD w hm => gAl hm zeroValue28 rfl fun aE w hm => gA rfl (gE (gS (gS (gR (gY (yn (hm.blk_at 1 rfl) isAgg28 sizeOf28 rfl) (gC hm rfl call57 (impl_IsSingle_ok _ u v1 (hm.now h1)) fun aL aM w hm => gN rfl (gE (gsn 6 rfl (fun aF => ?_) fun aF => ?_))))))))))
  ·refine gct rfl (gS (gR (gY (yG rfl (y_build (vs := []) (cs := #[.slice none 0 0]) rfl rfl (by kernel_rfl))) (gSN hm 0 sizeOf28 (one_cons rfl one_nil) rfl fun w hm => gA rfl (gE (gRt ?_))))))
   replace hm := hm.nilow (α := Code_)
   exact grct 1 results23 hm rfl isAgg28 sizeOf28 ⟨.slice none 0 0, rfl, hm.pk [0] rfl rfl⟩
  refine gcf rfl (gSk (gS (gR (gF fo_28_0 rfl (gL hm 1 isAgg26 rfl (gCg rfl call31 (impl_mapped_impl_Code_impl_Code_ok _ u.codes v1 (hm.now h1) (fun y0 => impl_hoisted y0) (.func (.func 58) #[] #[]) (fun w y0 aG aH r hB hq => ⟨58, [], rfl, call58, impl_hoisted_ok w y0 aG aH  r hq⟩)) ?_))))))
  rintro aA aN aO w ⟨_, rfl, hB⟩
  replace hm := hm.give hB; clear hB
  obtain ⟨aB, aC, rfl, aP⟩ := ro_slice (hm.ow_rep 0 rfl)
  refine gY (yG rfl (y_build (vs := [(0, (.slice aB aA.length aC))]) (cs := #[.slice aB aA.length aC]) rfl rfl (by kernel_rfl))) ?_
  obtain ⟨aI, hle, hm1, hsub, aJ⟩ := hm.take2 (L1 := [ow [.slice aB aA.length aC] aA]) (L2 := [blk aE [.slice none 0 0] 28, blk aD [v1] 28]) [0] [1, 2] (by decide) rfl rfl
  refine gCg rfl call34 (impl_onlyValid_ok _ aI (⟨aA⟩ : Unit_) (.slice aB aA.length aC) true hm1 ) ?_
  rintro aQ aR aS w ⟨aK, rfl, hB⟩
  replace hm := aJ _ _ hB; clear hB
  exact gX rfl (gX rfl (gSN hm 1 sizeOf28 (one_cons (rep_one (hm.ow_rep 0 rfl)) one_nil) rfl fun w hm => gA rfl (gE (gRt (grct 1 results23 hm rfl isAgg28 sizeOf28 ⟨aK, rfl, hm.pk [0] rfl rfl⟩)))))
theorem laws_eqIntS_ok (w0 : World) (a_ : List Int) (v1 : Value) (h1 : GT.rep (hp w0) [v1] a_) (b_ : List Int) (v2 : Value) (h2 : GT.rep (hp w0) [v2] b_) :
    ConM Tryz.prog 255 [v1, v2] w0 (laws_eqIntS a_ b_) fun r v w' => v = (.bool (r)) ∧ Below w0.heap.size w0 w' := by
  unfold laws_eqIntS
  refine gcon func255 rfl fun r => ?_
  have hm := Mem.start w0
  refine gS (gR (gA rfl (gE (gS (gS (gR (gM rfl ?_)))))))
  obtain ⟨aE, aF, rfl, aQ⟩ := ro_slice h1
  refine gY (yV st_57 rfl) (gM rfl ?_)
  obtain ⟨aG, aH, rfl, aR⟩ := ro_slice h2
  refine gY (yV st_57 rfl) (gB rfl (gE (gsd 10 rfl (fun aI => ?_) fun aI => ?_)))
  ·exact gct rfl (gS (gR (gA rfl (gE (gRt (gr1 results255 rfl ⟨rfl, hm.below⟩))))))
  refine gcf rfl (gSk (gS (gS (gR (gA rfl (gE (gBk (gNf hm (fun aA aD => [(0, (.slice aE a_.length aF)), (1, (.slice aG b_.length aH)), (5, (nV aA))]) (fun aA aD => []) [] rfl ?_ ?_))))))))
  ·repeat clear hm
   intro aS aJ aA aD w hm aT aV aW aK
   refine gS (gS (gR (gM rfl (gM rfl (gY (yV st_57 rfl) (gB rfl (gE (go _ 14 rfl (decide_eq_true (by omega)) (gct rfl (gSk (gS (gBk (gS (gW (.p 0 (.p 1 (.p 2 (.p 4 (.p 5 (.p 6 (.q 3 (.e 7 (.p 8 .fin) .nil)))))))) [7] [0, 1, 2, 4, 5, 6, 8] hm [] [] rfl mxo (by kernel_rfl) (fun _ _ _ h => h.2) fun w hm hS => tP rfl (fun w => yM rfl) (tP rfl (fun w => yM rfl) (gg fun aL aM aB => ?_))))))))))))))))
   obtain ⟨aX, aY, aZ, he⟩ := idx_form h1 aB
   obtain ⟨rfl, _, rfl⟩ := sl3 he
   refine tP rfl (fun w => yI st_57 aM (idx_lt aB) rfl) (tP rfl (fun w => yM rfl) (tP rfl (fun w => yM rfl) (gg fun aN aO aC => ?_)))
   obtain ⟨aa, ab, ac, he⟩ := idx_form h2 aC
   obtain ⟨rfl, _, rfl⟩ := sl3 he
   refine tP rfl (fun w => yI st_57 aO (idx_lt aC) rfl) (tQ rfl hS (fun w hm => yl isAgg3 ((flat_cells (cs := [nV aL]) (hm.now h1) aB rfl).cell (j := 0) rfl) rfl) (tO (tY rfl (yl isAgg3 ((flat_cells (cs := [nV aN]) (hm.now h2) aC rfl).cell (j := 0) rfl) rfl) (tAs hS (tP rfl (fun w => yB rfl) (tE (gsd 25 rfl (fun aP => ?_) fun aP => ?_)))))))
   ·exact gct rfl (gS (gR (gA rfl (gE (gRt (gLr aK aJ (gr1 results255 rfl ⟨rfl, hm.below⟩)))))))
   exact gcf rfl (gSk (gR (gM rfl (gP (by omega) (by omega) rfl (gA rfl (gE (gze hm [] rfl)))))))
  repeat clear hm
  intro ae af w hm ag ah
  exact gS (gS (gR (gM rfl (gM rfl (gY (yV st_57 rfl) (gB rfl (gE (go _ 14 rfl (decide_eq_false (by omega)) (gcf rfl (gXt (gHh (gS (gR (gA rfl (gE (gRt (gr1 results255 rfl ⟨rfl, hm.below⟩)))))))))))))))))
theorem laws_eqPhi_ok (w0 : World) (a_ : Phi_) (v1 : Value) (h1 : GT.rep (hp w0) [v1] a_.args) (b_ : Phi_) (v2 : Value) (h2 : GT.rep (hp w0) [v2] b_.args) :
    ConM Tryz.prog 287 [(.agg #[nV a_.to, v1]), (.agg #[nV b_.to, v2])] w0 (laws_eqPhi a_ b_) fun r v w' => v = (.bool (r)) ∧ Below w0.heap.size w0 w' := by
  unfold laws_eqPhi
  refine gcon func287 rfl fun r => ?_
  have hm := Mem.start w0
  refine gS (gR (gBx hm rfl fun aC w hm => gBx hm rfl fun aD w hm => gA rfl (gE (gS (gS (gR (gF fo_87_0 rfl (gL hm 1 isAgg3 rfl (gF fo_87_0 rfl (gL hm 0 isAgg3 rfl (gB rfl (gE (gsd 9 rfl (fun aA => ?_) fun aA => ?_)))))))))))))
  ·exact gct rfl (gS (gR (gA rfl (gE (gRt (gr1 results287 rfl ⟨rfl, hm.below⟩))))))
  refine gcf rfl (gSk (gS (gS (gR (gF fo_87_1 rfl (gL hm 1 isAgg57 rfl (gF fo_87_1 rfl (gL hm 0 isAgg57 rfl (gC hm rfl call255 (laws_eqIntS_ok _ a_.args v1 (hm.now h1) b_.args v2 (hm.now h2)) fun aE aF w hm => gN rfl (gE (gsn 15 rfl (fun aB => ?_) fun aB => ?_)))))))))))
  ·exact gct rfl (gS (gR (gA rfl (gE (gRt (gr1 results287 rfl ⟨rfl, hm.below⟩))))))
  exact gcf rfl (gSk (gS (gR (gA rfl (gE (gRt (gr1 results287 rfl ⟨rfl, hm.below⟩)))))))
theorem laws_eqPhiS_ok (w0 : World) (a_ : List Phi_) (v1 : Value) (h1 : GT.rep (hp w0) [v1] a_) (b_ : List Phi_) (v2 : Value) (h2 : GT.rep (hp w0) [v2] b_) :
    ConM Tryz.prog 253 [v1, v2] w0 (laws_eqPhiS a_ b_) fun r v w' => v = (.bool (r)) ∧ Below w0.heap.size w0 w' := by
  unfold laws_eqPhiS
  refine gcon func253 rfl fun r => ?_
  have hm := Mem.start w0
  refine gS (gR (gA rfl (gE (gS (gS (gR (gM rfl ?_)))))))
  obtain ⟨aE, aF, rfl, aY⟩ := ro_slice h1
  refine gY (yV st_55 rfl) (gM rfl ?_)
  obtain ⟨aG, aH, rfl, aZ⟩ := ro_slice h2
  refine gY (yV st_55 rfl) (gB rfl (gE (gsd 10 rfl (fun aI => ?_) fun aI => ?_)))
  ·exact gct rfl (gS (gR (gA rfl (gE (gRt (gr1 results253 rfl ⟨rfl, hm.below⟩))))))
  refine gcf rfl (gSk (gS (gS (gR (gA rfl (gE (gBk (gNf hm (fun aA aD => [(0, (.slice aE a_.length aF)), (1, (.slice aG b_.length aH)), (5, (nV aA))]) (fun aA aD => []) [] rfl ?_ ?_))))))))
  ·repeat clear hm
   intro aa aJ aA aD w hm ab ac ae aK
   refine gS (gS (gR (gM rfl (gM rfl (gY (yV st_55 rfl) (gB rfl (gE (go _ 14 rfl (decide_eq_true (by omega)) (gct rfl (gSk (gS (gBk (gS (gW (.p 0 (.p 1 (.p 2 (.p 4 (.p 5 (.p 6 (.q 3 (.e 7 (.e 8 (.p 9 .fin) .nil) .nil)))))))) [7] [0, 1, 2, 4, 5, 6, 9] hm [] [] rfl mxo (by kernel_rfl) (fun _ _ _ h => h.2) fun w hm hS => tP rfl (fun w => yM rfl) (tP rfl (fun w => yM rfl) (gg fun aL aM aB => ?_))))))))))))))))
   obtain ⟨af, ag, ah, he⟩ := idx_form' h1 aB
   obtain ⟨rfl, _, rfl⟩ := sl3 he
   obtain ⟨aN, aO, aP⟩ := rk_Phi_ h1 aB
   refine tP rfl (fun w => yI st_55 aM (idx_lt aB) rfl) (tP rfl (fun w => yM rfl) (tP rfl (fun w => yM rfl) (gg fun aQ aR aC => ?_)))
   obtain ⟨ai, aj, ak, he⟩ := idx_form' h2 aC
   obtain ⟨rfl, _, rfl⟩ := sl3 he
   obtain ⟨aS, aT, aV⟩ := rk_Phi_ h2 aC
   refine tP rfl (fun w => yI st_55 aR (idx_lt aC) rfl) (tQ rfl hS (fun w hm => yn (aO.mono hm.lez) isAgg87 sizeOf87 rfl) (tO (tY rfl (yn (aT.mono hm.lez) isAgg87 sizeOf87 rfl) (tAs hS (tO (gb fun am aW => tf rfl rfl (fun a hf => e_call hf rfl call287 rfl (laws_eqPhi_ok _ aL aN (hm.now aP) aQ aS (hm.now aV) _ aW)) ?_))))))
   rintro an w ⟨rfl, hB⟩
   replace hm := hm.below' hB; clear hB
   refine tAn rfl (tP rfl (fun w => yN rfl) (tE (gsn 26 rfl (fun aX => ?_) fun aX => ?_)))
   ·exact gct rfl (gS (gR (gA rfl (gE (gRt (gLr aK aJ (gr1 results253 rfl ⟨rfl, hm.below⟩)))))))
   exact gcf rfl (gSk (gR (gM rfl (gP (by omega) (by omega) rfl (gA rfl (gE (gze hm [] rfl)))))))
  repeat clear hm
  intro ao ap w hm aq ar
  exact gS (gS (gR (gM rfl (gM rfl (gY (yV st_55 rfl) (gB rfl (gE (go _ 14 rfl (decide_eq_false (by omega)) (gcf rfl (gXt (gHh (gS (gR (gA rfl (gE (gRt (gr1 results253 rfl ⟨rfl, hm.below⟩)))))))))))))))))
theorem laws_eqIns_ok (w0 : World) (a_ : Ins_) (v1 : Value) (h1 : GT.rep (hp w0) [v1] a_.args) (b_ : Ins_) (v2 : Value) (h2 : GT.rep (hp w0) [v2] b_.args) :
    ConM Tryz.prog 288 [(.agg #[nV a_.op, nV a_.to, v1, nV a_.n_]), (.agg #[nV b_.op, nV b_.to, v2, nV b_.n_])] w0 (laws_eqIns a_ b_) fun r v w' => v = (.bool (r)) ∧ Below w0.heap.size w0 w' := by
  unfold laws_eqIns
  refine gcon func288 rfl fun r => ?_
  have hm := Mem.start w0
  refine gS (gR (gBx hm rfl fun aE w hm => gBx hm rfl fun aF w hm => gA rfl (gE (gS (gS (gR (gF fo_61_0 rfl (gL hm 1 isAgg3 rfl (gF fo_61_0 rfl (gL hm 0 isAgg3 rfl (gB rfl (gE (gsd 9 rfl (fun aA => ?_) fun aA => ?_)))))))))))))
  ·exact gct rfl (gS (gR (gA rfl (gE (gRt (gr1 results288 rfl ⟨rfl, hm.below⟩))))))
  refine gcf rfl (gSk (gS (gS (gR (gF fo_61_1 rfl (gL hm 1 isAgg3 rfl (gF fo_61_1 rfl (gL hm 0 isAgg3 rfl (gB rfl (gE (gsd 14 rfl (fun aB => ?_) fun aB => ?_)))))))))))
  ·exact gct rfl (gS (gR (gA rfl (gE (gRt (gr1 results288 rfl ⟨rfl, hm.below⟩))))))
  refine gcf rfl (gSk (gS (gS (gR (gF fo_61_2 rfl (gL hm 1 isAgg57 rfl (gF fo_61_2 rfl (gL hm 0 isAgg57 rfl (gC hm rfl call255 (laws_eqIntS_ok _ a_.args v1 (hm.now h1) b_.args v2 (hm.now h2)) fun aG aH w hm => gN rfl (gE (gsn 20 rfl (fun aC => ?_) fun aC => ?_)))))))))))
  ·exact gct rfl (gS (gR (gA rfl (gE (gRt (gr1 results288 rfl ⟨rfl, hm.below⟩))))))
  refine gcf rfl (gSk (gS (gS (gR (gF fo_61_3 rfl (gL hm 1 isAgg3 rfl (gF fo_61_3 rfl (gL hm 0 isAgg3 rfl (gB rfl (gE (gsd 25 rfl (fun aD => ?_) fun aD => ?_)))))))))))
  ·exact gct rfl (gS (gR (gA rfl (gE (gRt (gr1 results288 rfl ⟨rfl, hm.below⟩))))))
  exact gcf rfl (gSk (gS (gR (gA rfl (gE (gRt (gr1 results288 rfl ⟨rfl, hm.below⟩)))))))
theorem laws_eqInsS_ok (w0 : World) (a_ : List Ins_) (v1 : Value) (h1 : GT.rep (hp w0) [v1] a_) (b_ : List Ins_) (v2 : Value) (h2 : GT.rep (hp w0) [v2] b_) :
    ConM Tryz.prog 254 [v1, v2] w0 (laws_eqInsS a_ b_) fun r v w' => v = (.bool (r)) ∧ Below w0.heap.size w0 w' := by
  unfold laws_eqInsS
  refine gcon func254 rfl fun r => ?_
  have hm := Mem.start w0
  refine gS (gR (gA rfl (gE (gS (gS (gR (gM rfl ?_)))))))
  obtain ⟨aE, aF, rfl, aY⟩ := ro_slice h1
  refine gY (yV st_56 rfl) (gM rfl ?_)
  obtain ⟨aG, aH, rfl, aZ⟩ := ro_slice h2
  refine gY (yV st_56 rfl) (gB rfl (gE (gsd 10 rfl (fun aI => ?_) fun aI => ?_)))
  ·exact gct rfl (gS (gR (gA rfl (gE (gRt (gr1 results254 rfl ⟨rfl, hm.below⟩))))))
  refine gcf rfl (gSk (gS (gS (gR (gA rfl (gE (gBk (gNf hm (fun aA aD => [(0, (.slice aE a_.length aF)), (1, (.slice aG b_.length aH)), (5, (nV aA))]) (fun aA aD => []) [] rfl ?_ ?_))))))))
  ·repeat clear hm
   intro aa aJ aA aD w hm ab ac ae aK
   refine gS (gS (gR (gM rfl (gM rfl (gY (yV st_56 rfl) (gB rfl (gE (go _ 14 rfl (decide_eq_true (by omega)) (gct rfl (gSk (gS (gBk (gS (gW (.p 0 (.p 1 (.p 2 (.p 4 (.p 5 (.p 6 (.q 3 (.e 7 (.e 8 (.p 9 .fin) .nil) .nil)))))))) [7] [0, 1, 2, 4, 5, 6, 9] hm [] [] rfl mxo (by kernel_rfl) (fun _ _ _ h => h.2) fun w hm hS => tP rfl (fun w => yM rfl) (tP rfl (fun w => yM rfl) (gg fun aL aM aB => ?_))))))))))))))))
   obtain ⟨af, ag, ah, he⟩ := idx_form' h1 aB
   obtain ⟨rfl, _, rfl⟩ := sl3 he
   obtain ⟨aN, aO, aP⟩ := rk_Ins_ h1 aB
   refine tP rfl (fun w => yI st_56 aM (idx_lt aB) rfl) (tP rfl (fun w => yM rfl) (tP rfl (fun w => yM rfl) (gg fun aQ aR aC => ?_)))
   obtain ⟨ai, aj, ak, he⟩ := idx_form' h2 aC
   obtain ⟨rfl, _, rfl⟩ := sl3 he
   obtain ⟨aS, aT, aV⟩ := rk_Ins_ h2 aC
   refine tP rfl (fun w => yI st_56 aR (idx_lt aC) rfl) (tQ rfl hS (fun w hm => yn (aO.mono hm.lez) isAgg61 sizeOf61 rfl) (tO (tY rfl (yn (aT.mono hm.lez) isAgg61 sizeOf61 rfl) (tAs hS (tO (gb fun am aW => tf rfl rfl (fun a hf => e_call hf rfl call288 rfl (laws_eqIns_ok _ aL aN (hm.now aP) aQ aS (hm.now aV) _ aW)) ?_))))))
   rintro an w ⟨rfl, hB⟩
   replace hm := hm.below' hB; clear hB
   refine tAn rfl (tP rfl (fun w => yN rfl) (tE (gsn 26 rfl (fun aX => ?_) fun aX => ?_)))
   ·exact gct rfl (gS (gR (gA rfl (gE (gRt (gLr aK aJ (gr1 results254 rfl ⟨rfl, hm.below⟩)))))))
   exact gcf rfl (gSk (gR (gM rfl (gP (by omega) (by omega) rfl (gA rfl (gE (gze hm [] rfl)))))))
  repeat clear hm
  intro ao ap w hm aq ar
  exact gS (gS (gR (gM rfl (gM rfl (gY (yV st_56 rfl) (gB rfl (gE (go _ 14 rfl (decide_eq_false (by omega)) (gcf rfl (gXt (gHh (gS (gR (gA rfl (gE (gRt (gr1 results254 rfl ⟨rfl, hm.below⟩)))))))))))))))))
theorem laws_eqBlock_ok (w0 : World) (a_ : Block_) (v1 : Value) (h1 : GT.rep (hp w0) [v1] a_.phis) (v2 : Value) (h2 : GT.rep (hp w0) [v2] a_.ins) (v3 : Value) (h3 : GT.rep (hp w0) [v3] a_.next_) (b_ : Block_) (v4 : Value) (h4 : GT.rep (hp w0) [v4] b_.phis) (v5 : Value) (h5 : GT.rep (hp w0) [v5] b_.ins) (v6 : Value) (h6 : GT.rep (hp w0) [v6] b_.next_) :
    ConM Tryz.prog 200 [(.agg #[v1, v2, nV a_.jump, nV a_.on, v3]), (.agg #[v4, v5, nV b_.jump, nV b_.on, v6])] w0 (laws_eqBlock a_ b_) fun r v w' => v = (.bool (r)) ∧ Below w0.heap.size w0 w' := by
  unfold laws_eqBlock
  refine gcon func200 rfl fun r => ?_
  have hm := Mem.start w0
  refine gS (gR (gBx hm rfl fun aF w hm => gBx hm rfl fun aG w hm => gA rfl (gE (gS (gS (gR (gF fo_59_0 rfl (gL hm 1 isAgg55 rfl (gF fo_59_0 rfl (gL hm 0 isAgg55 rfl (gC hm rfl call253 (laws_eqPhiS_ok _ a_.phis v1 (hm.now h1) b_.phis v4 (hm.now h4)) fun aH aI w hm => gN rfl (gE (gsn 10 rfl (fun aA => ?_) fun aA => ?_)))))))))))))
  ·exact gct rfl (gS (gR (gA rfl (gE (gRt (gr1 results200 rfl ⟨rfl, hm.below⟩))))))
  refine gcf rfl (gSk (gS (gS (gR (gF fo_59_1 rfl (gL hm 1 isAgg56 rfl (gF fo_59_1 rfl (gL hm 0 isAgg56 rfl (gC hm rfl call254 (laws_eqInsS_ok _ a_.ins v2 (hm.now h2) b_.ins v5 (hm.now h5)) fun aJ aK w hm => gN rfl (gE (gsn 16 rfl (fun aB => ?_) fun aB => ?_)))))))))))
  ·exact gct rfl (gS (gR (gA rfl (gE (gRt (gr1 results200 rfl ⟨rfl, hm.below⟩))))))
  refine gcf rfl (gSk (gS (gS (gR (gF fo_59_2 rfl (gL hm 1 isAgg3 rfl (gF fo_59_2 rfl (gL hm 0 isAgg3 rfl (gB rfl (gE (gsd 21 rfl (fun aC => ?_) fun aC => ?_)))))))))))
  ·exact gct rfl (gS (gR (gA rfl (gE (gRt (gr1 results200 rfl ⟨rfl, hm.below⟩))))))
  refine gcf rfl (gSk (gS (gS (gR (gF fo_59_3 rfl (gL hm 1 isAgg3 rfl (gF fo_59_3 rfl (gL hm 0 isAgg3 rfl (gB rfl (gE (gsd 26 rfl (fun aD => ?_) fun aD => ?_)))))))))))
  ·exact gct rfl (gS (gR (gA rfl (gE (gRt (gr1 results200 rfl ⟨rfl, hm.below⟩))))))
  refine gcf rfl (gSk (gS (gS (gR (gF fo_59_4 rfl (gL hm 1 isAgg57 rfl (gF fo_59_4 rfl (gL hm 0 isAgg57 rfl (gC hm rfl call255 (laws_eqIntS_ok _ a_.next_ v3 (hm.now h3) b_.next_ v6 (hm.now h6)) fun aL aM w hm => gN rfl (gE (gsn 32 rfl (fun aE => ?_) fun aE => ?_)))))))))))
  ·exact gct rfl (gS (gR (gA rfl (gE (gRt (gr1 results200 rfl ⟨rfl, hm.below⟩))))))
  exact gcf rfl (gSk (gS (gR (gA rfl (gE (gRt (gr1 results200 rfl ⟨rfl, hm.below⟩)))))))
theorem laws_eqBlockS_ok (w0 : World) (a_ : List Block_) (v1 : Value) (h1 : GT.rep (hp w0) [v1] a_) (b_ : List Block_) (v2 : Value) (h2 : GT.rep (hp w0) [v2] b_) :
    ConM Tryz.prog 129 [v1, v2] w0 (laws_eqBlockS a_ b_) fun r v w' => v = (.bool (r)) ∧ Below w0.heap.size w0 w' := by
  unfold laws_eqBlockS
  refine gcon func129 rfl fun r => ?_
  have hm := Mem.start w0
  refine gS (gR (gA rfl (gE (gS (gS (gR (gM rfl ?_)))))))
  obtain ⟨aE, aF, rfl, ah⟩ := ro_slice h1
  refine gY (yV st_42 rfl) (gM rfl ?_)
  obtain ⟨aG, aH, rfl, ai⟩ := ro_slice h2
  refine gY (yV st_42 rfl) (gB rfl (gE (gsd 10 rfl (fun aI => ?_) fun aI => ?_)))
  ·exact gct rfl (gS (gR (gA rfl (gE (gRt (gr1 results129 rfl ⟨rfl, hm.below⟩))))))
  refine gcf rfl (gSk (gS (gS (gR (gA rfl (gE (gBk (gNf hm (fun aA aD => [(0, (.slice aE a_.length aF)), (1, (.slice aG b_.length aH)), (5, (nV aA))]) (fun aA aD => []) [] rfl ?_ ?_))))))))
  ·repeat clear hm
   intro aj aJ aA aD w hm ak am an aK
   refine gS (gS (gR (gM rfl (gM rfl (gY (yV st_42 rfl) (gB rfl (gE (go _ 14 rfl (decide_eq_true (by omega)) (gct rfl (gSk (gS (gBk (gS (gW (.p 0 (.p 1 (.p 2 (.p 4 (.p 5 (.p 6 (.q 3 (.e 7 (.e 8 (.p 9 .fin) .nil) .nil)))))))) [7] [0, 1, 2, 4, 5, 6, 9] hm [] [] rfl mxo (by kernel_rfl) (fun _ _ _ h => h.2) fun w hm hS => tP rfl (fun w => yM rfl) (tP rfl (fun w => yM rfl) (gg fun aL aM aB => ?_))))))))))))))))
   obtain ⟨ao, ap, aq, he⟩ := idx_form' h1 aB
   obtain ⟨rfl, _, rfl⟩ := sl3 he
   obtain ⟨aN, aO, aP, aQ, aR, aS, aT⟩ := rk_Block_ h1 aB
   refine tP rfl (fun w => yI st_42 aM (idx_lt aB) rfl) (tP rfl (fun w => yM rfl) (tP rfl (fun w => yM rfl) (gg fun aV aW aC => ?_)))
   obtain ⟨ar, au, aw, he⟩ := idx_form' h2 aC
   obtain ⟨rfl, _, rfl⟩ := sl3 he
   obtain ⟨aX, aY, aZ, aa, ab, ac, ae⟩ := rk_Block_ h2 aC
   refine tP rfl (fun w => yI st_42 aW (idx_lt aC) rfl) (tQ rfl hS (fun w hm => yn (aQ.mono hm.lez) isAgg59 sizeOf59 rfl) (tO (tY rfl (yn (aa.mono hm.lez) isAgg59 sizeOf59 rfl) (tAs hS (tO (gb fun ax af => tf rfl rfl (fun a hf => e_call hf rfl call200 rfl (laws_eqBlock_ok _ aL aN (hm.now aR) aO (hm.now aS) aP (hm.now aT) aV aX (hm.now ab) aY (hm.now ac) aZ (hm.now ae) _ af)) ?_))))))
   rintro ay w ⟨rfl, hB⟩
   replace hm := hm.below' hB; clear hB
   refine tAn rfl (tP rfl (fun w => yN rfl) (tE (gsn 26 rfl (fun ag => ?_) fun ag => ?_)))
   ·exact gct rfl (gS (gR (gA rfl (gE (gRt (gLr aK aJ (gr1 results129 rfl ⟨rfl, hm.below⟩)))))))
   exact gcf rfl (gSk (gR (gM rfl (gP (by omega) (by omega) rfl (gA rfl (gE (gze hm [] rfl)))))))
  repeat clear hm
  intro az bA w hm bB bC
  exact gS (gS (gR (gM rfl (gM rfl (gY (yV st_42 rfl) (gB rfl (gE (go _ 14 rfl (decide_eq_false (by omega)) (gcf rfl (gXt (gHh (gS (gR (gA rfl (gE (gRt (gr1 results129 rfl ⟨rfl, hm.below⟩)))))))))))))))))
theorem laws_eqCode_ok (w0 : World) (a_ : Code_) (v1 : Value) (h1 : GT.rep (hp w0) [v1] a_.blocks) (b_ : Code_) (v2 : Value) (h2 : GT.rep (hp w0) [v2] b_.blocks) :
    ConM Tryz.prog 81 [(.agg #[nV a_.params, nV a_.regs, v1]), (.agg #[nV b_.params, nV b_.regs, v2])] w0 (laws_eqCode a_ b_) fun r v w' => v = (.bool (r)) ∧ Below w0.heap.size w0 w' := by
  unfold laws_eqCode
  refine gcon func81 rfl fun r => ?_
  have hm := Mem.start w0
  refine gS (gR (gBx hm rfl fun aD w hm => gBx hm rfl fun aE w hm => gA rfl (gE (gS (gS (gR (gF fo_44_0 rfl (gL hm 1 isAgg3 rfl (gF fo_44_0 rfl (gL hm 0 isAgg3 rfl (gB rfl (gE (gsd 9 rfl (fun aA => ?_) fun aA => ?_)))))))))))))
  ·exact gct rfl (gS (gR (gA rfl (gE (gRt (gr1 results81 rfl ⟨rfl, hm.below⟩))))))
  refine gcf rfl (gSk (gS (gS (gR (gF fo_44_1 rfl (gL hm 1 isAgg3 rfl (gF fo_44_1 rfl (gL hm 0 isAgg3 rfl (gB rfl (gE (gsd 14 rfl (fun aB => ?_) fun aB => ?_)))))))))))
  ·exact gct rfl (gS (gR (gA rfl (gE (gRt (gr1 results81 rfl ⟨rfl, hm.below⟩))))))
  refine gcf rfl (gSk (gS (gS (gR (gF fo_44_2 rfl (gL hm 1 isAgg42 rfl (gF fo_44_2 rfl (gL hm 0 isAgg42 rfl (gC hm rfl call129 (laws_eqBlockS_ok _ a_.blocks v1 (hm.now h1) b_.blocks v2 (hm.now h2)) fun aF aG w hm => gN rfl (gE (gsn 20 rfl (fun aC => ?_) fun aC => ?_)))))))))))
  ·exact gct rfl (gS (gR (gA rfl (gE (gRt (gr1 results81 rfl ⟨rfl, hm.below⟩))))))
  exact gcf rfl (gSk (gS (gR (gA rfl (gE (gRt (gr1 results81 rfl ⟨rfl, hm.below⟩)))))))
theorem laws_eqCodeS_ok (w0 : World) (a_ : List Code_) (v1 : Value) (h1 : GT.rep (hp w0) [v1] a_) (b_ : List Code_) (v2 : Value) (h2 : GT.rep (hp w0) [v2] b_) :
    ConM Tryz.prog 35 [v1, v2] w0 (laws_eqCodeS a_ b_) fun r v w' => v = (.bool (r)) ∧ Below w0.heap.size w0 w' := by
  unfold laws_eqCodeS
  refine gcon func35 rfl fun r => ?_
  have hm := Mem.start w0
  refine gS (gR (gA rfl (gE (gS (gS (gR (gM rfl ?_)))))))
  obtain ⟨aE, aF, rfl, aY⟩ := ro_slice h1
  refine gY (yV st_26 rfl) (gM rfl ?_)
  obtain ⟨aG, aH, rfl, aZ⟩ := ro_slice h2
  refine gY (yV st_26 rfl) (gB rfl (gE (gsd 10 rfl (fun aI => ?_) fun aI => ?_)))
  ·exact gct rfl (gS (gR (gA rfl (gE (gRt (gr1 results35 rfl ⟨rfl, hm.below⟩))))))
  refine gcf rfl (gSk (gS (gS (gR (gA rfl (gE (gBk (gNf hm (fun aA aD => [(0, (.slice aE a_.length aF)), (1, (.slice aG b_.length aH)), (5, (nV aA))]) (fun aA aD => []) [] rfl ?_ ?_))))))))
  ·repeat clear hm
   intro aa aJ aA aD w hm ab ac ae aK
   refine gS (gS (gR (gM rfl (gM rfl (gY (yV st_26 rfl) (gB rfl (gE (go _ 14 rfl (decide_eq_true (by omega)) (gct rfl (gSk (gS (gBk (gS (gW (.p 0 (.p 1 (.p 2 (.p 4 (.p 5 (.p 6 (.q 3 (.e 7 (.e 8 (.p 9 .fin) .nil) .nil)))))))) [7] [0, 1, 2, 4, 5, 6, 9] hm [] [] rfl mxo (by kernel_rfl) (fun _ _ _ h => h.2) fun w hm hS => tP rfl (fun w => yM rfl) (tP rfl (fun w => yM rfl) (gg fun aL aM aB => ?_))))))))))))))))
   obtain ⟨af, ag, ah, he⟩ := idx_form' h1 aB
   obtain ⟨rfl, _, rfl⟩ := sl3 he
   obtain ⟨aN, aO, aP⟩ := rk_Code_ h1 aB
   refine tP rfl (fun w => yI st_26 aM (idx_lt aB) rfl) (tP rfl (fun w => yM rfl) (tP rfl (fun w => yM rfl) (gg fun aQ aR aC => ?_)))
   obtain ⟨ai, aj, ak, he⟩ := idx_form' h2 aC
   obtain ⟨rfl, _, rfl⟩ := sl3 he
   obtain ⟨aS, aT, aV⟩ := rk_Code_ h2 aC
   refine tP rfl (fun w => yI st_26 aR (idx_lt aC) rfl) (tQ rfl hS (fun w hm => yn (aO.mono hm.lez) isAgg44 sizeOf44 rfl) (tO (tY rfl (yn (aT.mono hm.lez) isAgg44 sizeOf44 rfl) (tAs hS (tO (gb fun am aW => tf rfl rfl (fun a hf => e_call hf rfl call81 rfl (laws_eqCode_ok _ aL aN (hm.now aP) aQ aS (hm.now aV) _ aW)) ?_))))))
   rintro an w ⟨rfl, hB⟩
   replace hm := hm.below' hB; clear hB
   refine tAn rfl (tP rfl (fun w => yN rfl) (tE (gsn 26 rfl (fun aX => ?_) fun aX => ?_)))
   ·exact gct rfl (gS (gR (gA rfl (gE (gRt (gLr aK aJ (gr1 results35 rfl ⟨rfl, hm.below⟩)))))))
   exact gcf rfl (gSk (gR (gM rfl (gP (by omega) (by omega) rfl (gA rfl (gE (gze hm [] rfl)))))))
  repeat clear hm
  intro ao ap w hm aq ar
  exact gS (gS (gR (gM rfl (gM rfl (gY (yV st_26 rfl) (gB rfl (gE (go _ 14 rfl (decide_eq_false (by omega)) (gcf rfl (gXt (gHh (gS (gR (gA rfl (gE (gRt (gr1 results35 rfl ⟨rfl, hm.below⟩)))))))))))))))))
theorem laws_eqUnit_ok (w0 : World) (a_ : Unit_) (v1 : Value) (h1 : GT.rep (hp w0) [v1] a_.codes) (b_ : Unit_) (v2 : Value) (h2 : GT.rep (hp w0) [v2] b_.codes) :
    ConM Tryz.prog 13 [(.agg #[v1]), (.agg #[v2])] w0 (laws_eqUnit a_ b_) fun r v w' => v = (.bool (r)) ∧ Below w0.heap.size w0 w' := by
  unfold laws_eqUnit
  refine gcon func13 rfl fun r => ?_
  have hm := Mem.start w0
  refine gS (gR (gBx hm rfl fun aB w hm => gBx hm rfl fun aC w hm => gA rfl (gE (gS (gS (gR (gF fo_28_0 rfl (gL hm 1 isAgg26 rfl (gF fo_28_0 rfl (gL hm 0 isAgg26 rfl (gC hm rfl call35 (laws_eqCodeS_ok _ a_.codes v1 (hm.now h1) b_.codes v2 (hm.now h2)) fun aD aE w hm => gN rfl (gE (gsn 10 rfl (fun aA => ?_) fun aA => ?_)))))))))))))
  ·exact gct rfl (gS (gR (gA rfl (gE (gRt (gr1 results13 rfl ⟨rfl, hm.below⟩))))))
  exact gcf rfl (gSk (gS (gR (gA rfl (gE (gRt (gr1 results13 rfl ⟨rfl, hm.below⟩)))))))
theorem laws_markIntS_ok (w0 : World) (hz : Heap) (a_ : List Int) (v1 : Value) (k_ : Int) (hm0 : Mem w0 hz w0 [ow [v1] a_]) :
    ConM Tryz.prog 132 [v1, nV k_] w0 (laws_markIntS a_ k_) fun r v w' => v = (nV r.1) ∧ Mem w0 hz w' [ow [v1] r.2] := by
  unfold laws_markIntS
  refine gcon func132 rfl fun r => ?_
  have hm := hm0
  refine gS (gR (gA rfl (gE (gS (gS (gR (gA rfl (gE ?_))))))))
  obtain ⟨aD, aE, rfl, aG⟩ := ro_slice (hm.ow_rep 0 rfl)
  refine gBk (gNf hm (fun aC aA => [(0, (.slice aD a_.length aE)), (1, (nV aA.2)), (5, (nV aC))]) (fun aC aA => [ow [.slice aD a_.length aE] aA.1]) [0] rfl ?_ ?_)
  ·repeat clear hm
   intro _ _ aC aA w hm aH aI aJ _
   refine gS (gS (gR (gM rfl (gM rfl ?_))))
   have aK := rep_len (hm.ow_rep 0 rfl)
   refine gY (yV st_57 rfl) (gB rfl (gE (go _ 9 rfl (decide_eq_true (by omega)) (gct rfl (gSk (gS (gBk (gS (gR (gM rfl (gM rfl (gM rfl (gg fun aL aF aB => ?_)))))))))))))
   obtain ⟨aM, aN, aO, he⟩ := idx_form (hm.ow_rep 0 rfl) aB
   obtain ⟨rfl, _, rfl⟩ := sl3 he
   have hL1_1 := rep_slice_len (hm.ow_rep 0 rfl)
   refine gI st_57 aF (idx_lt2 aB hL1_1) rfl (gf0 rfl (fun a hf => e_setElem (x1 := aA.2) (j := 0) (vs := [nV aA.2]) 0 hf hm rfl aB rfl sizeOf3 rfl rfl rfl (one_cons rfl one_nil) rfl rfl) ?_)
   rintro _ w hm
   have aP := List.getElem?_set_self (a := aA.2) (idx_lt aB)
   exact gE (gR (gM rfl (gB rfl (gA rfl (gE (gR (gM rfl (gP (by omega) (by omega) rfl (gA rfl (gE (gze hm [0] rfl)))))))))))
  repeat clear hm
  intro aQ aR w hm aS aT
  refine gS (gS (gR (gM rfl (gM rfl ?_))))
  have aV := rep_len (hm.ow_rep 0 rfl)
  exact gY (yV st_57 rfl) (gB rfl (gE (go _ 9 rfl (decide_eq_false (by omega)) (gcf rfl (gXt (gHh (gS (gR (gM rfl (gA rfl (gE (gRt (gr1 results132 rfl ⟨rfl, hm.pk [0] rfl rfl⟩)))))))))))))
theorem laws_markPhiS_ok (w0 : World) (hz : Heap) (a_ : List Phi_) (v1 : Value) (k_ : Int) (hm0 : Mem w0 hz w0 [ow [v1] a_]) :
    ConM Tryz.prog 130 [v1, nV k_] w0 (laws_markPhiS a_ k_) fun r v w' => v = (nV r.1) ∧ Mem w0 hz w' [ow [v1] r.2] := by
  unfold laws_markPhiS
  refine gcon func130 rfl fun r => ?_
  have hm := hm0
  refine gS (gR (gA rfl (gE (gS (gS (gR (gA rfl (gE ?_))))))))
  obtain ⟨aL, aE, rfl, aT⟩ := ro_slice (hm.ow_rep 0 rfl)
  refine gBk (gNf hm (fun aD aA => [(0, (.slice aL a_.length aE)), (1, (nV aA.2)), (5, (nV aD))]) (fun aD aA => [ow [.slice aL a_.length aE] aA.1]) [0] rfl ?_ ?_)
  ·repeat clear hm
   intro _ _ aD aA w hm aV aW aX _
   refine gS (gS (gR (gM rfl (gM rfl ?_))))
   have aY := rep_len (hm.ow_rep 0 rfl)
   refine gY (yV st_55 rfl) (gB rfl (gE (go _ 9 rfl (decide_eq_true (by omega)) (gct rfl (gSk (gS (gBk (gS (gR (gM rfl (gM rfl (gM rfl (gg fun aB aM aF => ?_)))))))))))))
   obtain ⟨aG, aH, aZ, he⟩ := idx_form' (hm.ow_rep 0 rfl) aF
   obtain ⟨rfl, _, rfl⟩ := sl3 he
   obtain ⟨aN, aO, aa⟩ := rk_Phi_ (hm.ow_rep 0 rfl) aF
   have hL1_1 := rep_slice_len (hm.ow_rep 0 rfl)
   refine gI st_55 aM (idx_lt2 aF hL1_1) rfl (gF fo_87_0 rfl (gf0 rfl (fun a hf => e_setElemR (x1 := ((⟨aA.2, aB.args⟩ : Phi_) : Phi_)) (j := 0) (vs := [nV aA.2]) 0 hf hm rfl aF aO rfl (fun F h ho => (fun _ => own_fst_map (α := Int) (β := (List Int)) (cs := [nV aB.to]) (cs' := [nV aA.2]) (ds := [aN]) rfl (fun _ _ => Flat.own_iff.2 rfl)) F ho) rfl sizeOf3 rfl rfl rfl (one_cons rfl one_nil) rfl) ?_))
   rintro _ w hm
   have aJ := List.getElem?_set_self (a := ((⟨aA.2, aB.args⟩ : Phi_) : Phi_)) (idx_lt aF)
   refine gE (gS (gR (gM rfl (gB rfl (gA rfl (gE (gR (gM rfl (gM rfl ?_)))))))))
   obtain ⟨_, _, aI, aP⟩ := ro_get' (hm.ow_rep 0 rfl) aJ
   obtain ⟨_, _, rfl, rfl, aK⟩ := aP
   obtain ⟨aC, rfl, -⟩ := id aK
   replace aK : GT.rep (hp _) [aC] aB.args := aK
   replace aI : CellsAt (hp _) aG (aH + (aD).toNat * 2) [nV aA.2, aC] := aI
   have hL1_2 := rep_slice_len (hm.ow_rep 0 rfl)
   refine gI st_55 aM (idx_lt2 aJ hL1_2) rfl (gF fo_87_1 rfl (gY (yl isAgg57 (aI.cell (j := 1) rfl) rfl) (gM rfl ?_)))
   replace hm : Mem w0 hz _ [ow [aC] aB.args, hole [sV aG aH a_.length aE] [aC] (fun (y : List Int) => ((aA.1.set (aD).toNat (⟨aA.2, aB.args⟩ : Phi_)) : List Phi_).set (aD).toNat (⟨aA.2, y⟩ : Phi_))] := hm.open 0 rfl (foc_elem aJ aI rfl (show FocH (α := Phi_) _ _ (⟨aA.2, aB.args⟩ : Phi_) [aC] aB.args (fun y => (⟨aA.2, y⟩ : Phi_)) from (foc_snd (α := Int) (β := (List Int)) (cs := [nV aA.2]) (ds := [aC]) (v := [aC]) (inner := aB.args) (x := aB.args) (z := aA.2) (put := fun (y : List Int) => y) rfl (foc_id [aC] aB.args))))
   obtain ⟨aQ, hle, hm1, hsub, aR⟩ := hm.take2 (L1 := [ow [aC] aB.args]) (L2 := [hole [sV aG aH a_.length aE] [aC] (fun (y : List Int) => ((aA.1.set (aD).toNat (⟨aA.2, aB.args⟩ : Phi_)) : List Phi_).set (aD).toNat (⟨aA.2, y⟩ : Phi_))]) [0] [1] (by decide) rfl rfl
   refine gCg rfl call132 (laws_markIntS_ok _ aQ aB.args aC (w64 (aA.2 + 1)) hm1 ) ?_
   rintro aS ab ac w ⟨rfl, hB⟩
   replace hm := aR _ _ hB; clear hB
   replace hm := (hm.shut 1 0 (by decide) rfl rfl).pk (L' := [ow [sV aG aH a_.length aE] ((aA.1.set (aD).toNat (⟨aA.2, aB.args⟩ : Phi_)).set (aD).toNat (⟨aA.2, aS.2⟩ : Phi_))]) [1] rfl rfl
   exact gA rfl (gE (gR (gM rfl (gP (by omega) (by omega) rfl (gA rfl (gE (gze hm [0] rfl)))))))
  repeat clear hm
  intro ae af w hm ag ah
  refine gS (gS (gR (gM rfl (gM rfl ?_))))
  have ai := rep_len (hm.ow_rep 0 rfl)
  exact gY (yV st_55 rfl) (gB rfl (gE (go _ 9 rfl (decide_eq_false (by omega)) (gcf rfl (gXt (gHh (gS (gR (gM rfl (gA rfl (gE (gRt (gr1 results130 rfl ⟨rfl, hm.pk [0] rfl rfl⟩)))))))))))))
theorem laws_markInsS_ok (w0 : World) (hz : Heap) (a_ : List Ins_) (v1 : Value) (k_ : Int) (hm0 : Mem w0 hz w0 [ow [v1] a_]) :
    ConM Tryz.prog 131 [v1, nV k_] w0 (laws_markInsS a_ k_) fun r v w' => v = (nV r.1) ∧ Mem w0 hz w' [ow [v1] r.2] := by
  unfold laws_markInsS
  refine gcon func131 rfl fun r => ?_
  have hm := hm0
  refine gS (gR (gA rfl (gE (gS (gS (gR (gA rfl (gE ?_))))))))
  obtain ⟨aV, aG, rfl, af⟩ := ro_slice (hm.ow_rep 0 rfl)
  refine gBk (gNf hm (fun aD aB => [(0, (.slice aV a_.length aG)), (1, (nV aB.2)), (5, (nV aD))]) (fun aD aB => [ow [.slice aV a_.length aG] aB.1]) [0] rfl ?_ ?_)
  ·repeat clear hm
   intro _ _ aD aB w hm ag ah ai _
   refine gS (gS (gR (gM rfl (gM rfl ?_))))
   have aj := rep_len (hm.ow_rep 0 rfl)
   refine gY (yV st_56 rfl) (gB rfl (gE (go _ 9 rfl (decide_eq_true (by omega)) (gct rfl (gSk (gS (gBk (gS (gR (gM rfl (gM rfl (gM rfl (gg fun aA aP aH => ?_)))))))))))))
   obtain ⟨aI, aJ, ak, he⟩ := idx_form' (hm.ow_rep 0 rfl) aH
   obtain ⟨rfl, _, rfl⟩ := sl3 he
   obtain ⟨aW, aX, am⟩ := rk_Ins_ (hm.ow_rep 0 rfl) aH
   have hL1_1 := rep_slice_len (hm.ow_rep 0 rfl)
   refine gI st_56 aP (idx_lt2 aH hL1_1) rfl (gF fo_61_0 rfl (gf0 rfl (fun a hf => e_setElemR (x1 := ((⟨aB.2, aA.to, aA.args, aA.n_⟩ : Ins_) : Ins_)) (j := 0) (vs := [nV aB.2]) 0 hf hm rfl aH aX rfl (fun F h ho => (fun _ => own_fst_map (α := Int) (β := Int × (List Int) × Int) (cs := [nV aA.op]) (cs' := [nV aB.2]) (ds := [nV aA.to, aW, nV aA.n_]) rfl (fun _ _ => Flat.own_iff.2 rfl)) F ho) rfl sizeOf3 rfl rfl rfl (one_cons rfl one_nil) rfl) ?_))
   rintro _ w hm
   have aM := List.getElem?_set_self (a := ((⟨aB.2, aA.to, aA.args, aA.n_⟩ : Ins_) : Ins_)) (idx_lt aH)
   refine gE (gS (gR (gM rfl (gB rfl (gA rfl (gE (gS (gR (gM rfl (gM rfl (gM rfl ?_)))))))))))
   obtain ⟨_, _, aQ, aY⟩ := ro_get' (hm.ow_rep 0 rfl) aM
   obtain ⟨_, _, rfl, rfl, _, _, rfl, rfl, _, _, rfl, aR, rfl⟩ := aY
   obtain ⟨aK, rfl, -⟩ := id aR
   replace aR : GT.rep (hp _) [aK] aA.args := aR
   replace aQ : CellsAt (hp _) aI (aJ + (aD).toNat * 4) [nV aB.2, nV aA.to, aK, nV aA.n_] := aQ
   have hL1_2 := rep_slice_len (hm.ow_rep 0 rfl)
   refine gI st_56 aP (idx_lt2 aM hL1_2) rfl (gF fo_61_1 rfl (gf0 rfl (fun a hf => e_setElemR (x1 := ((⟨aB.2, w64 (aB.2 + 1), aA.args, aA.n_⟩ : Ins_) : Ins_)) (j := 1) (vs := [nV (w64 (aB.2 + 1))]) 0 hf hm rfl aM aQ rfl (fun F h ho => (fun _ => own_snd_map (α := Int) (β := Int × (List Int) × Int) (cs := [nV aB.2]) (ds := [nV aA.to, aK, nV aA.n_]) (ds' := [nV (w64 (aB.2 + 1)), aK, nV aA.n_]) rfl (fun _ => own_fst_map (α := Int) (β := (List Int) × Int) (cs := [nV aA.to]) (cs' := [nV (w64 (aB.2 + 1))]) (ds := [aK, nV aA.n_]) rfl (fun _ _ => Flat.own_iff.2 rfl))) F ho) rfl sizeOf3 rfl rfl rfl (one_cons rfl one_nil) rfl) ?_))
   rintro _ w hm
   have aS := List.getElem?_set_self (a := ((⟨aB.2, w64 (aB.2 + 1), aA.args, aA.n_⟩ : Ins_) : Ins_)) (idx_lt aM)
   refine gE (gS (gR (gM rfl (gB rfl (gA rfl (gE (gS (gR (gM rfl (gM rfl ?_))))))))))
   obtain ⟨_, _, aN, aZ⟩ := ro_get' (hm.ow_rep 0 rfl) aS
   obtain ⟨_, _, rfl, rfl, _, _, rfl, rfl, _, _, rfl, aT, rfl⟩ := aZ
   obtain ⟨aC, rfl, -⟩ := id aT
   replace aT : GT.rep (hp _) [aC] aA.args := aT
   replace aN : CellsAt (hp _) aI (aJ + (aD).toNat * 4) [nV aB.2, nV (w64 (aB.2 + 1)), aC, nV aA.n_] := aN
   have hL1_3 := rep_slice_len (hm.ow_rep 0 rfl)
   refine gI st_56 aP (idx_lt2 aS hL1_3) rfl (gF fo_61_2 rfl (gY (yl isAgg57 (aN.cell (j := 2) rfl) rfl) (gM rfl ?_)))
   replace hm : Mem w0 hz _ [ow [aC] aA.args, hole [sV aI aJ a_.length aG] [aC] (fun (y : List Int) => (((aB.1.set (aD).toNat (⟨aB.2, aA.to, aA.args, aA.n_⟩ : Ins_)).set (aD).toNat (⟨aB.2, w64 (aB.2 + 1), aA.args, aA.n_⟩ : Ins_)) : List Ins_).set (aD).toNat (⟨aB.2, w64 (aB.2 + 1), y, aA.n_⟩ : Ins_))] := hm.open 0 rfl (foc_elem aS aN rfl (show FocH (α := Ins_) _ _ (⟨aB.2, w64 (aB.2 + 1), aA.args, aA.n_⟩ : Ins_) [aC] aA.args (fun y => (⟨aB.2, w64 (aB.2 + 1), y, aA.n_⟩ : Ins_)) from (foc_snd (α := Int) (β := Int × (List Int) × Int) (cs := [nV aB.2]) (ds := [nV (w64 (aB.2 + 1)), aC, nV aA.n_]) (v := [aC]) (inner := aA.args) (x := (w64 (aB.2 + 1), aA.args, aA.n_)) (z := aB.2) (put := fun (y : List Int) => (w64 (aB.2 + 1), y, aA.n_)) rfl (foc_snd (α := Int) (β := (List Int) × Int) (cs := [nV (w64 (aB.2 + 1))]) (ds := [aC, nV aA.n_]) (v := [aC]) (inner := aA.args) (x := (aA.args, aA.n_)) (z := w64 (aB.2 + 1)) (put := fun (y : List Int) => (y, aA.n_)) rfl (foc_fst (α := List Int) (β := Int) (cs := [aC]) (ds := [nV aA.n_]) (v := [aC]) (inner := aA.args) (x := aA.args) (z := aA.n_) (put := fun (y : List Int) => y) rfl (foc_id [aC] aA.args))))))
   obtain ⟨aa, hle, hm1, hsub, ab⟩ := hm.take2 (L1 := [ow [aC] aA.args]) (L2 := [hole [sV aI aJ a_.length aG] [aC] (fun (y : List Int) => (((aB.1.set (aD).toNat (⟨aB.2, aA.to, aA.args, aA.n_⟩ : Ins_)).set (aD).toNat (⟨aB.2, w64 (aB.2 + 1), aA.args, aA.n_⟩ : Ins_)) : List Ins_).set (aD).toNat (⟨aB.2, w64 (aB.2 + 1), y, aA.n_⟩ : Ins_))]) [0] [1] (by decide) rfl rfl
   refine gCg rfl call132 (laws_markIntS_ok _ aa aA.args aC (w64 ((w64 (aB.2 + 1)) + 1)) hm1 ) ?_
   rintro aF an ao w ⟨rfl, hB⟩
   replace hm := ab _ _ hB; clear hB
   replace hm := (hm.shut 1 0 (by decide) rfl rfl).pk (L' := [ow [sV aI aJ a_.length aG] (((aB.1.set (aD).toNat (⟨aB.2, aA.to, aA.args, aA.n_⟩ : Ins_)).set (aD).toNat (⟨aB.2, w64 (aB.2 + 1), aA.args, aA.n_⟩ : Ins_)).set (aD).toNat (⟨aB.2, w64 (aB.2 + 1), aF.2, aA.n_⟩ : Ins_))]) [1] rfl rfl
   refine gA rfl (gE (gS (gR (gM rfl (gM rfl (gM rfl (gg fun aE ac aO => ?_)))))))
   obtain ⟨aL, ae, ap⟩ := rk_Ins_ (hm.ow_rep 0 rfl) aO
   have hL1_4 := rep_slice_len (hm.ow_rep 0 rfl)
   refine gI st_56 ac (idx_lt2 aO hL1_4) rfl (gF fo_61_3 rfl (gf0 rfl (fun a hf => e_setElemR (x1 := ((⟨aE.op, aE.to, aE.args, aF.1⟩ : Ins_) : Ins_)) (j := 3) (vs := [nV aF.1]) 0 hf hm rfl aO ae rfl (fun F h ho => (fun _ => own_snd_map (α := Int) (β := Int × (List Int) × Int) (cs := [nV aE.op]) (ds := [nV aE.to, aL, nV aE.n_]) (ds' := [nV aE.to, aL, nV aF.1]) rfl (fun _ => own_snd_map (α := Int) (β := (List Int) × Int) (cs := [nV aE.to]) (ds := [aL, nV aE.n_]) (ds' := [aL, nV aF.1]) rfl (fun _ => own_snd_map (α := List Int) (β := Int) (cs := [aL]) (ds := [nV aE.n_]) (ds' := [nV aF.1]) rfl (fun _ _ => Flat.own_iff.2 rfl)))) F ho) rfl sizeOf3 rfl rfl rfl (one_cons rfl one_nil) rfl) ?_))
   rintro _ w hm
   have aq := List.getElem?_set_self (a := ((⟨aE.op, aE.to, aE.args, aF.1⟩ : Ins_) : Ins_)) (idx_lt aO)
   exact gE (gR (gM rfl (gB rfl (gA rfl (gE (gR (gM rfl (gP (by omega) (by omega) rfl (gA rfl (gE (gze hm [0] rfl)))))))))))
  repeat clear hm
  intro ar au w hm aw ax
  refine gS (gS (gR (gM rfl (gM rfl ?_))))
  have ay := rep_len (hm.ow_rep 0 rfl)
  exact gY (yV st_56 rfl) (gB rfl (gE (go _ 9 rfl (decide_eq_false (by omega)) (gcf rfl (gXt (gHh (gS (gR (gM rfl (gA rfl (gE (gRt (gr1 results131 rfl ⟨rfl, hm.pk [0] rfl rfl⟩)))))))))))))
theorem laws_markBlockS_ok (w0 : World) (hz : Heap) (a_ : List Block_) (v1 : Value) (k_ : Int) (hm0 : Mem w0 hz w0 [ow [v1] a_]) :
    ConM Tryz.prog 82 [v1, nV k_] w0 (laws_markBlockS a_ k_) fun r v w' => v = (nV r.1) ∧ Mem w0 hz w' [ow [v1] r.2] := by
  unfold laws_markBlockS
  refine gcon func82 rfl fun r => ?_
  have hm := hm0
  refine gS (gR (gA rfl (gE (gS (gS (gR (gA rfl (gE ?_))))))))
  obtain ⟨ak, aH, rfl, bJ⟩ := ro_slice (hm.ow_rep 0 rfl)
  refine gBk (gNf hm (fun aE aG => [(0, (.slice ak a_.length aH)), (1, (nV aG.2)), (5, (nV aE))]) (fun aE aG => [ow [.slice ak a_.length aH] aG.1]) [0] rfl ?_ ?_)
  ·repeat clear hm
   intro _ _ aE aG w hm bK bL bM _
   refine gS (gS (gR (gM rfl (gM rfl ?_))))
   have bN := rep_len (hm.ow_rep 0 rfl)
   refine gY (yV st_42 rfl) (gB rfl (gE (go _ 9 rfl (decide_eq_true (by omega)) (gct rfl (gSk (gS (gBk (gS (gR (gM rfl (gM rfl (gg fun aC ap aQ => ?_))))))))))))
   obtain ⟨aI, aJ, bO, he⟩ := idx_form' (hm.ow_rep 0 rfl) aQ
   obtain ⟨rfl, _, rfl⟩ := sl3 he
   obtain ⟨aL, aq, ar, am, bP, bQ, bR⟩ := rk_Block_ (hm.ow_rep 0 rfl) aQ
   have hL1_1 := rep_slice_len (hm.ow_rep 0 rfl)
   refine gI st_42 ap (idx_lt2 aQ hL1_1) rfl (gF fo_59_0 rfl (gY (yl isAgg55 (am.cell (j := 0) rfl) rfl) (gM rfl ?_)))
   replace hm : Mem w0 hz _ [ow [aL] aC.phis, hole [sV aI aJ a_.length aH] [aL] (fun (y : List Phi_) => (aG.1 : List Block_).set (aE).toNat (⟨y, aC.ins, aC.jump, aC.on, aC.next_⟩ : Block_))] := hm.open 0 rfl (foc_elem aQ am rfl (show FocH (α := Block_) _ _ aC [aL] aC.phis (fun y => (⟨y, aC.ins, aC.jump, aC.on, aC.next_⟩ : Block_)) from (foc_fst (α := List Phi_) (β := (List Ins_) × Int × Int × (List Int)) (cs := [aL]) (ds := [aq, nV aC.jump, nV aC.on, ar]) (v := [aL]) (inner := aC.phis) (x := aC.phis) (z := (aC.ins, aC.jump, aC.on, aC.next_)) (put := fun (y : List Phi_) => y) rfl (foc_id [aL] aC.phis))))
   obtain ⟨au, hle, hm1, hsub, aw⟩ := hm.take2 (L1 := [ow [aL] aC.phis]) (L2 := [hole [sV aI aJ a_.length aH] [aL] (fun (y : List Phi_) => (aG.1 : List Block_).set (aE).toNat (⟨y, aC.ins, aC.jump, aC.on, aC.next_⟩ : Block_))]) [0] [1] (by decide) rfl rfl
   refine gCg rfl call130 (laws_markPhiS_ok _ au aC.phis aL aG.2 hm1 ) ?_
   rintro aN bS bT w ⟨rfl, hB⟩
   replace hm := aw _ _ hB; clear hB
   replace hm := (hm.shut 1 0 (by decide) rfl rfl).pk (L' := [ow [sV aI aJ a_.length aH] (aG.1.set (aE).toNat (⟨aN.2, aC.ins, aC.jump, aC.on, aC.next_⟩ : Block_))]) [1] rfl rfl
   refine gA rfl (gE (gS (gR (gM rfl (gM rfl (gg fun aD ax aW => ?_))))))
   obtain ⟨ay, aK, an, ao, bU, bV, bW⟩ := rk_Block_ (hm.ow_rep 0 rfl) aW
   have hL1_2 := rep_slice_len (hm.ow_rep 0 rfl)
   refine gI st_42 ax (idx_lt2 aW hL1_2) rfl (gF fo_59_1 rfl (gY (yl isAgg56 (ao.cell (j := 1) rfl) rfl) (gM rfl ?_)))
   replace hm : Mem w0 hz _ [ow [aK] aD.ins, hole [sV aI aJ a_.length aH] [aK] (fun (y : List Ins_) => ((aG.1.set (aE).toNat (⟨aN.2, aC.ins, aC.jump, aC.on, aC.next_⟩ : Block_)) : List Block_).set (aE).toNat (⟨aD.phis, y, aD.jump, aD.on, aD.next_⟩ : Block_))] := hm.open 0 rfl (foc_elem aW ao rfl (show FocH (α := Block_) _ _ aD [aK] aD.ins (fun y => (⟨aD.phis, y, aD.jump, aD.on, aD.next_⟩ : Block_)) from (foc_snd (α := List Phi_) (β := (List Ins_) × Int × Int × (List Int)) (cs := [ay]) (ds := [aK, nV aD.jump, nV aD.on, an]) (v := [aK]) (inner := aD.ins) (x := (aD.ins, aD.jump, aD.on, aD.next_)) (z := aD.phis) (put := fun (y : List Ins_) => (y, aD.jump, aD.on, aD.next_)) rfl (foc_fst (α := List Ins_) (β := Int × Int × (List Int)) (cs := [aK]) (ds := [nV aD.jump, nV aD.on, an]) (v := [aK]) (inner := aD.ins) (x := aD.ins) (z := (aD.jump, aD.on, aD.next_)) (put := fun (y : List Ins_) => y) rfl (foc_id [aK] aD.ins)))))
   obtain ⟨az, hle, hm1, hsub, bA⟩ := hm.take2 (L1 := [ow [aK] aD.ins]) (L2 := [hole [sV aI aJ a_.length aH] [aK] (fun (y : List Ins_) => ((aG.1.set (aE).toNat (⟨aN.2, aC.ins, aC.jump, aC.on, aC.next_⟩ : Block_)) : List Block_).set (aE).toNat (⟨aD.phis, y, aD.jump, aD.on, aD.next_⟩ : Block_))]) [0] [1] (by decide) rfl rfl
   refine gCg rfl call131 (laws_markInsS_ok _ az aD.ins aK aN.1 hm1 ) ?_
   rintro aB bX bY w ⟨rfl, hB⟩
   replace hm := bA _ _ hB; clear hB
   replace hm := (hm.shut 1 0 (by decide) rfl rfl).pk (L' := [ow [sV aI aJ a_.length aH] ((aG.1.set (aE).toNat (⟨aN.2, aC.ins, aC.jump, aC.on, aC.next_⟩ : Block_)).set (aE).toNat (⟨aD.phis, aB.2, aD.jump, aD.on, aD.next_⟩ : Block_))]) [1] rfl rfl
   refine gA rfl (gE (gS (gR (gM rfl (gM rfl (gM rfl (gg fun aA aX aR => ?_)))))))
   obtain ⟨bB, aY, aO, bC, bZ, b7, b8⟩ := rk_Block_ (hm.ow_rep 0 rfl) aR
   have hL1_3 := rep_slice_len (hm.ow_rep 0 rfl)
   refine gI st_42 aX (idx_lt2 aR hL1_3) rfl (gF fo_59_2 rfl (gf0 rfl (fun a hf => e_setElemR (x1 := ((⟨aA.phis, aA.ins, aB.1, aA.on, aA.next_⟩ : Block_) : Block_)) (j := 2) (vs := [nV aB.1]) 0 hf hm rfl aR bC rfl (fun F h ho => (fun _ => own_snd_map (α := List Phi_) (β := (List Ins_) × Int × Int × (List Int)) (cs := [bB]) (ds := [aY, nV aA.jump, nV aA.on, aO]) (ds' := [aY, nV aB.1, nV aA.on, aO]) rfl (fun _ => own_snd_map (α := List Ins_) (β := Int × Int × (List Int)) (cs := [aY]) (ds := [nV aA.jump, nV aA.on, aO]) (ds' := [nV aB.1, nV aA.on, aO]) rfl (fun _ => own_fst_map (α := Int) (β := Int × (List Int)) (cs := [nV aA.jump]) (cs' := [nV aB.1]) (ds := [nV aA.on, aO]) rfl (fun _ _ => Flat.own_iff.2 rfl)))) F ho) rfl sizeOf3 rfl rfl rfl (one_cons rfl one_nil) rfl) ?_))
   rintro _ w hm
   have aS := List.getElem?_set_self (a := ((⟨aA.phis, aA.ins, aB.1, aA.on, aA.next_⟩ : Block_) : Block_)) (idx_lt aR)
   refine gE (gS (gR (gM rfl (gB rfl (gA rfl (gE (gS (gR (gM rfl (gM rfl (gM rfl ?_)))))))))))
   obtain ⟨_, _, aZ, bD⟩ := ro_get' (hm.ow_rep 0 rfl) aS
   obtain ⟨_, _, rfl, aa, _, _, rfl, ab, _, _, rfl, rfl, _, _, rfl, rfl, ac⟩ := bD
   obtain ⟨ae, rfl, -⟩ := id aa
   replace aa : GT.rep (hp _) [ae] aA.phis := aa
   obtain ⟨aP, rfl, -⟩ := id ab
   replace ab : GT.rep (hp _) [aP] aA.ins := ab
   obtain ⟨aM, rfl, -⟩ := id ac
   replace ac : GT.rep (hp _) [aM] aA.next_ := ac
   replace aZ : CellsAt (hp _) aI (aJ + (aE).toNat * 5) [ae, aP, nV aB.1, nV aA.on, aM] := aZ
   have hL1_4 := rep_slice_len (hm.ow_rep 0 rfl)
   refine gI st_42 aX (idx_lt2 aS hL1_4) rfl (gF fo_59_3 rfl (gf0 rfl (fun a hf => e_setElemR (x1 := ((⟨aA.phis, aA.ins, aB.1, w64 (aB.1 + 1), aA.next_⟩ : Block_) : Block_)) (j := 3) (vs := [nV (w64 (aB.1 + 1))]) 0 hf hm rfl aS aZ rfl (fun F h ho => (fun _ => own_snd_map (α := List Phi_) (β := (List Ins_) × Int × Int × (List Int)) (cs := [ae]) (ds := [aP, nV aB.1, nV aA.on, aM]) (ds' := [aP, nV aB.1, nV (w64 (aB.1 + 1)), aM]) rfl (fun _ => own_snd_map (α := List Ins_) (β := Int × Int × (List Int)) (cs := [aP]) (ds := [nV aB.1, nV aA.on, aM]) (ds' := [nV aB.1, nV (w64 (aB.1 + 1)), aM]) rfl (fun _ => own_snd_map (α := Int) (β := Int × (List Int)) (cs := [nV aB.1]) (ds := [nV aA.on, aM]) (ds' := [nV (w64 (aB.1 + 1)), aM]) rfl (fun _ => own_fst_map (α := Int) (β := (List Int)) (cs := [nV aA.on]) (cs' := [nV (w64 (aB.1 + 1))]) (ds := [aM]) rfl (fun _ _ => Flat.own_iff.2 rfl))))) F ho) rfl sizeOf3 rfl rfl rfl (one_cons rfl one_nil) rfl) ?_))
   rintro _ w hm
   have af := List.getElem?_set_self (a := ((⟨aA.phis, aA.ins, aB.1, w64 (aB.1 + 1), aA.next_⟩ : Block_) : Block_)) (idx_lt aS)
   refine gE (gS (gR (gM rfl (gB rfl (gA rfl (gE (gR (gM rfl (gM rfl ?_)))))))))
   obtain ⟨_, _, aT, bE⟩ := ro_get' (hm.ow_rep 0 rfl) af
   obtain ⟨_, _, rfl, ag, _, _, rfl, ah, _, _, rfl, rfl, _, _, rfl, rfl, ai⟩ := bE
   obtain ⟨aj, rfl, -⟩ := id ag
   replace ag : GT.rep (hp _) [aj] aA.phis := ag
   obtain ⟨aV, rfl, -⟩ := id ah
   replace ah : GT.rep (hp _) [aV] aA.ins := ah
   obtain ⟨aF, rfl, -⟩ := id ai
   replace ai : GT.rep (hp _) [aF] aA.next_ := ai
   replace aT : CellsAt (hp _) aI (aJ + (aE).toNat * 5) [aj, aV, nV aB.1, nV (w64 (aB.1 + 1)), aF] := aT
   have hL1_5 := rep_slice_len (hm.ow_rep 0 rfl)
   refine gI st_42 aX (idx_lt2 af hL1_5) rfl (gF fo_59_4 rfl (gY (yl isAgg57 (aT.cell (j := 4) rfl) rfl) (gM rfl ?_)))
   replace hm : Mem w0 hz _ [ow [aF] aA.next_, hole [sV aI aJ a_.length aH] [aF] (fun (y : List Int) => (((((aG.1.set (aE).toNat (⟨aN.2, aC.ins, aC.jump, aC.on, aC.next_⟩ : Block_)).set (aE).toNat (⟨aD.phis, aB.2, aD.jump, aD.on, aD.next_⟩ : Block_)).set (aE).toNat (⟨aA.phis, aA.ins, aB.1, aA.on, aA.next_⟩ : Block_)).set (aE).toNat (⟨aA.phis, aA.ins, aB.1, w64 (aB.1 + 1), aA.next_⟩ : Block_)) : List Block_).set (aE).toNat (⟨aA.phis, aA.ins, aB.1, w64 (aB.1 + 1), y⟩ : Block_))] := hm.open 0 rfl (foc_elem af aT rfl (show FocH (α := Block_) _ _ (⟨aA.phis, aA.ins, aB.1, w64 (aB.1 + 1), aA.next_⟩ : Block_) [aF] aA.next_ (fun y => (⟨aA.phis, aA.ins, aB.1, w64 (aB.1 + 1), y⟩ : Block_)) from (foc_snd (α := List Phi_) (β := (List Ins_) × Int × Int × (List Int)) (cs := [aj]) (ds := [aV, nV aB.1, nV (w64 (aB.1 + 1)), aF]) (v := [aF]) (inner := aA.next_) (x := (aA.ins, aB.1, w64 (aB.1 + 1), aA.next_)) (z := aA.phis) (put := fun (y : List Int) => (aA.ins, aB.1, w64 (aB.1 + 1), y)) rfl (foc_snd (α := List Ins_) (β := Int × Int × (List Int)) (cs := [aV]) (ds := [nV aB.1, nV (w64 (aB.1 + 1)), aF]) (v := [aF]) (inner := aA.next_) (x := (aB.1, w64 (aB.1 + 1), aA.next_)) (z := aA.ins) (put := fun (y : List Int) => (aB.1, w64 (aB.1 + 1), y)) rfl (foc_snd (α := Int) (β := Int × (List Int)) (cs := [nV aB.1]) (ds := [nV (w64 (aB.1 + 1)), aF]) (v := [aF]) (inner := aA.next_) (x := (w64 (aB.1 + 1), aA.next_)) (z := aB.1) (put := fun (y : List Int) => (w64 (aB.1 + 1), y)) rfl (foc_snd (α := Int) (β := (List Int)) (cs := [nV (w64 (aB.1 + 1))]) (ds := [aF]) (v := [aF]) (inner := aA.next_) (x := aA.next_) (z := w64 (aB.1 + 1)) (put := fun (y : List Int) => y) rfl (foc_id [aF] aA.next_)))))))
   obtain ⟨bF, hle, hm1, hsub, bG⟩ := hm.take2 (L1 := [ow [aF] aA.next_]) (L2 := [hole [sV aI aJ a_.length aH] [aF] (fun (y : List Int) => (((((aG.1.set (aE).toNat (⟨aN.2, aC.ins, aC.jump, aC.on, aC.next_⟩ : Block_)).set (aE).toNat (⟨aD.phis, aB.2, aD.jump, aD.on, aD.next_⟩ : Block_)).set (aE).toNat (⟨aA.phis, aA.ins, aB.1, aA.on, aA.next_⟩ : Block_)).set (aE).toNat (⟨aA.phis, aA.ins, aB.1, w64 (aB.1 + 1), aA.next_⟩ : Block_)) : List Block_).set (aE).toNat (⟨aA.phis, aA.ins, aB.1, w64 (aB.1 + 1), y⟩ : Block_))]) [0] [1] (by decide) rfl rfl
   refine gCg rfl call132 (laws_markIntS_ok _ bF aA.next_ aF (w64 ((w64 (aB.1 + 1)) + 1)) hm1 ) ?_
   rintro bH b9 ba w ⟨rfl, hB⟩
   replace hm := bG _ _ hB; clear hB
   replace hm := (hm.shut 1 0 (by decide) rfl rfl).pk (L' := [ow [sV aI aJ a_.length aH] (((((aG.1.set (aE).toNat (⟨aN.2, aC.ins, aC.jump, aC.on, aC.next_⟩ : Block_)).set (aE).toNat (⟨aD.phis, aB.2, aD.jump, aD.on, aD.next_⟩ : Block_)).set (aE).toNat (⟨aA.phis, aA.ins, aB.1, aA.on, aA.next_⟩ : Block_)).set (aE).toNat (⟨aA.phis, aA.ins, aB.1, w64 (aB.1 + 1), aA.next_⟩ : Block_)).set (aE).toNat (⟨aA.phis, aA.ins, aB.1, w64 (aB.1 + 1), bH.2⟩ : Block_))]) [1] rfl rfl
   exact gA rfl (gE (gR (gM rfl (gP (by omega) (by omega) rfl (gA rfl (gE (gze hm [0] rfl)))))))
  repeat clear hm
  intro bb bc w hm bd be
  refine gS (gS (gR (gM rfl (gM rfl ?_))))
  have bf := rep_len (hm.ow_rep 0 rfl)
  exact gY (yV st_42 rfl) (gB rfl (gE (go _ 9 rfl (decide_eq_false (by omega)) (gcf rfl (gXt (gHh (gS (gR (gM rfl (gA rfl (gE (gRt (gr1 results82 rfl ⟨rfl, hm.pk [0] rfl rfl⟩)))))))))))))
theorem laws_markCodeS_ok (w0 : World) (hz : Heap) (a_ : List Code_) (v1 : Value) (k_ : Int) (hm0 : Mem w0 hz w0 [ow [v1] a_]) :
    ConM Tryz.prog 36 [v1, nV k_] w0 (laws_markCodeS a_ k_) fun r v w' => v = (nV r.1) ∧ Mem w0 hz w' [ow [v1] r.2] := by
  unfold laws_markCodeS
  refine gcon func36 rfl fun r => ?_
  have hm := hm0
  refine gS (gR (gA rfl (gE (gS (gS (gR (gA rfl (gE ?_))))))))
  obtain ⟨aQ, aE, rfl, aZ⟩ := ro_slice (hm.ow_rep 0 rfl)
  refine gBk (gNf hm (fun aC aA => [(0, (.slice aQ a_.length aE)), (1, (nV aA.2)), (5, (nV aC))]) (fun aC aA => [ow [.slice aQ a_.length aE] aA.1]) [0] rfl ?_ ?_)
  ·repeat clear hm
   intro _ _ aC aA w hm aa ab ac _
   refine gS (gS (gR (gM rfl (gM rfl ?_))))
   have ae := rep_len (hm.ow_rep 0 rfl)
   refine gY (yV st_26 rfl) (gB rfl (gE (go _ 9 rfl (decide_eq_true (by omega)) (gct rfl (gSk (gS (gBk (gS (gR (gM rfl (gM rfl (gM rfl (gg fun aB aL aF => ?_)))))))))))))
   obtain ⟨aG, aH, af, he⟩ := idx_form' (hm.ow_rep 0 rfl) aF
   obtain ⟨rfl, _, rfl⟩ := sl3 he
   obtain ⟨aR, aS, ag⟩ := rk_Code_ (hm.ow_rep 0 rfl) aF
   have hL1_1 := rep_slice_len (hm.ow_rep 0 rfl)
   refine gI st_26 aL (idx_lt2 aF hL1_1) rfl (gF fo_44_0 rfl (gf0 rfl (fun a hf => e_setElemR (x1 := ((⟨aA.2, aB.regs, aB.blocks⟩ : Code_) : Code_)) (j := 0) (vs := [nV aA.2]) 0 hf hm rfl aF aS rfl (fun F h ho => (fun _ => own_fst_map (α := Int) (β := Int × (List Block_)) (cs := [nV aB.params]) (cs' := [nV aA.2]) (ds := [nV aB.regs, aR]) rfl (fun _ _ => Flat.own_iff.2 rfl)) F ho) rfl sizeOf3 rfl rfl rfl (one_cons rfl one_nil) rfl) ?_))
   rintro _ w hm
   have aJ := List.getElem?_set_self (a := ((⟨aA.2, aB.regs, aB.blocks⟩ : Code_) : Code_)) (idx_lt aF)
   refine gE (gS (gR (gM rfl (gB rfl (gA rfl (gE (gS (gR (gM rfl (gM rfl (gM rfl ?_)))))))))))
   obtain ⟨_, _, aM, aT⟩ := ro_get' (hm.ow_rep 0 rfl) aJ
   obtain ⟨_, _, rfl, rfl, _, _, rfl, rfl, aN⟩ := aT
   obtain ⟨aI, rfl, -⟩ := id aN
   replace aN : GT.rep (hp _) [aI] aB.blocks := aN
   replace aM : CellsAt (hp _) aG (aH + (aC).toNat * 3) [nV aA.2, nV aB.regs, aI] := aM
   have hL1_2 := rep_slice_len (hm.ow_rep 0 rfl)
   refine gI st_26 aL (idx_lt2 aJ hL1_2) rfl (gF fo_44_1 rfl (gf0 rfl (fun a hf => e_setElemR (x1 := ((⟨aA.2, w64 (aA.2 + 1), aB.blocks⟩ : Code_) : Code_)) (j := 1) (vs := [nV (w64 (aA.2 + 1))]) 0 hf hm rfl aJ aM rfl (fun F h ho => (fun _ => own_snd_map (α := Int) (β := Int × (List Block_)) (cs := [nV aA.2]) (ds := [nV aB.regs, aI]) (ds' := [nV (w64 (aA.2 + 1)), aI]) rfl (fun _ => own_fst_map (α := Int) (β := (List Block_)) (cs := [nV aB.regs]) (cs' := [nV (w64 (aA.2 + 1))]) (ds := [aI]) rfl (fun _ _ => Flat.own_iff.2 rfl))) F ho) rfl sizeOf3 rfl rfl rfl (one_cons rfl one_nil) rfl) ?_))
   rintro _ w hm
   have aO := List.getElem?_set_self (a := ((⟨aA.2, w64 (aA.2 + 1), aB.blocks⟩ : Code_) : Code_)) (idx_lt aJ)
   refine gE (gS (gR (gM rfl (gB rfl (gA rfl (gE (gR (gM rfl (gM rfl ?_)))))))))
   obtain ⟨_, _, aK, aV⟩ := ro_get' (hm.ow_rep 0 rfl) aO
   obtain ⟨_, _, rfl, rfl, _, _, rfl, rfl, aP⟩ := aV
   obtain ⟨aD, rfl, -⟩ := id aP
   replace aP : GT.rep (hp _) [aD] aB.blocks := aP
   replace aK : CellsAt (hp _) aG (aH + (aC).toNat * 3) [nV aA.2, nV (w64 (aA.2 + 1)), aD] := aK
   have hL1_3 := rep_slice_len (hm.ow_rep 0 rfl)
   refine gI st_26 aL (idx_lt2 aO hL1_3) rfl (gF fo_44_2 rfl (gY (yl isAgg42 (aK.cell (j := 2) rfl) rfl) (gM rfl ?_)))
   replace hm : Mem w0 hz _ [ow [aD] aB.blocks, hole [sV aG aH a_.length aE] [aD] (fun (y : List Block_) => (((aA.1.set (aC).toNat (⟨aA.2, aB.regs, aB.blocks⟩ : Code_)).set (aC).toNat (⟨aA.2, w64 (aA.2 + 1), aB.blocks⟩ : Code_)) : List Code_).set (aC).toNat (⟨aA.2, w64 (aA.2 + 1), y⟩ : Code_))] := hm.open 0 rfl (foc_elem aO aK rfl (show FocH (α := Code_) _ _ (⟨aA.2, w64 (aA.2 + 1), aB.blocks⟩ : Code_) [aD] aB.blocks (fun y => (⟨aA.2, w64 (aA.2 + 1), y⟩ : Code_)) from (foc_snd (α := Int) (β := Int × (List Block_)) (cs := [nV aA.2]) (ds := [nV (w64 (aA.2 + 1)), aD]) (v := [aD]) (inner := aB.blocks) (x := (w64 (aA.2 + 1), aB.blocks)) (z := aA.2) (put := fun (y : List Block_) => (w64 (aA.2 + 1), y)) rfl (foc_snd (α := Int) (β := (List Block_)) (cs := [nV (w64 (aA.2 + 1))]) (ds := [aD]) (v := [aD]) (inner := aB.blocks) (x := aB.blocks) (z := w64 (aA.2 + 1)) (put := fun (y : List Block_) => y) rfl (foc_id [aD] aB.blocks)))))
   obtain ⟨aW, hle, hm1, hsub, aX⟩ := hm.take2 (L1 := [ow [aD] aB.blocks]) (L2 := [hole [sV aG aH a_.length aE] [aD] (fun (y : List Block_) => (((aA.1.set (aC).toNat (⟨aA.2, aB.regs, aB.blocks⟩ : Code_)).set (aC).toNat (⟨aA.2, w64 (aA.2 + 1), aB.blocks⟩ : Code_)) : List Code_).set (aC).toNat (⟨aA.2, w64 (aA.2 + 1), y⟩ : Code_))]) [0] [1] (by decide) rfl rfl
   refine gCg rfl call82 (laws_markBlockS_ok _ aW aB.blocks aD (w64 ((w64 (aA.2 + 1)) + 1)) hm1 ) ?_
   rintro aY ah ai w ⟨rfl, hB⟩
   replace hm := aX _ _ hB; clear hB
   replace hm := (hm.shut 1 0 (by decide) rfl rfl).pk (L' := [ow [sV aG aH a_.length aE] (((aA.1.set (aC).toNat (⟨aA.2, aB.regs, aB.blocks⟩ : Code_)).set (aC).toNat (⟨aA.2, w64 (aA.2 + 1), aB.blocks⟩ : Code_)).set (aC).toNat (⟨aA.2, w64 (aA.2 + 1), aY.2⟩ : Code_))]) [1] rfl rfl
   exact gA rfl (gE (gR (gM rfl (gP (by omega) (by omega) rfl (gA rfl (gE (gze hm [0] rfl)))))))
  repeat clear hm
  intro aj ak w hm am an
  refine gS (gS (gR (gM rfl (gM rfl ?_))))
  have ao := rep_len (hm.ow_rep 0 rfl)
  exact gY (yV st_26 rfl) (gB rfl (gE (go _ 9 rfl (decide_eq_false (by omega)) (gcf rfl (gXt (gHh (gS (gR (gM rfl (gA rfl (gE (gRt (gr1 results36 rfl ⟨rfl, hm.pk [0] rfl rfl⟩)))))))))))))
theorem laws_markUnit_ok (w0 : World) (hz : Heap) (a_ : Unit_) (v1 : Value) (k_ : Int) (hm0 : Mem w0 hz w0 [ow [v1] a_.codes]) :
    ConM Tryz.prog 14 [(.agg #[v1]), nV k_] w0 (laws_markUnit a_ k_) fun r v w' => v = (nV r.1) ∧ Mem w0 hz w' [ow [v1] r.2] := by
  unfold laws_markUnit
  refine gcon func14 rfl fun r => ?_
  have hm := hm0
  refine gS (gR (gBx hm rfl fun aA w hm => gA rfl (gE (gS (gR (gF fo_28_0 rfl (gL hm 0 isAgg26 rfl (gM rfl ?_))))))))
  obtain ⟨aB, hle, hm1, hsub, aC⟩ := hm.take2 (L1 := [ow [v1] a_.codes]) (L2 := [blk aA [v1] 28]) [1] [0] (by decide) rfl rfl
  refine gCg rfl call36 (laws_markCodeS_ok _ aB a_.codes v1 k_ hm1 ) ?_
  rintro aD aE aF w ⟨rfl, hB⟩
  replace hm := aC _ _ hB; clear hB
  exact gA rfl (gE (gS (gR (gM rfl (gA rfl (gE (gRt (gr1 results14 rfl ⟨rfl, hm.pk [0] rfl rfl⟩))))))))
theorem laws_heldIntS_ok (w0 : World) (a_ : List Int) (v1 : Value) (h1 : GT.rep (hp w0) [v1] a_) (k_ : Int) :
    ConM Tryz.prog 135 [v1, nV k_] w0 (laws_heldIntS a_ k_) fun r v w' => v = (nV r) ∧ Below w0.heap.size w0 w' := by
  unfold laws_heldIntS
  refine gcon func135 rfl fun r => ?_
  have hm := Mem.start w0
  refine gS (gR (gA rfl (gE (gS (gS (gR (gA rfl (gE (gBk (gNf hm (fun aA aB => [(0, v1), (1, (nV aB)), (5, (nV aA))]) (fun aA aB => []) [] rfl ?_ ?_))))))))))
  ·repeat clear hm
   intro aI aD aA aB w hm aJ aK aL aE
   refine gS (gS (gR (gM rfl (gM rfl ?_))))
   obtain ⟨aM, aN, rfl, aO⟩ := ro_slice h1
   refine gY (yV st_57 rfl) (gB rfl (gE (go _ 9 rfl (decide_eq_true (by omega)) (gct rfl (gSk (gS (gBk (gS (gS (gR (gM rfl (gM rfl (gg fun aF aG aC => ?_)))))))))))))
   obtain ⟨aP, aQ, aR, he⟩ := idx_form h1 aC
   obtain ⟨rfl, _, rfl⟩ := sl3 he
   refine gI st_57 aG (idx_lt aC) rfl (gY (yl isAgg3 ((flat_cells (cs := [nV aF]) (hm.now h1) aC rfl).cell (j := 0) rfl) rfl) (gM rfl (gB rfl (gE (gsd 17 rfl (fun aH => ?_) fun aH => ?_)))))
   ·exact gct rfl (gS (gR (gA rfl (gE (gRt (gLr aE aD (gr1 results135 rfl ⟨rfl, hm.below⟩)))))))
   exact gcf rfl (gSk (gR (gM rfl (gB rfl (gA rfl (gE (gR (gM rfl (gP (by omega) (by omega) rfl (gA rfl (gE (gze hm [] rfl))))))))))))
  repeat clear hm
  intro aS aT w hm aV aW
  refine gS (gS (gR (gM rfl (gM rfl ?_))))
  obtain ⟨aX, aY, rfl, aZ⟩ := ro_slice h1
  exact gY (yV st_57 rfl) (gB rfl (gE (go _ 9 rfl (decide_eq_false (by omega)) (gcf rfl (gXt (gHh (gS (gR (gM rfl (gA rfl (gE (gRt (gr1 results135 rfl ⟨rfl, hm.below⟩)))))))))))))
theorem laws_heldPhiS_ok (w0 : World) (a_ : List Phi_) (v1 : Value) (h1 : GT.rep (hp w0) [v1] a_) (k_ : Int) :
    ConM Tryz.prog 133 [v1, nV k_] w0 (laws_heldPhiS a_ k_) fun r v w' => v = (nV r) ∧ Below w0.heap.size w0 w' := by
  unfold laws_heldPhiS
  refine gcon func133 rfl fun r => ?_
  have hm := Mem.start w0
  refine gS (gR (gA rfl (gE (gS (gS (gR (gA rfl (gE (gBk (gNf hm (fun aC aA => [(0, v1), (1, (nV aA)), (5, (nV aC))]) (fun aC aA => []) [] rfl ?_ ?_))))))))))
  ·repeat clear hm
   intro aM aD aC aA w hm aN aO aP aE
   refine gS (gS (gR (gM rfl (gM rfl ?_))))
   obtain ⟨aQ, aR, rfl, aS⟩ := ro_slice h1
   refine gY (yV st_55 rfl) (gB rfl (gE (go _ 9 rfl (decide_eq_true (by omega)) (gct rfl (gSk (gS (gBk (gS (gS (gR (gM rfl (gM rfl (gg fun aH aF aB => ?_)))))))))))))
   obtain ⟨aT, aV, aW, he⟩ := idx_form' h1 aB
   obtain ⟨rfl, _, rfl⟩ := sl3 he
   obtain ⟨aI, aG, aJ⟩ := rk_Phi_ h1 aB
   refine gI st_55 aF (idx_lt aB) rfl (gF fo_87_0 rfl (gY (yl isAgg3 ((aG.mono hm.lez).cell (j := 0) rfl) rfl) (gM rfl (gB rfl (gE (gsd 18 rfl (fun aK => ?_) fun aK => ?_))))))
   ·exact gct rfl (gS (gR (gA rfl (gE (gRt (gLr aE aD (gr1 results133 rfl ⟨rfl, hm.below⟩)))))))
   refine gcf rfl (gSk (gS (gR (gM rfl (gB rfl (gA rfl (gE (gS (gR (gM rfl (gM rfl (gI st_55 aF (idx_lt aB) rfl (gF fo_87_1 rfl (gY (yl isAgg57 ((aG.mono hm.lez).cell (j := 1) rfl) rfl) (gM rfl (gC hm rfl call135 (laws_heldIntS_ok _ aH.args aI (hm.now aJ) (w64 (aA + 1))) fun aX aY w hm => gA rfl (gE (gS (gR (gM rfl (gB rfl (gE (gsd 29 rfl (fun aL => ?_) fun aL => ?_)))))))))))))))))))))))
   ·exact gct rfl (gS (gR (gA rfl (gE (gRt (gLr aE aD (gr1 results133 rfl ⟨rfl, hm.below⟩)))))))
   exact gcf rfl (gSk (gR (gM rfl (gP (by omega) (by omega) rfl (gA rfl (gE (gze hm [] rfl)))))))
  repeat clear hm
  intro aZ aa w hm ab ac
  refine gS (gS (gR (gM rfl (gM rfl ?_))))
  obtain ⟨ae, af, rfl, ag⟩ := ro_slice h1
  exact gY (yV st_55 rfl) (gB rfl (gE (go _ 9 rfl (decide_eq_false (by omega)) (gcf rfl (gXt (gHh (gS (gR (gM rfl (gA rfl (gE (gRt (gr1 results133 rfl ⟨rfl, hm.below⟩)))))))))))))
theorem laws_heldInsS_ok (w0 : World) (a_ : List Ins_) (v1 : Value) (h1 : GT.rep (hp w0) [v1] a_) (k_ : Int) :
    ConM Tryz.prog 134 [v1, nV k_] w0 (laws_heldInsS a_ k_) fun r v w' => v = (nV r) ∧ Below w0.heap.size w0 w' := by
  unfold laws_heldInsS
  refine gcon func134 rfl fun r => ?_
  have hm := Mem.start w0
  refine gS (gR (gA rfl (gE (gS (gS (gR (gA rfl (gE (gBk (gNf hm (fun aG aB => [(0, v1), (1, (nV aB)), (5, (nV aG))]) (fun aG aB => []) [] rfl ?_ ?_))))))))))
  ·repeat clear hm
   intro aO aC aG aB w hm aP aQ aR aD
   refine gS (gS (gR (gM rfl (gM rfl ?_))))
   obtain ⟨aS, aT, rfl, aV⟩ := ro_slice h1
   refine gY (yV st_56 rfl) (gB rfl (gE (go _ 9 rfl (decide_eq_true (by omega)) (gct rfl (gSk (gS (gBk (gS (gS (gR (gM rfl (gM rfl (gg fun aH aE aA => ?_)))))))))))))
   obtain ⟨aW, aX, aY, he⟩ := idx_form' h1 aA
   obtain ⟨rfl, _, rfl⟩ := sl3 he
   obtain ⟨aI, aF, aJ⟩ := rk_Ins_ h1 aA
   refine gI st_56 aE (idx_lt aA) rfl (gF fo_61_0 rfl (gY (yl isAgg3 ((aF.mono hm.lez).cell (j := 0) rfl) rfl) (gM rfl (gB rfl (gE (gsd 18 rfl (fun aK => ?_) fun aK => ?_))))))
   ·exact gct rfl (gS (gR (gA rfl (gE (gRt (gLr aD aC (gr1 results134 rfl ⟨rfl, hm.below⟩)))))))
   refine gcf rfl (gSk (gS (gR (gM rfl (gB rfl (gA rfl (gE (gS (gS (gR (gM rfl (gM rfl (gI st_56 aE (idx_lt aA) rfl (gF fo_61_1 rfl (gY (yl isAgg3 ((aF.mono hm.lez).cell (j := 1) rfl) rfl) (gM rfl (gB rfl (gE (gsd 27 rfl (fun aL => ?_) fun aL => ?_)))))))))))))))))))
   ·exact gct rfl (gS (gR (gA rfl (gE (gRt (gLr aD aC (gr1 results134 rfl ⟨rfl, hm.below⟩)))))))
   refine gcf rfl (gSk (gS (gR (gM rfl (gB rfl (gA rfl (gE (gS (gR (gM rfl (gM rfl (gI st_56 aE (idx_lt aA) rfl (gF fo_61_2 rfl (gY (yl isAgg57 ((aF.mono hm.lez).cell (j := 2) rfl) rfl) (gM rfl (gC hm rfl call135 (laws_heldIntS_ok _ aH.args aI (hm.now aJ) (w64 ((w64 (aB + 1)) + 1))) fun aZ aa w hm => gA rfl (gE (gS (gS (gR (gM rfl (gB rfl (gE (gsd 38 rfl (fun aM => ?_) fun aM => ?_))))))))))))))))))))))))
   ·exact gct rfl (gS (gR (gA rfl (gE (gRt (gLr aD aC (gr1 results134 rfl ⟨rfl, hm.below⟩)))))))
   refine gcf rfl (gSk (gS (gS (gR (gM rfl (gM rfl (gI st_56 aE (idx_lt aA) rfl (gF fo_61_3 rfl (gY (yl isAgg3 ((aF.mono hm.lez).cell (j := 3) rfl) rfl) (gM rfl (gB rfl (gE (gsd 45 rfl (fun aN => ?_) fun aN => ?_)))))))))))))
   ·exact gct rfl (gS (gR (gA rfl (gE (gRt (gLr aD aC (gr1 results134 rfl ⟨rfl, hm.below⟩)))))))
   exact gcf rfl (gSk (gR (gM rfl (gB rfl (gA rfl (gE (gR (gM rfl (gP (by omega) (by omega) rfl (gA rfl (gE (gze hm [] rfl))))))))))))
  repeat clear hm
  intro ab ac w hm ae af
  refine gS (gS (gR (gM rfl (gM rfl ?_))))
  obtain ⟨ag, ah, rfl, ai⟩ := ro_slice h1
  exact gY (yV st_56 rfl) (gB rfl (gE (go _ 9 rfl (decide_eq_false (by omega)) (gcf rfl (gXt (gHh (gS (gR (gM rfl (gA rfl (gE (gRt (gr1 results134 rfl ⟨rfl, hm.below⟩)))))))))))))
theorem laws_heldBlockS_ok (w0 : World) (a_ : List Block_) (v1 : Value) (h1 : GT.rep (hp w0) [v1] a_) (k_ : Int) :
    ConM Tryz.prog 83 [v1, nV k_] w0 (laws_heldBlockS a_ k_) fun r v w' => v = (nV r) ∧ Below w0.heap.size w0 w' := by
  unfold laws_heldBlockS
  refine gcon func83 rfl fun r => ?_
  have hm := Mem.start w0
  refine gS (gR (gA rfl (gE (gS (gS (gR (gA rfl (gE (gBk (gNf hm (fun aG aF => [(0, v1), (1, (nV aF)), (5, (nV aG))]) (fun aG aF => []) [] rfl ?_ ?_))))))))))
  ·repeat clear hm
   intro aW aB aG aF w hm aX aY aZ aC
   refine gS (gS (gR (gM rfl (gM rfl ?_))))
   obtain ⟨aa, ab, rfl, ac⟩ := ro_slice h1
   refine gY (yV st_42 rfl) (gB rfl (gE (go _ 9 rfl (decide_eq_true (by omega)) (gct rfl (gSk (gS (gBk (gS (gR (gM rfl (gM rfl (gg fun aH aD aA => ?_))))))))))))
   obtain ⟨ae, af, ag, he⟩ := idx_form' h1 aA
   obtain ⟨rfl, _, rfl⟩ := sl3 he
   obtain ⟨aI, aJ, aK, aE, aL, aM, aN⟩ := rk_Block_ h1 aA
   refine gI st_42 aD (idx_lt aA) rfl (gF fo_59_0 rfl (gY (yl isAgg55 ((aE.mono hm.lez).cell (j := 0) rfl) rfl) (gM rfl (gC hm rfl call133 (laws_heldPhiS_ok _ aH.phis aI (hm.now aL) aF) fun aO ah w hm => gA rfl (gE (gS (gS (gR (gM rfl (gB rfl (gE (gsd 20 rfl (fun aP => ?_) fun aP => ?_))))))))))))
   ·exact gct rfl (gS (gR (gA rfl (gE (gRt (gLr aC aB (gr1 results83 rfl ⟨rfl, hm.below⟩)))))))
   refine gcf rfl (gSk (gS (gR (gM rfl (gM rfl (gI st_42 aD (idx_lt aA) rfl (gF fo_59_1 rfl (gY (yl isAgg56 ((aE.mono hm.lez).cell (j := 1) rfl) rfl) (gM rfl (gC hm rfl call134 (laws_heldInsS_ok _ aH.ins aJ (hm.now aM) aO) fun aQ ai w hm => gA rfl (gE (gS (gS (gR (gM rfl (gB rfl (gE (gsd 29 rfl (fun aR => ?_) fun aR => ?_))))))))))))))))))
   ·exact gct rfl (gS (gR (gA rfl (gE (gRt (gLr aC aB (gr1 results83 rfl ⟨rfl, hm.below⟩)))))))
   refine gcf rfl (gSk (gS (gS (gR (gM rfl (gM rfl (gI st_42 aD (idx_lt aA) rfl (gF fo_59_2 rfl (gY (yl isAgg3 ((aE.mono hm.lez).cell (j := 2) rfl) rfl) (gM rfl (gB rfl (gE (gsd 36 rfl (fun aS => ?_) fun aS => ?_)))))))))))))
   ·exact gct rfl (gS (gR (gA rfl (gE (gRt (gLr aC aB (gr1 results83 rfl ⟨rfl, hm.below⟩)))))))
   refine gcf rfl (gSk (gS (gR (gM rfl (gB rfl (gA rfl (gE (gS (gS (gR (gM rfl (gM rfl (gI st_42 aD (idx_lt aA) rfl (gF fo_59_3 rfl (gY (yl isAgg3 ((aE.mono hm.lez).cell (j := 3) rfl) rfl) (gM rfl (gB rfl (gE (gsd 45 rfl (fun aT => ?_) fun aT => ?_)))))))))))))))))))
   ·exact gct rfl (gS (gR (gA rfl (gE (gRt (gLr aC aB (gr1 results83 rfl ⟨rfl, hm.below⟩)))))))
   refine gcf rfl (gSk (gS (gR (gM rfl (gB rfl (gA rfl (gE (gS (gR (gM rfl (gM rfl (gI st_42 aD (idx_lt aA) rfl (gF fo_59_4 rfl (gY (yl isAgg57 ((aE.mono hm.lez).cell (j := 4) rfl) rfl) (gM rfl (gC hm rfl call135 (laws_heldIntS_ok _ aH.next_ aK (hm.now aN) (w64 ((w64 (aQ + 1)) + 1))) fun aj ak w hm => gA rfl (gE (gS (gR (gM rfl (gB rfl (gE (gsd 56 rfl (fun aV => ?_) fun aV => ?_)))))))))))))))))))))))
   ·exact gct rfl (gS (gR (gA rfl (gE (gRt (gLr aC aB (gr1 results83 rfl ⟨rfl, hm.below⟩)))))))
   exact gcf rfl (gSk (gR (gM rfl (gP (by omega) (by omega) rfl (gA rfl (gE (gze hm [] rfl)))))))
  repeat clear hm
  intro am an w hm ao ap
  refine gS (gS (gR (gM rfl (gM rfl ?_))))
  obtain ⟨aq, ar, rfl, au⟩ := ro_slice h1
  exact gY (yV st_42 rfl) (gB rfl (gE (go _ 9 rfl (decide_eq_false (by omega)) (gcf rfl (gXt (gHh (gS (gR (gM rfl (gA rfl (gE (gRt (gr1 results83 rfl ⟨rfl, hm.below⟩)))))))))))))
theorem laws_heldCodeS_ok (w0 : World) (a_ : List Code_) (v1 : Value) (h1 : GT.rep (hp w0) [v1] a_) (k_ : Int) :
    ConM Tryz.prog 37 [v1, nV k_] w0 (laws_heldCodeS a_ k_) fun r v w' => v = (nV r) ∧ Below w0.heap.size w0 w' := by
  unfold laws_heldCodeS
  refine gcon func37 rfl fun r => ?_
  have hm := Mem.start w0
  refine gS (gR (gA rfl (gE (gS (gS (gR (gA rfl (gE (gBk (gNf hm (fun aC aB => [(0, v1), (1, (nV aB)), (5, (nV aC))]) (fun aC aB => []) [] rfl ?_ ?_))))))))))
  ·repeat clear hm
   intro aN aD aC aB w hm aO aP aQ aE
   refine gS (gS (gR (gM rfl (gM rfl ?_))))
   obtain ⟨aR, aS, rfl, aT⟩ := ro_slice h1
   refine gY (yV st_26 rfl) (gB rfl (gE (go _ 9 rfl (decide_eq_true (by omega)) (gct rfl (gSk (gS (gBk (gS (gS (gR (gM rfl (gM rfl (gg fun aH aF aA => ?_)))))))))))))
   obtain ⟨aV, aW, aX, he⟩ := idx_form' h1 aA
   obtain ⟨rfl, _, rfl⟩ := sl3 he
   obtain ⟨aI, aG, aJ⟩ := rk_Code_ h1 aA
   refine gI st_26 aF (idx_lt aA) rfl (gF fo_44_0 rfl (gY (yl isAgg3 ((aG.mono hm.lez).cell (j := 0) rfl) rfl) (gM rfl (gB rfl (gE (gsd 18 rfl (fun aK => ?_) fun aK => ?_))))))
   ·exact gct rfl (gS (gR (gA rfl (gE (gRt (gLr aE aD (gr1 results37 rfl ⟨rfl, hm.below⟩)))))))
   refine gcf rfl (gSk (gS (gR (gM rfl (gB rfl (gA rfl (gE (gS (gS (gR (gM rfl (gM rfl (gI st_26 aF (idx_lt aA) rfl (gF fo_44_1 rfl (gY (yl isAgg3 ((aG.mono hm.lez).cell (j := 1) rfl) rfl) (gM rfl (gB rfl (gE (gsd 27 rfl (fun aL => ?_) fun aL => ?_)))))))))))))))))))
   ·exact gct rfl (gS (gR (gA rfl (gE (gRt (gLr aE aD (gr1 results37 rfl ⟨rfl, hm.below⟩)))))))
   refine gcf rfl (gSk (gS (gR (gM rfl (gB rfl (gA rfl (gE (gS (gR (gM rfl (gM rfl (gI st_26 aF (idx_lt aA) rfl (gF fo_44_2 rfl (gY (yl isAgg42 ((aG.mono hm.lez).cell (j := 2) rfl) rfl) (gM rfl (gC hm rfl call83 (laws_heldBlockS_ok _ aH.blocks aI (hm.now aJ) (w64 ((w64 (aB + 1)) + 1))) fun aY aZ w hm => gA rfl (gE (gS (gR (gM rfl (gB rfl (gE (gsd 38 rfl (fun aM => ?_) fun aM => ?_)))))))))))))))))))))))
   ·exact gct rfl (gS (gR (gA rfl (gE (gRt (gLr aE aD (gr1 results37 rfl ⟨rfl, hm.below⟩)))))))
   exact gcf rfl (gSk (gR (gM rfl (gP (by omega) (by omega) rfl (gA rfl (gE (gze hm [] rfl)))))))
  repeat clear hm
  intro aa ab w hm ac ae
  refine gS (gS (gR (gM rfl (gM rfl ?_))))
  obtain ⟨af, ag, rfl, ah⟩ := ro_slice h1
  exact gY (yV st_26 rfl) (gB rfl (gE (go _ 9 rfl (decide_eq_false (by omega)) (gcf rfl (gXt (gHh (gS (gR (gM rfl (gA rfl (gE (gRt (gr1 results37 rfl ⟨rfl, hm.below⟩)))))))))))))
theorem laws_heldUnit_ok (w0 : World) (a_ : Unit_) (v1 : Value) (h1 : GT.rep (hp w0) [v1] a_.codes) (k_ : Int) :
    ConM Tryz.prog 15 [(.agg #[v1]), nV k_] w0 (laws_heldUnit a_ k_) fun r v w' => v = (nV r) ∧ Below w0.heap.size w0 w' := by
  unfold laws_heldUnit
  refine gcon func15 rfl fun r => ?_
  have hm := Mem.start w0
  refine gS (gR (gBx hm rfl fun aB w hm => gA rfl (gE (gS (gR (gF fo_28_0 rfl (gL hm 0 isAgg26 rfl (gM rfl (gC hm rfl call37 (laws_heldCodeS_ok _ a_.codes v1 (hm.now h1) k_) fun aC aD w hm => gA rfl (gE (gS (gS (gR (gM rfl (gB rfl (gE (gsd 10 rfl (fun aA => ?_) fun aA => ?_)))))))))))))))))
  ·exact gct rfl (gS (gR (gA rfl (gE (gRt (gr1 results15 rfl ⟨rfl, hm.below⟩))))))
  exact gcf rfl (gSk (gS (gR (gM rfl (gA rfl (gE (gRt (gr1 results15 rfl ⟨rfl, hm.below⟩))))))))
theorem laws_FnExactHoistUnit_ok (w0 : World) (aU : Unit_) (v1 : Value) (h1 : GT.rep (hp w0) [v1] aU.codes) :
    ConM Tryz.prog 7 [(.agg #[v1])] w0 (laws_FnExactHoistUnit aU) fun r v w' => v = (.bool (r)) ∧ Below w0.heap.size w0 w' := by
  unfold laws_FnExactHoistUnit
  refine gcon func7 rfl fun r => ?_
  have hm := Mem.start w0
  refine gS (gR (gBx hm rfl fun aG w hm => gA rfl (gE (gS (gR (gA rfl (gE (gS (gR (gY (yn (hm.blk_at 0 rfl) isAgg24 sizeOf24 rfl) (gM rfl (gC hm rfl call9 (laws_szUnit_ok _ aU v1 (hm.now h1) 1048576) fun au aw w hm => gA rfl (gE (gS (gS (gR (gM rfl (gB rfl (gE (gsd 18 rfl (fun aQ => ?_) fun aQ => ?_))))))))))))))))))))
  ·exact gct rfl (gS (gR (gA rfl (gE (gRt (gr1 results7 rfl ⟨rfl, hm.below⟩))))))
  refine gcf rfl (gSk (gS (gR (gY (yn (hm.blk_at 0 rfl) isAgg24 sizeOf24 rfl) (gCg rfl call11 (laws_toUnit_ok _ aU v1 (hm.now h1)) ?_)))))
  rintro aR ax ay w ⟨aS, rfl, hB⟩
  replace hm := hm.give hB; clear hB
  refine gCg rfl call22 (spec_HoistUnit_ok _ aR aS (hm.ow_rep 0 rfl)) ?_
  rintro aC az bA w ⟨aB, rfl, hB⟩
  replace hm := hm.give hB; clear hB
  refine gM rfl (gX rfl (gX rfl (gAl hm zeroValue28 rfl fun aH w hm => gSN hm 0 sizeOf28 (one_cons (rep_one (hm.ow_rep 1 rfl)) one_nil) rfl fun w hm => gA rfl (gE (gS (gR (gY (yn (hm.blk_at 3 rfl) isAgg24 sizeOf24 rfl) (gCg rfl call11 (laws_toUnit_ok _ aU v1 (hm.now h1)) ?_))))))))
  rintro aI bB bC w ⟨aD, rfl, hB⟩
  replace hm := hm.give hB; clear hB
  refine gAl hm zeroValue28 rfl fun aJ w hm => gSN hm 0 sizeOf28 (one_cons (rep_one (hm.ow_rep 1 rfl)) one_nil) rfl fun w hm => gE (gS (gR (gY (yn (hm.blk_at 0 rfl) isAgg28 sizeOf28 rfl) (gCg rfl call23 (impl_HoistUnit_ok _ aI aD (hm.ow_rep 1 rfl)) ?_))))
  rintro aE bD bE w ⟨aA, rfl, hB⟩
  replace hm := hm.give hB; clear hB
  refine gM rfl (gX rfl (gX rfl (gAl hm zeroValue28 rfl fun aF w hm => gSN hm 0 sizeOf28 (one_cons (rep_one (hm.ow_rep 1 rfl)) one_nil) rfl fun w hm => gA rfl (gE (gS (gS (gJ hm (fun aK => [(1, (pV aG)), (4, (pV aH)), (5, (.bool (aC.2))), (6, (pV aJ)), (7, (pV aF)), (8, (.bool (aE.2))), (40, (.bool (aK)))]) (fun aK => [blk aG [v1] 24, blk aH [aB] 28, ow [aB] aC.1.codes, blk aJ [aD] 28, ow [aD] aI.codes, blk aF [aA] 28, ow [aA] aE.1.codes]) (fun aK => ?_) ?_)))))))
  ·refine gR (gY (yn (hm.blk_at 0 rfl) isAgg28 sizeOf28 rfl) (gY (yn (hm.blk_at 4 rfl) isAgg28 sizeOf28 rfl) (gC hm rfl call13 (laws_eqUnit_ok _ aE.1 aA (hm.ow_rep 1 rfl) aC.1 aB (hm.ow_rep 5 rfl)) fun bF bG w hm => gN rfl (gM rfl (gsn 36 rfl (fun aT => ?_) fun aT => ?_)))))
   ·exact gO rfl (gO rfl (gO rfl (gKt rfl (gE (gz hm [7, 4, 5, 2, 3, 0, 1] rfl)))))
   exact gM rfl (gM rfl (gY (yG rfl (y_neqb underlying4 rfl rfl rfl)) (gKf rfl (gE (gz hm [7, 4, 5, 2, 3, 0, 1] rfl)))))
  repeat clear hm
  intro aK w hm
  refine gs 40 rfl (fun aV => ?_) fun aV => ?_
  ·exact gct rfl (gS (gR (gA rfl (gE (gRt (gr1 results7 rfl ⟨rfl, hm.below⟩))))))
  refine gcf rfl (gSk (gS (gS (gW (.q 0 (.e 1 (.e 2 (.e 3 (.p 4 .fin) .nil) .nil) .nil)) [1, 2] [4] hm [0, 1, 2, 3, 4, 5, 6] [blk aG [v1] 24, blk aH [aB] 28, ow [aB] aC.1.codes, blk aJ [aD] 28, ow [aD] aI.codes, blk aF [aA] 28, ow [aA] aE.1.codes] rfl mxo (by kernel_rfl) (fun _ _ _ h => h.2) fun w hm hS => tQ rfl hS (fun w hm => yn (hm.blk_at 3 rfl) isAgg28 sizeOf28 rfl) (tO (tY rfl (yn (hm.blk_at 0 rfl) isAgg24 sizeOf24 rfl) (tAs hS (tO (gb fun aO aW => tf rfl rfl (fun a hf => e_call hf rfl call11 rfl (laws_toUnit_ok _ aU v1 (hm.now h1) _ aW)) ?_)))))))))
  rintro bH w ⟨aP, rfl, hB⟩
  replace hm := hm.give hB; clear hB
  refine tAk hm [1, 2, 3, 4, 5, 6, 7] rfl fun hS => tO (gb fun bJ aX => tf rfl rfl (fun a hf => e_call hf rfl call13 rfl (laws_eqUnit_ok _ aI aD (hm.ow_rep 5 rfl) aO aP (hm.ow_rep 0 rfl) _ aX)) ?_)
  rintro bK w ⟨rfl, hB⟩
  replace hm := hm.below' hB; clear hB
  refine tAn rfl (tP rfl (fun w => yN rfl) (tE (gsn 45 rfl (fun aY => ?_) fun aY => ?_)))
  ·exact gct rfl (gS (gR (gA rfl (gE (gRt (gr1 results7 rfl ⟨rfl, hm.below⟩))))))
  refine gcf rfl (gSk (gS (gR (gA rfl (gE (gS (gR (gY (yn (hm.blk_at 4 rfl) isAgg28 sizeOf28 rfl) (gM rfl ?_)))))))))
  obtain ⟨aZ, hle, hm1, hsub, aa⟩ := hm.take2 (L1 := [ow [aD] aI.codes]) (L2 := [ow [aP] aO.codes, blk aG [v1] 24, blk aH [aB] 28, ow [aB] aC.1.codes, blk aJ [aD] 28, blk aF [aA] 28, ow [aA] aE.1.codes]) [5] [0, 1, 2, 3, 4, 6, 7] (by decide) rfl rfl
  refine gCg rfl call14 (laws_markUnit_ok _ aZ aI aD 1 hm1 ) ?_
  rintro bL bM bN w ⟨rfl, hB⟩
  replace hm := aa _ _ hB; clear hB
  refine gA rfl (gE (gS (gS (gJ hm (fun aL => [(1, (pV aG)), (4, (pV aH)), (5, (.bool (aC.2))), (7, (pV aF)), (61, (.bool (aL)))]) (fun aL => [blk aG [v1] 24, blk aH [aB] 28, ow [aB] aC.1.codes, blk aF [aA] 28, ow [aA] aE.1.codes]) (fun aL => ?_) ?_))))
  ·refine gR (gM rfl (gB rfl (gM rfl (gsd 51 rfl (fun ab => ?_) fun ab => ?_))))
   ·exact gO rfl (gO rfl (gO rfl (gO rfl (gKt rfl (gM rfl (gO rfl (gO rfl (gO rfl (gKt rfl (gE (gz hm [2, 3, 4, 6, 7] rfl)))))))))))
   refine gY (yn (hm.blk_at 6 rfl) isAgg28 sizeOf28 rfl) (gY (yn (hm.blk_at 3 rfl) isAgg28 sizeOf28 rfl) (gC hm rfl call13 (laws_eqUnit_ok _ aE.1 aA (hm.ow_rep 7 rfl) aC.1 aB (hm.ow_rep 4 rfl)) fun bO bP w hm => gN rfl (gKf rfl (gM rfl (gsn 57 rfl (fun ac => ?_) fun ac => ?_)))))
   ·exact gO rfl (gO rfl (gO rfl (gKt rfl (gE (gz hm [2, 3, 4, 6, 7] rfl)))))
   exact gM rfl (gM rfl (gY (yG rfl (y_neqb underlying4 rfl rfl rfl)) (gKf rfl (gE (gz hm [2, 3, 4, 6, 7] rfl)))))
  repeat clear hm
  intro aL w hm
  refine gs 61 rfl (fun ae => ?_) fun ae => ?_
  ·exact gct rfl (gS (gR (gA rfl (gE (gRt (gr1 results7 rfl ⟨rfl, hm.below⟩))))))
  refine gcf rfl (gSk (gS (gR (gA rfl (gE (gS (gR (gY (yn (hm.blk_at 3 rfl) isAgg28 sizeOf28 rfl) (gM rfl ?_)))))))))
  obtain ⟨af, hle, hm1, hsub, ag⟩ := hm.take2 (L1 := [ow [aA] aE.1.codes]) (L2 := [blk aG [v1] 24, blk aH [aB] 28, ow [aB] aC.1.codes, blk aF [aA] 28]) [4] [0, 1, 2, 3] (by decide) rfl rfl
  refine gCg rfl call14 (laws_markUnit_ok _ af aE.1 aA 1 hm1 ) ?_
  rintro aM bQ bR w ⟨rfl, hB⟩
  replace hm := ag _ _ hB; clear hB
  refine gA rfl (gE (gS (gR (gA rfl (gE (gS (gR (gY (yn (hm.blk_at 4 rfl) isAgg28 sizeOf28 rfl) (gM rfl (gC hm rfl call15 (laws_heldUnit_ok _ (⟨aM.2⟩ : Unit_) aA (hm.ow_rep 0 rfl) 1) fun bS bT w hm => gA rfl (gE (gS (gS (gR (gM rfl (gB rfl (gE (gsd 69 rfl (fun ah => ?_) fun ah => ?_))))))))))))))))))
  ·exact gct rfl (gS (gR (gA rfl (gE (gRt (gr1 results7 rfl ⟨rfl, hm.below⟩))))))
  refine gcf rfl (gSk (gS (gS (gR (gM rfl (gM rfl (gB rfl (gE (gsd 72 rfl (fun ai => ?_) fun ai => ?_)))))))))
  ·exact gct rfl (gS (gR (gA rfl (gE (gRt (gr1 results7 rfl ⟨rfl, hm.below⟩))))))
  refine gcf rfl (gSk (gS (gR (gY (yn (hm.blk_at 1 rfl) isAgg24 sizeOf24 rfl) (gCg rfl call11 (laws_toUnit_ok _ aU v1 (hm.now h1)) ?_)))))
  rintro aj bU bV w ⟨ak, rfl, hB⟩
  replace hm := hm.give hB; clear hB
  refine gCg rfl call23 (impl_HoistUnit_ok _ aj ak (hm.ow_rep 0 rfl)) ?_
  rintro am bW bX w ⟨an, rfl, hB⟩
  replace hm := hm.give hB; clear hB
  refine gM rfl (gX rfl (gX rfl (gAl hm zeroValue28 rfl fun bY w hm => gSN hm 0 sizeOf28 (one_cons (rep_one (hm.ow_rep 1 rfl)) one_nil) rfl fun w hm => gA rfl (gE (gS (gS (gJ hm (fun aN => [(7, (pV aF)), (10, (nV aM.1)), (87, (.bool (aN)))]) (fun aN => [blk aF [aA] 28, ow [aA] aM.2]) (fun aN => ?_) ?_)))))))
  ·refine gR (gY (yn (hm.blk_at 0 rfl) isAgg28 sizeOf28 rfl) (gY (yn (hm.blk_at 5 rfl) isAgg28 sizeOf28 rfl) (gC hm rfl call13 (laws_eqUnit_ok _ am.1 an (hm.ow_rep 1 rfl) aC.1 aB (hm.ow_rep 6 rfl)) fun bZ b7 w hm => gN rfl (gM rfl (gsn 83 rfl (fun ao => ?_) fun ao => ?_)))))
   ·exact gO rfl (gO rfl (gO rfl (gKt rfl (gE (gz hm [7, 3] rfl)))))
   exact gM rfl (gM rfl (gY (yG rfl (y_neqb underlying4 rfl rfl rfl)) (gKf rfl (gE (gz hm [7, 3] rfl)))))
  repeat clear hm
  intro aN w hm
  refine gs 87 rfl (fun ap => ?_) fun ap => ?_
  ·exact gct rfl (gS (gR (gA rfl (gE (gRt (gr1 results7 rfl ⟨rfl, hm.below⟩))))))
  refine gcf rfl (gSk (gS (gR (gA rfl (gE (gS (gR (gY (yn (hm.blk_at 0 rfl) isAgg28 sizeOf28 rfl) (gM rfl (gC hm rfl call15 (laws_heldUnit_ok _ (⟨aM.2⟩ : Unit_) aA (hm.ow_rep 1 rfl) 1) fun b8 b9 w hm => gA rfl (gE (gS (gS (gR (gM rfl (gB rfl (gE (gsd 92 rfl (fun aq => ?_) fun aq => ?_))))))))))))))))))
  ·exact gct rfl (gS (gR (gA rfl (gE (gRt (gr1 results7 rfl ⟨rfl, hm.below⟩))))))
  refine gcf rfl (gSk (gS (gS (gR (gM rfl (gM rfl (gB rfl (gE (gsd 95 rfl (fun ar => ?_) fun ar => ?_)))))))))
  ·exact gct rfl (gS (gR (gA rfl (gE (gRt (gr1 results7 rfl ⟨rfl, hm.below⟩))))))
  exact gcf rfl (gSk (gS (gR (gA rfl (gE (gRt (gr1 results7 rfl ⟨rfl, hm.below⟩)))))))
end Go.Proofs.YtcfdnpmajkhokaaGreat
