/- A part of the proof of FnExactHoistCountSaid. -/
import Derived.Test.YtcfdnpmajkhokaaGreatHcWalksB
namespace Go.Proofs.YtcfdnpmajkhokaaGreat
open Go Go.Wk Go.RowKit
set_option maxRecDepth 4000
set_option maxHeartbeats 4000000
open Tryz
theorem pimpl_doms__idom_ok (w0 : World) (d : doms) (bp0 : Nat) (v1p : Value) (h1p : GT.rep (hp w0) [v1p] d.c.blocks) (v2p : Value) (h2p : GT.rep (hp w0) [v2p] d.over) (v3p : Value) (h3p : GT.rep (hp w0) [v3p] d.in_) (hbbp0 : (hp w0) bp0 = some (.cells ([(nV d.c.params), (nV d.c.regs), v1p, v2p, v3p] : List Value).toArray 166 (0, 0))) (b_ : Int) :
    ConM Tryz.prog 183 [(pV bp0), (nV b_)] w0 (pimpl_doms__idom d b_) fun r v w' => v = (nV r) ∧ Below w0.heap.size w0 w' := by
  unfold pimpl_doms__idom
  refine gcon func183 rfl fun r => ?_
  have hm := Mem.start w0
  exact gS (gR (gBx hm rfl fun aA w hm => gBx hm rfl fun aB w hm => gA rfl (gE (gS (gR (gL hm 1 isAgg129 rfl (gY (yU rfl) (gC hm rfl call243 (pimpl_doms__nearest_ok _ d bp0 v1p (hm.now h1p) v2p (hm.now h2p) v3p (hm.now h3p) (hm.lez _ _ ((Heap.le_refl _) _ _ hbbp0)) (fun y0 => pimpl_doms__idom_1 y0 b_ d) (.func (.func 244) #[] #[(pV aB), (pV aA)]) (fun w y0 r hB hq => ⟨244, [(pV aB), (pV aA)], rfl, call244, pimpl_doms__idom_1_ok w y0 b_ aB (hm.blk_later 0 rfl hB) d aA bp0 v1p (rep_later (hm.now h1p) hB) v2p (rep_later (hm.now h2p) hB) v3p (rep_later (hm.now h3p) hB) (hm.old_later hbbp0 hB) (hm.blk_later 1 rfl hB) r hq⟩)) fun aC aD w hm => gA rfl (gE (gRt (gr1 results183 rfl ⟨rfl, hm.below⟩)))))))))))
theorem pimpl_doms__order_1_all (c1_ : MapS (List Int)) : ∀ (b_ : Int) (c0_ : List Int) (r : (List Int)), pimpl_doms__order_1 b_ c0_ c1_ = some r → ∀ (w0 : World) (hz : Heap) (bpc0 : Nat) (v1p : Value) (bpc1 : Nat) (v2p : Value) (h2p : GT.rep hz [v2p] c1_) (hbbpc1 : hz bpc1 = some (.cells ([v2p] : List Value).toArray 200 (0, 0))) (bpc2 : Nat) (hbbpc2 : hz bpc2 = some (.cells ([(.func (.func 219) #[] #[(pV bpc0), (pV bpc1), (pV bpc2)])] : List Value).toArray 199 (0, 0))) (hm0 : Mem w0 hz w0 [blk bpc0 [v1p] 57, ow [v1p] c0_]), Con Tryz.prog 219 [(nV b_), (pV bpc0), (pV bpc1), (pV bpc2)] w0 (fun v w' => ∃ (x1 : Value), v = (.tuple #[]) ∧ Mem w0 hz w' [blk bpc0 [x1] 57, ow [x1] r]) := by
  refine pimpl_doms__order_1.partial_correctness c1_ (motive := fun b_ c0_ r => ∀ (w0 : World) (hz : Heap) (bpc0 : Nat) (v1p : Value) (bpc1 : Nat) (v2p : Value) (h2p : GT.rep hz [v2p] c1_) (hbbpc1 : hz bpc1 = some (.cells ([v2p] : List Value).toArray 200 (0, 0))) (bpc2 : Nat) (hbbpc2 : hz bpc2 = some (.cells ([(.func (.func 219) #[] #[(pV bpc0), (pV bpc1), (pV bpc2)])] : List Value).toArray 199 (0, 0))) (hm0 : Mem w0 hz w0 [blk bpc0 [v1p] 57, ow [v1p] c0_]), Con Tryz.prog 219 [(nV b_), (pV bpc0), (pV bpc1), (pV bpc2)] w0 (fun v w' => ∃ (x1 : Value), v = (.tuple #[]) ∧ Mem w0 hz w' [blk bpc0 [x1] 57, ow [x1] r])) ?_
  intro rec_ ih_ b_ c0_ r hq w0 hz bpc0 v1p bpc1 v2p h2p hbbpc1 bpc2 hbbpc2 hm0
  have pimpl_doms__order_1_rec : ∀ (w0 : World) (hz : Heap) (b_ : Int) (c0_ : List Int) (bpc0 : Nat) (v1p : Value) (_ : MapS (List Int)) (bpc1 : Nat) (v2p : Value) (h2p : GT.rep hz [v2p] c1_) (hbbpc1 : hz bpc1 = some (.cells ([v2p] : List Value).toArray 200 (0, 0))) (bpc2 : Nat) (hbbpc2 : hz bpc2 = some (.cells ([(.func (.func 219) #[] #[(pV bpc0), (pV bpc1), (pV bpc2)])] : List Value).toArray 199 (0, 0))) (hm0 : Mem w0 hz w0 [blk bpc0 [v1p] 57, ow [v1p] c0_]) (r : (List Int)) (hq : rec_ b_ c0_ = some r), Con Tryz.prog 219 [(nV b_), (pV bpc0), (pV bpc1), (pV bpc2)] w0 (fun v w' => ∃ (x1 : Value), v = (.tuple #[]) ∧ Mem w0 hz w' [blk bpc0 [x1] 57, ow [x1] r]) := fun w0 hz b_ c0_ bpc0 v1p _ bpc1 v2p h2p hbbpc1 bpc2 hbbpc2 hm0 r hq => ih_ b_ c0_ r hq w0 hz bpc0 v1p bpc1 v2p h2p hbbpc1 bpc2 hbbpc2 hm0
  refine gconr (ρ := (List Int)) (R := fun r v w' => ∃ (x1 : Value), v = (.tuple #[]) ∧ Mem w0 hz w' [blk bpc0 [x1] 57, ow [x1] r]) func219 rfl hq ?_
  have hm := hm0
  refine gS (gR (gL hm 0 isAgg57 rfl (gM rfl (gf rfl (fun a hf => e_build (vs := #[(0, (nV b_))]) (cs := [(nV b_)]) et_57 hf hm rfl rfl (by kernel_rfl) rfl rfl) ?_))))
  rintro _ w ⟨aW, rfl, hm⟩
  replace hm := hm.lit (xs := ([b_] : List Int)) 0 rfl rfl rfl rfl
  refine gb fun aX aI => ?_
  obtain ⟨aJ, aK⟩ := appM_some.1 aI
  refine gf rfl (fun a hf => e_append 2 et_57 hf hm rfl (hm.ow_rep 0 rfl) rfl rfl rfl aJ) ?_
  rintro aL w hm
  rw [aK] at hm
  refine gS1 hm 1 sizeOf57 (rep_one (hm.ow_rep 2 rfl)) rfl fun w hm => gE (gS (gR (gY (yl isAgg200 (hm.hz_cell hbbpc1 rfl) rfl) (gM rfl ?_))))
  obtain ⟨aE, aM, aB⟩ := lookL_rep h2p b_
  obtain ⟨aY, aF⟩ : ∃ nv, nv = (aE.get b_).elim (.slice none 0 0) MV.venc := ⟨_, rfl⟩
  rw [← aF] at aB
  refine gY (yG rfl (yl_eq aF (y_lookS (key := b_) (m := aE) underlying3 underlying200 zeroValue57 (GT.mono (Heap.le_trans (Heap.le_refl _) hm.lez) aM) rfl rfl rfl))) ?_
  obtain ⟨aN, aO, rfl, aZ⟩ := ro_slice aB
  refine gY (yV st_57 rfl) (gM rfl (gE (gBk (gNg (fun aG aC a w => ∃ (aA : Value), St 23 [(3, (pV bpc2)), (13, (.slice aN ((MapS.get c1_ b_).getD []).length aO)), (14, (nV ((((MapS.get c1_ b_).getD []).length : Int)))), (15, (nV aG))] w0 hz [blk bpc0 [aA] 57, ow [aA] aC] a w) (fun a hf => ⟨aL, hf.sb rfl, hm.pk [1, 2] rfl rfl⟩) ?_ ?_))))
  ·
   repeat clear hm
   rintro _ _ aG aC a w ⟨aA, hf, hm⟩ aa ab ac _
   refine gv hf (gS (gR (gB rfl (gE (gS (go _ 16 rfl (decide_eq_true (by omega)) (gct rfl (gSk (gS (gBk (gS (gR (gg fun aH aP aD => ?_)))))))))))))
   obtain ⟨ae, af, ag, he⟩ := idx_form aB aD
   obtain ⟨rfl, _, rfl⟩ := sl3 he
   refine gI st_57 aP (idx_lt aD) rfl (gY (yl isAgg3 ((flat_cells (cs := [(nV aH)]) (hm.now aB) aD rfl).cell (j := 0) rfl) rfl) (gA rfl (gE (gR (gY (yl isAgg199 (hm.hz_cell hbbpc2 rfl) rfl) (gM rfl ?_))))))
   obtain ⟨aQ, hle, hm1, hsub, aR⟩ := hm.take2 (L1 := [blk bpc0 [aA] 57, ow [aA] aC]) (L2 := []) [0, 1] [] (by decide) rfl rfl
   refine gb fun ah aS => gf rfl (fun a hf => e_callv hf rfl rfl rfl ⟨219, [(pV bpc0), (pV bpc1), (pV bpc2)], rfl, call219, pimpl_doms__order_1_rec _ aQ aH aC bpc0 aA c1_ bpc1 v2p (GT.mono hle h2p) (hle _ _ ((Heap.le_refl _) _ _ hbbpc1)) bpc2 (hle _ _ ((Heap.le_refl _) _ _ hbbpc2)) hm1  _ aS⟩) ?_
   rintro ai w ⟨aT, rfl, hB⟩
   replace hm := aR _ _ hB; clear hB
   exact gE (gR (gP (by omega) (by omega) rfl (gM rfl (gE (gZe fun a hf => ⟨aT, hf.sb rfl, hm.pk [0, 1] rfl rfl⟩)))))
  repeat clear hm
  rintro aj ak a w ⟨aV, hf, hm⟩ am an
  exact gv hf (gS (gR (gB rfl (gE (gS (go _ 16 rfl (decide_eq_false (by omega)) (gcf rfl (gXt (gHh (gre results219 ⟨aV, rfl, hm.pk [0, 1] rfl rfl⟩))))))))))
theorem pimpl_doms__order_1_ok (w0 : World) (hz : Heap) (b_ : Int) (c0_ : List Int) (bpc0 : Nat) (v1p : Value) (c1_ : MapS (List Int)) (bpc1 : Nat) (v2p : Value) (h2p : GT.rep hz [v2p] c1_) (hbbpc1 : hz bpc1 = some (.cells ([v2p] : List Value).toArray 200 (0, 0))) (bpc2 : Nat) (hbbpc2 : hz bpc2 = some (.cells ([(.func (.func 219) #[] #[(pV bpc0), (pV bpc1), (pV bpc2)])] : List Value).toArray 199 (0, 0))) (hm0 : Mem w0 hz w0 [blk bpc0 [v1p] 57, ow [v1p] c0_]) (r : (List Int)) (hq : pimpl_doms__order_1 b_ c0_ c1_ = some r) : Con Tryz.prog 219 [(nV b_), (pV bpc0), (pV bpc1), (pV bpc2)] w0 (fun v w' => ∃ (x1 : Value), v = (.tuple #[]) ∧ Mem w0 hz w' [blk bpc0 [x1] 57, ow [x1] r]) := pimpl_doms__order_1_all c1_ b_ c0_ r hq w0 hz bpc0 v1p bpc1 v2p h2p hbbpc1 bpc2 hbbpc2 hm0
theorem pimpl_doms__order_ok (w0 : World) (d : doms) (bp0 : Nat) (v1p : Value) (h1p : GT.rep (hp w0) [v1p] d.c.blocks) (v2p : Value) (h2p : GT.rep (hp w0) [v2p] d.over) (v3p : Value) (h3p : GT.rep (hp w0) [v3p] d.in_) (hbbp0 : (hp w0) bp0 = some (.cells ([(nV d.c.params), (nV d.c.regs), v1p, v2p, v3p] : List Value).toArray 166 (0, 0))) :
    ConM Tryz.prog 163 [(pV bp0)] w0 (pimpl_doms__order d) fun r v w' => ∃ (x1 : Value), v = x1 ∧ Mem w0 (hp w0) w' [ow [x1] r] := by
  unfold pimpl_doms__order
  refine gcon func163 rfl fun r => ?_
  have hm := Mem.start w0
  refine gS (gR (gA rfl (gE (gS (gR (gf rfl (fun a hf => e_mkM (β := Hdr) hm rfl) ?_))))))
  rintro aA w hm
  replace hm := hm.imp (c' := owl aA (MapS.mk0 : MapS (List Int))) 0 rfl (fun F h0 => owl_mk h0)
  refine gAl hm zeroValue200 rfl fun aB w hm => gS1 hm 0 sizeOf200 (owl_one hm 1 rfl) rfl fun w hm => gE (gS (gS (gR (gM rfl (gY (yG rfl (y_nilptr rfl rfl)) (gF fo_166_2 rfl (gY (yl isAgg98 (hm.hz_cell hbbp0 rfl) rfl) ?_)))))))
  obtain ⟨ag, aN, rfl, ah⟩ := ro_slice h3p
  refine gY (yV st_98 rfl) (gM rfl (gE (gBk (gNf hm (fun aC aD => [(0, (pV bp0)), (3, (pV aB)), (13, (nV ((d.in_.length : Int)))), (14, (nV aC))]) (fun aC aD => [blk aB [aA] 200, owl aA aD]) [0, 1] rfl ?_ ?_))))
  ·
   repeat clear hm
   intro _ _ aC aD w hm ai aj ak _
   refine gS (gR (gB rfl (gE (gS (go _ 15 rfl (decide_eq_true (by omega)) (gct rfl (gSk (gS (gJ hm (fun aH => [(0, (pV bp0)), (3, (pV aB)), (13, (nV ((d.in_.length : Int)))), (14, (nV aC))]) (fun aH => [blk aB [aA] 200, owl aA aH]) (fun aH => ?_) ?_)))))))))
   ·
    refine gBk (gS (gR (gM rfl (gA rfl (gE (gS (gR (gM rfl (gY (yG rfl (y_nilptr rfl rfl)) (gF fo_166_2 rfl (gY (yl isAgg98 (hm.hz_cell hbbp0 rfl) rfl) (gM rfl (gg fun aO aP aK => ?_)))))))))))))
    obtain ⟨aQ, aR, am, he⟩ := idx_form h3p aK
    obtain ⟨rfl, _, rfl⟩ := sl3 he
    refine gI st_98 aP (idx_lt aK) rfl (gY (yl isAgg4 ((flat_cells (cs := [(.bool (aO))]) (hm.now h3p) aK rfl).cell (j := 0) rfl) rfl) (gE (gJ hm (fun aI => [(0, (pV bp0)), (3, (pV aB)), (13, (nV ((d.in_.length : Int)))), (14, (nV aC))]) (fun aI => [blk aB [aA] 200, owl aA aI]) (fun aI => ?_) ?_)))
    ·
     refine gs 23 rfl (fun aS => ?_) fun aS => ?_
     ·
      refine gct rfl (gS (gR (gM rfl (gM rfl (gC hm rfl call183 (pimpl_doms__idom_ok _ d bp0 v1p (hm.now h1p) v2p (hm.now h2p) (sV aQ aR d.in_.length aN) (hm.now h3p) (hm.lez _ _ ((Heap.le_refl _) _ _ hbbp0)) aC) fun aE an w hm => gA rfl (gE ?_))))))
      obtain ⟨aJ, hm⟩ := hm.owl_out 1 rfl aE
      replace hm : Mem w0 (hp w0) _ [ow [aJ] ((MapS.get aD aE).getD []), blk aB [aA] 200, owlH aA aD aE aJ] := hm
      refine gW (.p 1 (.p 3 (.p 5 (.q 0 (.q 2 (.q 4 (.e 6 (.e 7 (.e 8 .fin .nil) .nil) .nil))))))) [0, 2, 4, 6, 7] [1, 3, 5] hm [1, 2] [blk aB [aA] 200, owlH aA aD aE aJ] rfl mxo (by kernel_rfl) (fun _ _ _ h => h.2) fun w hm hS => tP rfl (fun w => yM rfl) (tP rfl (fun w => yM rfl) (tP rfl (fun w => yM rfl) (tQ rfl hS (fun w hm => yL hm 0 isAgg200 rfl) (tQ rfl hS (fun w hm => yL hm 0 isAgg200 rfl) (tQ rfl hS (fun w hm => yG rfl (y_lookH underlying3 underlying200 zeroValue57 hm 1 rfl rfl rfl rfl)) (tO (tf rfl rfl (fun a hf => e_build (vs := #[(0, (nV aC))]) (cs := [(nV aC)]) et_57 hf hm rfl rfl (by kernel_rfl) rfl rfl) ?_)))))))
      rintro _ w ⟨aT, rfl, hm⟩
      replace hm := hm.lit (xs := ([aC] : List Int)) 0 rfl rfl rfl rfl
      refine tAk hm [2, 3] rfl fun hS => tO (gb fun aL aV => ?_)
      obtain ⟨aW, aX⟩ := appM_some.1 aV
      refine tf rfl rfl (fun a hf => e_append 1 et_57 hf hm rfl (hm.ow_rep 0 rfl) rfl rfl rfl aW) ?_
      rintro aY w hm
      rw [aX] at hm
      refine tAk hm [2, 3] rfl fun hS => tO ?_
      replace hm := (hm.both 3 1 (by decide) rfl rfl).pk (L' := [ow [(sV aT 0 1 1)] ([aC] : List Int), blk aB [aA] 200, both (owlH aA aD aE aJ) (ow [aY] aL)]) [0, 2, 3] rfl rfl
      refine tf0 rfl rfl (fun a hf => e_insL (key := aE) (l1 := aL) (b := false) 2 underlying3 underlying200 hf hm rfl rfl rfl rfl rfl) ?_
      rintro _ w hm
      exact tAn rfl (tE (gz hm [1, 2] rfl))
     exact gcf rfl (gSk (gz hm [0, 1] rfl))
    repeat clear hm
    intro aI w hm
    exact gz hm [0, 1] rfl
   repeat clear hm
   intro aH w hm
   exact gR (gP (by omega) (by omega) rfl (gM rfl (gE (gze hm [0, 1] rfl))))
  repeat clear hm
  intro ao aM w hm ap aq
  refine gS (gR (gB rfl (gE (gS (go _ 15 rfl (decide_eq_false (by omega)) (gcf rfl (gXt (gHh (gS (gR (gAl hm zeroValue57 rfl fun aF w hm => gE (gS (gR (gAl hm zeroValue199 rfl fun aG w hm => gE (gS (gR ?_))))))))))))))))
  replace hm := hm.owl_ow 3 rfl
  obtain ⟨aZ, aa, hz_r0_1, hmf⟩ := hm.freeze 3 rfl
  replace hm := hmf.pk (L' := [blk aG [.nilFunc] 199, blk aF [(.slice none 0 0)] 57, blk aB [aA] 200]) [0, 1, 2] rfl rfl
  clear hmf
  replace hz_r0_1 : GT.rep aZ [aA] aM := fz_ow hz_r0_1
  refine gY (yU rfl) (gS1 hm 0 sizeOf199 rfl rfl fun w hm => gE (gS (gR (gL hm 0 isAgg199 rfl ?_))))
  replace hm := hm.nilow (α := Int)
  obtain ⟨ab, hle, hm1, hsub, ac⟩ := hm.take2 (L1 := [blk aF [(.slice none 0 0)] 57, ow [(.slice none 0 0)] ([] : List Int)]) (L2 := [blk aG [(.func (.func 219) #[] #[(pV aF), (pV aB), (pV aG)])] 199, blk aB [aA] 200]) [2, 0] [1, 3] (by decide) rfl rfl
  refine gb fun ar ae => gf rfl (fun a hf => e_callv hf rfl rfl rfl ⟨219, [(pV aF), (pV aB), (pV aG)], rfl, call219, pimpl_doms__order_1_ok _ ab 0 ([] : List Int) aF (.slice none 0 0) aM aB aA (GT.mono hle hz_r0_1) (fz_blk (hsub 1 _ rfl)) aG (fz_blk (hsub 0 _ rfl)) hm1  _ ae⟩) ?_
  rintro au w ⟨af, rfl, hB⟩
  replace hm := ac _ _ hB; clear hB
  refine gE (gS (gR (gL hm 0 isAgg57 rfl (gA rfl (gE (gRt ?_))))))
  replace hm := hm.thaw aa
  exact gr1 results163 rfl ⟨af, rfl, hm.pk [1] rfl rfl⟩
theorem impl_harmless_ok (w0 : World) (op : Int) :
    ConM Tryz.prog 164 [(nV op)] w0 (impl_harmless op) fun r v w' => v = (.bool (r)) ∧ Below w0.heap.size w0 w' := by
  unfold impl_harmless
  refine gcon func164 rfl fun r => ?_
  have hm := Mem.start w0
  refine gS (gR (gA rfl (gE (gS (gS (gR (gM rfl (gE (gBk (gS (gS (gR (gB rfl (gA rfl (gE (gJ hm (fun aA => [(4, (.bool (aA)))]) (fun aA => []) (fun aA => ?_) ?_))))))))))))))))
  ·
   refine gsd 4 rfl (fun aH => ?_) fun aH => ?_
   ·
    exact gct rfl (gSk (gz hm [] rfl))
   refine gcf rfl (gS (gR (gB rfl (gA rfl (gE (gJ hm (fun aB => [(4, (.bool (aB)))]) (fun aB => []) (fun aB => ?_) ?_))))))
   ·
    refine gsd 4 rfl (fun aI => ?_) fun aI => ?_
    ·
     exact gct rfl (gSk (gz hm [] rfl))
    refine gcf rfl (gS (gR (gB rfl (gA rfl (gE (gJ hm (fun aC => [(4, (.bool (aC)))]) (fun aC => []) (fun aC => ?_) ?_))))))
    ·
     refine gsd 4 rfl (fun aJ => ?_) fun aJ => ?_
     ·
      exact gct rfl (gSk (gz hm [] rfl))
     refine gcf rfl (gS (gR (gB rfl (gA rfl (gE (gJ hm (fun aD => [(4, (.bool (aD)))]) (fun aD => []) (fun aD => ?_) ?_))))))
     ·
      refine gsd 4 rfl (fun aK => ?_) fun aK => ?_
      ·
       exact gct rfl (gSk (gz hm [] rfl))
      refine gcf rfl (gS (gR (gB rfl (gA rfl (gE (gJ hm (fun aE => [(4, (.bool (aE)))]) (fun aE => []) (fun aE => ?_) ?_))))))
      ·
       refine gsd 4 rfl (fun aL => ?_) fun aL => ?_
       ·
        exact gct rfl (gSk (gz hm [] rfl))
       refine gcf rfl (gS (gR (gB rfl (gA rfl (gE (gJ hm (fun aF => [(4, (.bool (aF)))]) (fun aF => []) (fun aF => ?_) ?_))))))
       ·
        refine gsd 4 rfl (fun aM => ?_) fun aM => ?_
        ·
         exact gct rfl (gSk (gz hm [] rfl))
        refine gcf rfl (gS (gR (gB rfl (gA rfl (gE (gJ hm (fun aG => [(4, (.bool (aG)))]) (fun aG => []) (fun aG => ?_) ?_))))))
        ·
         refine gsd 4 rfl (fun aN => ?_) fun aN => ?_
         ·
          exact gct rfl (gSk (gz hm [] rfl))
         exact gcf rfl (gR (gB rfl (gA rfl (gE (gz hm [] rfl)))))
        repeat clear hm
        intro aG w hm
        exact gz hm [] rfl
       repeat clear hm
       intro aF w hm
       exact gz hm [] rfl
      repeat clear hm
      intro aE w hm
      exact gz hm [] rfl
     repeat clear hm
     intro aD w hm
     exact gz hm [] rfl
    repeat clear hm
    intro aC w hm
    exact gz hm [] rfl
   repeat clear hm
   intro aB w hm
   exact gz hm [] rfl
  repeat clear hm
  intro aA w hm
  refine gs 4 rfl (fun aO => ?_) fun aO => ?_
  ·
   exact gct rfl (gS (gR (gA rfl (gE (gRt (gr1 results164 rfl ⟨rfl, hm.below⟩))))))
  exact gcf rfl (gSk (gS (gR (gA rfl (gE (gRt (gr1 results164 rfl ⟨rfl, hm.below⟩)))))))
theorem impl_hoistLoop_1_ok (w0 : World) (r_ : Int) (c0_ : MapS Bool) (v1 : Value) (h1 : GT.rep (hp w0) [v1] c0_) (bf0 : Nat) (hbf0 : w0.heap[bf0]? = some (.cells ([v1] : List Value).toArray 110 (0, 0))) :
    ConM Tryz.prog 165 [(nV r_), (pV bf0)] w0 (impl_hoistLoop_1 r_ c0_) fun r v w' => v = (.bool (r)) ∧ Below w0.heap.size w0 w' := by
  unfold impl_hoistLoop_1
  refine gcon func165 rfl fun r => ?_
  have hm := Mem.start w0
  exact gS (gR (gA rfl (gE (gS (gR (gY (yl isAgg110 (hm.old_cell hbf0 rfl) rfl) (gM rfl (gY (yG rfl (y_lookB (key := r_) (m := (c0_ : MapS Bool)) underlying3 underlying110 zeroValue4 (hm.now h1) rfl rfl rfl)) (gA rfl (gE (gRt (gr1 results165 rfl ⟨rfl, hm.below⟩))))))))))))
theorem impl_hoistLoop_ok (w0 : World) (hz : Heap) (c_ : Code_) (bp0 : Nat) (v1p : Value) (d : doms) (bp1 : Nat) (v2p : Value) (h2p : GT.rep hz [v2p] d.c.blocks) (v3p : Value) (h3p : GT.rep hz [v3p] d.over) (v4p : Value) (h4p : GT.rep hz [v4p] d.in_) (hbbp1 : hz bp1 = some (.cells ([(nV d.c.params), (nV d.c.regs), v2p, v3p, v4p] : List Value).toArray 166 (0, 0))) (h_ : Int) (hm0 : Mem w0 hz w0 [blk bp0 [(nV c_.params), (nV c_.regs), v1p] 44, ow [v1p] c_.blocks]) :
    ConM Tryz.prog 106 [(pV bp0), (pV bp1), (nV h_)] w0 (impl_hoistLoop c_ d h_) fun r v w' => ∃ (x1 : Value), v = (.bool (r.1)) ∧ Mem w0 hz w' [blk bp0 [(nV r.2.params), (nV r.2.regs), x1] 44, ow [x1] r.2.blocks] := by
  unfold impl_hoistLoop
  refine gcon func106 rfl fun r => ?_
  have hm := hm0
  refine gS (gR (gA rfl (gE (gS (gR (gM rfl (gM rfl (gCg rfl call162 (pimpl_doms__body_ok _ d bp1 v2p (hm.now h2p) v3p (hm.now h3p) v4p (hm.now h4p) (hm.lez _ _ ((Heap.le_refl _) _ _ hbbp1)) h_) ?_))))))))
  rintro aC cq cr w ⟨_, rfl, hB⟩
  replace hm := hm.give hB; clear hB
  refine gA rfl (gE (gS (gR (gA rfl (gE (gS (gS (gR (gM rfl (gY (yG rfl (y_nilptr rfl rfl)) (gY (yn (hm.blk_at 1 rfl) isAgg44 sizeOf44 rfl) (gM rfl (gCg rfl call78 (impl_PredsOf_ok _ c_ v1p (hm.ow_rep 2 rfl) h_) ?_)))))))))))))
  rintro aj ct cu w ⟨_, rfl, hB⟩
  replace hm := hm.give hB; clear hB
  obtain ⟨bB, aw, rfl, cv⟩ := ro_slice (hm.ow_rep 0 rfl)
  refine gY (yV st_57 rfl) (gM rfl (gE ?_))
  obtain ⟨aY, aD, rfl, cw⟩ := ro_slice (hm.ow_rep 3 rfl)
  obtain ⟨aJ, aK, rfl, cx⟩ := ro_slice (hm.ow_rep 1 rfl)
  refine gBk ?_
  replace hm := hm.nilow (α := Int)
  refine gNg (fun bO br a w => ∃ (bP : Value), St 161 [(0, (pV bp0)), (1, (pV bp1)), (7, (.slice aJ aC.length aK)), (8, bP), (30, (.slice bB aj.length aw)), (31, (nV ((aj.length : Int)))), (32, (nV bO))] w0 hz [blk bp0 [(nV c_.params), (nV c_.regs), (.slice aY c_.blocks.length aD)] 44, ow [(.slice aY c_.blocks.length aD)] c_.blocks, ow [(.slice aJ aC.length aK)] aC, ow [bP] br, ow [(.slice bB aj.length aw)] aj] a w) (fun a hf => ⟨(.slice none 0 0), hf.sb rfl, hm.pk [3, 4, 2, 0, 1] rfl rfl⟩) ?_ ?_
  ·
   repeat clear hm
   rintro _ _ bO br a w ⟨bP, hf, hm⟩ cy cz dA _
   refine gv hf (gS (gR (gB rfl (gE (gS (go _ 33 rfl (decide_eq_true (by omega)) (gct rfl (gSk (gS (gJg (fun bb a w => ∃ (bQ : Value), St 161 [(0, (pV bp0)), (1, (pV bp1)), (7, (.slice aJ aC.length aK)), (8, bQ), (30, (.slice bB aj.length aw)), (31, (nV ((aj.length : Int)))), (32, (nV bO))] w0 hz [blk bp0 [(nV c_.params), (nV c_.regs), (.slice aY c_.blocks.length aD)] 44, ow [(.slice aY c_.blocks.length aD)] c_.blocks, ow [(.slice aJ aC.length aK)] aC, ow [bQ] bb, ow [(.slice bB aj.length aw)] aj] a w) (fun bb => ?_) ?_))))))))))
   ·
    refine gBk (gS (gR (gg fun bH cG bc => ?_)))
    obtain ⟨bs, bt, dB, he⟩ := idx_form (hm.ow_rep 4 rfl) bc
    obtain ⟨rfl, _, rfl⟩ := sl3 he
    refine gI st_57 cG (idx_lt bc) rfl (gY (yl isAgg3 ((flat_cells (cs := [(nV bH)]) (hm.ow_rep 4 rfl) bc rfl).cell (j := 0) rfl) rfl) (gA rfl (gE (gS (gR (gM rfl (gM rfl (gC hm rfl call125 (slices_Contains_S_int_int_ok _ aC (.slice aJ aC.length aK) (hm.ow_rep 2 rfl) bH) fun dC dD w hm => gN rfl (gE (gJg (fun bd a w => ∃ (bR : Value), St 161 [(0, (pV bp0)), (1, (pV bp1)), (7, (.slice aJ aC.length aK)), (8, bR), (30, (sV bs bt aj.length aw)), (31, (nV ((aj.length : Int)))), (32, (nV bO))] w0 hz [blk bp0 [(nV c_.params), (nV c_.regs), (.slice aY c_.blocks.length aD)] 44, ow [(.slice aY c_.blocks.length aD)] c_.blocks, ow [(.slice aJ aC.length aK)] aC, ow [bR] bd, ow [(sV bs bt aj.length aw)] aj] a w) (fun bd => ?_) ?_))))))))))
    ·
     refine gsn 39 rfl (fun cH => ?_) fun cH => ?_
     ·
      refine gct rfl (gR (gM rfl (gM rfl (gf rfl (fun a hf => e_build (vs := #[(0, (nV bH))]) (cs := [(nV bH)]) et_57 hf hm rfl rfl (by kernel_rfl) rfl rfl) ?_))))
      rintro _ w ⟨dE, rfl, hm⟩
      replace hm := hm.lit (xs := ([bH] : List Int)) 0 rfl rfl rfl rfl
      refine gb fun dF cI => ?_
      obtain ⟨cJ, cK⟩ := appM_some.1 cI
      refine gf rfl (fun a hf => e_append 4 et_57 hf hm rfl (hm.ow_rep 0 rfl) rfl rfl rfl cJ) ?_
      rintro cL w hm
      rw [cK] at hm
      exact gA rfl (gE (gZ fun a hf => ⟨cL, hf.sb rfl, hm.pk [1, 2, 3, 4, 5] rfl rfl⟩))
     exact gcf rfl (gSk (gZ fun a hf => ⟨bP, hf.sb rfl, hm.pk [0, 1, 2, 3, 4] rfl rfl⟩))
    repeat clear hm
    rintro bd a w ⟨bR, hf, hm⟩
    exact gv hf (gZ fun a hf => ⟨bR, hf.sb rfl, hm.pk [0, 1, 2, 3, 4] rfl rfl⟩)
   repeat clear hm
   rintro bb a w ⟨bQ, hf, hm⟩
   exact gv hf (gR (gP (by omega) (by omega) rfl (gM rfl (gE (gZe fun a hf => ⟨bQ, hf.sb rfl, hm.pk [0, 1, 2, 3, 4] rfl rfl⟩)))))
  repeat clear hm
  rintro dG aE a w ⟨bJ, hf, hm⟩ dH dI
  refine gv hf (gS (gR (gB rfl (gE (gS (go _ 33 rfl (decide_eq_false (by omega)) (gcf rfl (gXt (gHh (gS (gS (gJ hm (fun bS => [(0, (pV bp0)), (1, (pV bp1)), (7, (.slice aJ aC.length aK)), (8, bJ), (60, (.bool (bS)))]) (fun bS => [blk bp0 [(nV c_.params), (nV c_.regs), (.slice aY c_.blocks.length aD)] 44, ow [(.slice aY c_.blocks.length aD)] c_.blocks, ow [(.slice aJ aC.length aK)] aC, ow [bJ] aE]) (fun bS => ?_) ?_))))))))))))
  ·
   replace hm : Mem w0 hz _ [blk bp0 [(nV c_.params), (nV c_.regs), (.slice aY c_.blocks.length aD)] 44, ow [(.slice aY c_.blocks.length aD)] c_.blocks, ow [(.slice aJ aC.length aK)] aC, ow [bJ] aE, ow [(.slice bB aj.length aw)] aj] := hm
   refine gW (.p 0 (.p 1 (.p 2 (.p 3 (.p 4 (.p 5 (.p 6 (.p 8 (.p 9 (.q 7 (.e 10 (.p 11 (.p 12 (.e 13 (.p 14 (.p 15 .fin)) .nil))) .nil))))))))))) [10] [0, 1, 2, 3, 4, 5, 6, 8, 9, 11, 12, 14, 15] hm [0, 1, 2, 3, 4] [blk bp0 [(nV c_.params), (nV c_.regs), (.slice aY c_.blocks.length aD)] 44, ow [(.slice aY c_.blocks.length aD)] c_.blocks, ow [(.slice aJ aC.length aK)] aC, ow [bJ] aE, ow [(.slice bB aj.length aw)] aj] rfl mxo (by kernel_rfl) (fun _ _ _ h => h.2) fun w hm hS => tP rfl (fun w => yM rfl) ?_
   obtain ⟨dJ, dK, rfl, dL⟩ := ro_slice (hm.ow_rep 3 rfl)
   refine tP rfl (fun w => yV st_57 rfl) (tP rfl (fun w => yB rfl) (tP rfl (fun w => yM rfl) (gsd 48 rfl (fun cM => ?_) fun cM => ?_)))
   ·
    exact tPo rfl rfl (tPo rfl rfl (tPo rfl rfl (tPo rfl rfl (tPo rfl rfl (tQo rfl hS rfl (tO (tEo rfl rfl (tAs hS (tPo rfl rfl (tPo rfl rfl (tO (tEo rfl rfl (tAn rfl (tPo rfl rfl (tP rfl (fun w => yKt rfl) (tE (gz hm [0, 1, 2, 3] rfl)))))))))))))))))
   refine tP rfl (fun w => yM rfl) (tP rfl (fun w => yG rfl (y_nilptr rfl rfl)) (tP rfl (fun w => yF fo_44_2 rfl) (tP rfl (fun w => yM rfl) (gg fun cN cO be => ?_))))
   obtain ⟨dM, dN, dO, he⟩ := idx_form (hm.ow_rep 3 rfl) be
   obtain ⟨rfl, _, rfl⟩ := sl3 he
   refine tP rfl (fun w => yI st_57 cO (idx_lt be) rfl) (tQ rfl hS (fun w hm => yL hm 0 isAgg42 rfl) (tO (tY rfl (yl isAgg3 ((flat_cells (cs := [(nV cN)]) (hm.ow_rep 3 rfl) be rfl).cell (j := 0) rfl) rfl) (tAs hS (gg fun dP cP bf => ?_)))))
   obtain ⟨dQ, dR, dS, he⟩ := idx_form' (hm.ow_rep 1 rfl) bf
   obtain ⟨rfl, _, rfl⟩ := sl3 he
   obtain ⟨dT, dU, dV, cQ, dW, dX, dY⟩ := rk_Block_ (hm.ow_rep 1 rfl) bf
   exact tP rfl (fun w => yI st_42 cP (idx_lt bf) rfl) (tP rfl (fun w => yF fo_59_2 rfl) (tO (tY rfl (yl isAgg3 (cQ.cell (j := 2) rfl) rfl) (tAn rfl (tP rfl (fun w => yB rfl) (tP rfl (fun w => yKf rfl) (tE (gz hm [0, 1, 2, 3] rfl))))))))
  repeat clear hm
  intro bS w hm
  refine gs 60 rfl (fun cR => ?_) fun cR => ?_
  ·
   exact gct rfl (gS (gR (gA rfl (gE (gRt (gr1 results106 rfl ⟨(.slice aY c_.blocks.length aD), rfl, hm.pk [0, 1] rfl rfl⟩))))))
  refine gcf rfl (gSk (gS (gR (gf rfl (fun a hf => e_mkM (β := Bool) hm rfl) ?_))))
  rintro aH w hm
  refine gAl hm zeroValue110 rfl fun aR w hm => gS1 hm 0 sizeOf110 (owm_one hm 1 rfl) rfl fun w hm => gE (gS (gS (gR (gM rfl (gY (yG rfl (y_nilptr rfl rfl)) (gY (yn (hm.blk_at 2 rfl) isAgg44 sizeOf44 rfl) (gCg rfl call55 (impl_placesOf_ok _ c_ (.slice aY c_.blocks.length aD) (hm.ow_rep 3 rfl)) ?_)))))))
  rintro ax dZ d4 w ⟨_, rfl, hB⟩
  replace hm := hm.give hB; clear hB
  obtain ⟨bu, bT, rfl, d5⟩ := ro_slice (hm.ow_rep 0 rfl)
  refine gY (yV st_73 rfl) (gM rfl (gE ?_))
  obtain ⟨ak, bK, hz_r0_1, hmf⟩ := hm.freeze 0 rfl
  replace hm := hmf.pk (L' := [blk aR [aH] 110, owm aH (MapS.mk0 : MapS Bool), blk bp0 [(nV c_.params), (nV c_.regs), (.slice aY c_.blocks.length aD)] 44, ow [(.slice aY c_.blocks.length aD)] c_.blocks, ow [(.slice aJ aC.length aK)] aC, ow [bJ] aE]) [1, 2, 3, 4, 5, 6] rfl rfl
  clear hmf
  replace hz_r0_1 : GT.rep ak [(.slice bu ax.length bT)] ax := fz_ow hz_r0_1
  obtain ⟨aZ, aV, rfl, d6⟩ := ro_slice (hm.ow_rep 5 rfl)
  refine gBk (gNf hm (fun an bg => [(0, (pV bp0)), (1, (pV bp1)), (7, (.slice aJ aC.length aK)), (8, (.slice aZ aE.length aV)), (11, (pV aR)), (65, (.slice bu ax.length bT)), (66, (nV ((ax.length : Int)))), (67, (nV an))]) (fun an bg => [blk bp0 [(nV c_.params), (nV c_.regs), (.slice aY c_.blocks.length aD)] 44, ow [(.slice aY c_.blocks.length aD)] c_.blocks, ow [(.slice aJ aC.length aK)] aC, ow [(.slice aZ aE.length aV)] aE, blk aR [aH] 110, owm aH bg]) [2, 3, 4, 5, 0, 1] rfl ?_ ?_)
  ·
   repeat clear hm
   intro _ _ an bg w hm d7 d8 d9 _
   refine gS (gR (gB rfl (gE (gS (go _ 68 rfl (decide_eq_true (by omega)) (gct rfl (gSk (gS (gBk (gS (gR (gM rfl (gg fun bL cS bh => ?_)))))))))))))
   obtain ⟨bi, bj, da, he⟩ := idx_form' hz_r0_1 bh
   obtain ⟨rfl, _, rfl⟩ := sl3 he
   obtain ⟨_, _, bk, cT⟩ := ro_get' hz_r0_1 bh
   have bC := cT
   obtain ⟨bv, rfl, -⟩ := id bC
   replace bC : GT.rep ak [bv] bL := bC
   replace bk : CellsAt ak bi (bj + (an).toNat * 1) [bv] := bk
   refine gI st_73 cS (idx_lt bh) rfl (gY (yl isAgg75 ((bk.mono hm.lez).cell (j := 0) rfl) rfl) (gA rfl (gA rfl (gE (gS (gR (gM rfl ?_)))))))
   obtain ⟨cU, bw, rfl, db⟩ := ro_slice bC
   refine gY (yV st_75 rfl) (gM rfl (gE (gBk (gNf hm (fun bU bD => [(0, (pV bp0)), (1, (pV bp1)), (7, (.slice aJ aC.length aK)), (8, (.slice aZ aE.length aV)), (11, (pV aR)), (12, (nV an)), (65, (sV bi bj ax.length bT)), (66, (nV ((ax.length : Int)))), (67, (nV an)), (72, (.slice cU bL.length bw)), (73, (nV ((bL.length : Int)))), (74, (nV bU))]) (fun bU bD => [blk bp0 [(nV c_.params), (nV c_.regs), (.slice aY c_.blocks.length aD)] 44, ow [(.slice aY c_.blocks.length aD)] c_.blocks, ow [(.slice aJ aC.length aK)] aC, ow [(.slice aZ aE.length aV)] aE, blk aR [aH] 110, owm aH bD]) [0, 1, 2, 3, 4, 5] rfl ?_ ?_))))
   ·
    repeat clear hm
    intro _ _ bU bD w hm dc dd de _
    refine gS (gR (gB rfl (gE (gS (go _ 75 rfl (decide_eq_true (by omega)) (gct rfl (gSk (gS (gBk (gS (gR (gg fun ay cV bl => ?_))))))))))))
    obtain ⟨cW, cX, df, he⟩ := idx_form bC bl
    obtain ⟨rfl, _, rfl⟩ := sl3 he
    refine gI st_75 cV (idx_lt bl) rfl (gY (yn (flat_cells (cs := [(nV ay.block), (nV ay.ins)]) (hm.now bC) bl rfl) isAgg77 sizeOf77 rfl) (gAl hm zeroValue77 rfl fun bx w hm => gSN hm 0 sizeOf77 (one_cons rfl (one_cons rfl one_nil)) rfl fun w hm => gE (gJ hm (fun bV => [(0, (pV bp0)), (1, (pV bp1)), (7, (.slice aJ aC.length aK)), (8, (.slice aZ aE.length aV)), (11, (pV aR)), (12, (nV an)), (65, (sV bi bj ax.length bT)), (66, (nV ((ax.length : Int)))), (67, (nV an)), (72, (sV cW cX bL.length bw)), (73, (nV ((bL.length : Int)))), (74, (nV bU))]) (fun bV => [blk bp0 [(nV c_.params), (nV c_.regs), (.slice aY c_.blocks.length aD)] 44, ow [(.slice aY c_.blocks.length aD)] c_.blocks, ow [(.slice aJ aC.length aK)] aC, ow [(.slice aZ aE.length aV)] aE, blk aR [aH] 110, owm aH bV]) (fun bV => ?_) ?_)))
    ·
     replace hm : Mem w0 ak _ [blk bx [(nV ay.block), (nV ay.ins)] 77, blk bp0 [(nV c_.params), (nV c_.regs), (.slice aY c_.blocks.length aD)] 44, ow [(.slice aY c_.blocks.length aD)] c_.blocks, ow [(.slice aJ aC.length aK)] aC, ow [(.slice aZ aE.length aV)] aE, blk aR [aH] 110, owm aH bD] := hm
     refine gW (.p 1 (.p 3 (.q 0 (.e 2 (.e 4 (.p 5 (.p 6 (.p 7 (.e 8 (.e 9 (.p 10 (.e 11 .fin .nil)) .nil) .nil)))) .nil) .nil)))) [2, 4, 8, 9] [1, 3, 5, 6, 7, 10] hm [0, 1, 2, 3, 4, 5, 6] [blk bx [(nV ay.block), (nV ay.ins)] 77, blk bp0 [(nV c_.params), (nV c_.regs), (.slice aY c_.blocks.length aD)] 44, ow [(.slice aY c_.blocks.length aD)] c_.blocks, ow [(.slice aJ aC.length aK)] aC, ow [(.slice aZ aE.length aV)] aE, blk aR [aH] 110, owm aH bD] rfl mxo (by kernel_rfl) (fun _ _ _ h => h.2) fun w hm hS => tP rfl (fun w => yM rfl) (tP rfl (fun w => yM rfl) (tQ rfl hS (fun w hm => yL hm 5 isAgg110 rfl) (tO (tY rfl (yL hm 5 isAgg110 rfl) (tAs hS (tO (tY rfl (yG rfl (y_lookB (key := an) (m := (bD : MapS Bool)) underlying3 underlying110 zeroValue4 (hm.owm_rep 6 rfl) rfl rfl rfl)) (tAs hS (tP rfl (fun w => yM rfl) (gs 83 rfl (fun cY => ?_) fun cY => ?_))))))))))
     ·
      refine tPo rfl rfl (tPo rfl rfl (tO (tEo rfl rfl (tAs hS (tO (tEo rfl rfl (tAs hS (tP rfl (fun w => yKt rfl) (tO (tf0 rfl rfl (fun a hf => e_insM (β := Bool) (key := an) (u := true) (b := false) 6 underlying3 underlying110 hf hm rfl rfl rfl rfl rfl) ?_))))))))))
      rintro _ w hm
      exact tAn rfl (tE (gz hm [1, 2, 3, 4, 5, 6] rfl))
     refine tP rfl (fun w => yM rfl) (tP rfl (fun w => yF fo_77_0 rfl) (tO (tY rfl (yL hm 0 isAgg3 rfl) (tAs hS (tO (gb fun cZ c7 => tf rfl rfl (fun a hf => e_call hf rfl call125 rfl (slices_Contains_S_int_int_ok _ aC (.slice aJ aC.length aK) (hm.ow_rep 3 rfl) ay.block _ c7)) ?_))))))
     rintro dg w ⟨rfl, hB⟩
     replace hm := hm.below' hB; clear hB
     refine tAk hm [0, 1, 2, 3, 4, 5, 6] rfl fun hS => tP rfl (fun w => yKf rfl) (tO (tf0 rfl rfl (fun a hf => e_insM (β := Bool) (key := an) (u := cZ) (b := false) 6 underlying3 underlying110 hf hm rfl rfl rfl rfl rfl) ?_))
     rintro _ w hm
     exact tAn rfl (tE (gz hm [1, 2, 3, 4, 5, 6] rfl))
    repeat clear hm
    intro bV w hm
    exact gR (gP (by omega) (by omega) rfl (gM rfl (gE (gze hm [0, 1, 2, 3, 4, 5] rfl))))
   repeat clear hm
   intro dh di w hm dk dl
   exact gS (gR (gB rfl (gE (gS (go _ 75 rfl (decide_eq_false (by omega)) (gcf rfl (gXt (gHh (gR (gP (by omega) (by omega) rfl (gM rfl (gE (gze hm [0, 1, 2, 3, 4, 5] rfl)))))))))))))
  repeat clear hm
  intro dm dp w hm dq dr
  refine gS (gR (gB rfl (gE (gS (go _ 68 rfl (decide_eq_false (by omega)) (gcf rfl (gXt (gHh (gS (gR (gA rfl (gE (gS (gS (gR (gM rfl (gCg rfl call163 (pimpl_doms__order_ok _ d bp1 v2p (hm.now (GT.mono bK h2p)) v3p (hm.now (GT.mono bK h3p)) v4p (hm.now (GT.mono bK h4p)) (hm.lez _ _ (bK _ _ hbbp1))) ?_)))))))))))))))))
  rintro aI dt du w ⟨_, rfl, hB⟩
  replace hm := hm.give hB; clear hB
  obtain ⟨bW, aW, rfl, dv⟩ := ro_slice (hm.ow_rep 0 rfl)
  refine gY (yV st_57 rfl) (gM rfl (gE (gBk (gNf hm (fun az bM => [(0, (pV bp0)), (7, (.slice aJ aC.length aK)), (8, (.slice aZ aE.length aV)), (11, (pV aR)), (16, (.bool (bM.2.2))), (92, (.slice bW aI.length aW)), (93, (nV ((aI.length : Int)))), (94, (nV az))]) (fun az bM => [blk bp0 [(nV c_.params), (nV c_.regs), (.slice aY c_.blocks.length aD)] 44, ow [(.slice aY c_.blocks.length aD)] bM.1, ow [(.slice aJ aC.length aK)] aC, ow [(.slice aZ aE.length aV)] aE, blk aR [aH] 110, owm aH bM.2.1, ow [(.slice bW aI.length aW)] aI]) [1, 2, 3, 4, 5, 6, 0] rfl ?_ ?_))))
  ·
   repeat clear hm
   intro _ _ az bM w hm dw dx dy _
   refine gS (gR (gB rfl (gE (gS (go _ 95 rfl (decide_eq_true (by omega)) (gct rfl (gSk (gS (gJ hm (fun bE => [(0, (pV bp0)), (7, (.slice aJ aC.length aK)), (8, (.slice aZ aE.length aV)), (11, (pV aR)), (16, (.bool (bE.2.2))), (92, (.slice bW aI.length aW)), (93, (nV ((aI.length : Int)))), (94, (nV az))]) (fun bE => [blk bp0 [(nV c_.params), (nV c_.regs), (.slice aY c_.blocks.length aD)] 44, ow [(.slice aY c_.blocks.length aD)] bE.1, ow [(.slice aJ aC.length aK)] aC, ow [(.slice aZ aE.length aV)] aE, blk aR [aH] 110, owm aH bE.2.1, ow [(.slice bW aI.length aW)] aI]) (fun bE => ?_) ?_)))))))))
   ·
    refine gBk (gS (gR (gg fun aX c8 bm => ?_)))
    obtain ⟨aa, ab, dz, he⟩ := idx_form (hm.ow_rep 6 rfl) bm
    obtain ⟨rfl, _, rfl⟩ := sl3 he
    refine gI st_57 c8 (idx_lt bm) rfl (gY (yl isAgg3 ((flat_cells (cs := [(nV aX)]) (hm.ow_rep 6 rfl) bm rfl).cell (j := 0) rfl) rfl) (gA rfl (gE (gS (gS (gR (gM rfl (gM rfl (gC hm rfl call125 (slices_Contains_S_int_int_ok _ aC (.slice aJ aC.length aK) (hm.ow_rep 2 rfl) aX) fun eA eB w hm => gN rfl (gE (gsn 101 rfl (fun c9 => ?_) fun c9 => ?_)))))))))))
    ·
     exact gct rfl (gXt (gHh (gz hm [0, 1, 2, 3, 4, 5, 6] rfl)))
    refine gcf rfl (gSk (gS (gR (gA rfl (gE (gS (gS (gR (gM rfl (gY (yG rfl (y_nilptr rfl rfl)) (gF fo_44_2 rfl (gL hm 0 isAgg42 rfl (gM rfl (gg fun aA bo bN => ?_))))))))))))))
    obtain ⟨aL, aM, eC, he⟩ := idx_form' (hm.ow_rep 1 rfl) bN
    obtain ⟨rfl, _, rfl⟩ := sl3 he
    obtain ⟨eD, eE, eF, eG, eH, eI, eJ⟩ := rk_Block_ (hm.ow_rep 1 rfl) bN
    have hL2_1 := rep_slice_len (hm.ow_rep 1 rfl)
    refine gI st_42 bo (idx_lt2 bN hL2_1) rfl (gF fo_59_1 rfl ?_)
    obtain ⟨aO, eK, aP, hm⟩ := pin_Block_ hm 1 rfl bN
    have bz : (aX).toNat < c_.blocks.length := (idx_lt2 bN (hm.holeE_len 4 rfl))
    refine gY (yl isAgg56 ((hm.holeE_at 4 rfl).cell (j := 1) rfl) rfl) ?_
    obtain ⟨ar, aN, rfl, eL⟩ := ro_slice (hm.ow_rep 1 rfl)
    refine gY (yV st_56 rfl) (gM rfl (gE ?_))
    replace hm := hm.drnV0 1 rfl
    refine gBk ?_
    replace hm := hm.nilow (α := Ins_)
    refine gNg (fun ac aG a w => ∃ (ae : Value), St 161 [(0, (pV bp0)), (7, (.slice aJ aC.length aK)), (8, (.slice aZ aE.length aV)), (11, (pV aR)), (16, (.bool (aG.2.2.1))), (18, (nV aX)), (19, ae), (92, (sV aa ab aI.length aW)), (93, (nV ((aI.length : Int)))), (94, (nV az)), (109, (.slice ar aA.ins.length aN)), (110, (nV ((aA.ins.length : Int)))), (111, (nV ac))] w0 ak [blk bp0 [(nV c_.params), (nV c_.regs), (sV aL aM c_.blocks.length aD)] 44, holeE aL aM c_.blocks.length aD (aG.1 : List Block_) (aX).toNat [aO, (.slice ar aA.ins.length aN), (nV aA.jump), (nV aA.on), aP], ow [aO] aA.phis, drnV (.slice ar aA.ins.length aN) (aA.ins : List Ins_) (ac), ow [aP] aA.next_, ow [(.slice aJ aC.length aK)] aC, ow [(.slice aZ aE.length aV)] aE, blk aR [aH] 110, owm aH aG.2.1, ow [ae] aG.2.2.2, ow [(sV aa ab aI.length aW)] aI] a w) (fun a hf => ⟨(.slice none 0 0), hf.sb rfl, hm.pk [4, 5, 3, 2, 1, 6, 7, 8, 9, 0, 10] rfl rfl⟩) ?_ ?_
    ·
     repeat clear hm
     rintro _ _ ac aG a w ⟨ae, hf, hm⟩ eM eN eO _
     refine gv hf (gS (gR (gB rfl (gE (gS (go _ 112 rfl (decide_eq_true (by omega)) (gct rfl (gSk (gS (gJg (fun bF a w => ∃ (bX : Value), St 161 [(0, (pV bp0)), (7, (.slice aJ aC.length aK)), (8, (.slice aZ aE.length aV)), (11, (pV aR)), (16, (.bool (bF.2.2.1))), (18, (nV aX)), (19, bX), (92, (sV aa ab aI.length aW)), (93, (nV ((aI.length : Int)))), (94, (nV az)), (109, (.slice ar aA.ins.length aN)), (110, (nV ((aA.ins.length : Int)))), (111, (nV ac))] w0 ak [blk bp0 [(nV c_.params), (nV c_.regs), (sV aL aM c_.blocks.length aD)] 44, holeE aL aM c_.blocks.length aD (bF.1 : List Block_) (aX).toNat [aO, (.slice ar aA.ins.length aN), (nV aA.jump), (nV aA.on), aP], ow [aO] aA.phis, drnS (.slice ar aA.ins.length aN) (aA.ins : List Ins_) (ac), ow [aP] aA.next_, ow [(.slice aJ aC.length aK)] aC, ow [(.slice aZ aE.length aV)] aE, blk aR [aH] 110, owm aH bF.2.1, ow [bX] bF.2.2.2, ow [(sV aa ab aI.length aW)] aI] a w) (fun bF => ?_) ?_))))))))))
     ·
      refine gBk (gS (gR (gg fun aB cA bY => ?_)))
      obtain ⟨aS, aT, eP, he⟩ := hm.drn_form 3 rfl bY
      obtain ⟨rfl, _, rfl⟩ := sl3 he
      obtain ⟨_, ca, hm⟩ := hm.drn_pin 3 rfl bY
      have cb := hm.ow_rep 0 rfl
      obtain ⟨_, _, rfl, rfl, _, _, rfl, rfl, _, _, rfl, bZ, rfl⟩ := cb
      obtain ⟨aQ, rfl, -⟩ := id bZ
      replace bZ : GT.rep (hp _) [aQ] aB.args := bZ
      clear ca bZ
      replace hm : Mem w0 ak _ [ow [(nV aB.op), (nV aB.to), aQ, (nV aB.n_)] (aB : Ins_), blk bp0 [(nV c_.params), (nV c_.regs), (sV aL aM c_.blocks.length aD)] 44, holeE aL aM c_.blocks.length aD (aG.1 : List Block_) (aX).toNat [aO, (sV aS aT aA.ins.length aN), (nV aA.jump), (nV aA.on), aP], ow [aO] aA.phis, drnH aS aT aA.ins.length aN (aA.ins : List Ins_) (ac).toNat [(nV aB.op), (nV aB.to), aQ, (nV aB.n_)], ow [aP] aA.next_, ow [(.slice aJ aC.length aK)] aC, ow [(.slice aZ aE.length aV)] aE, blk aR [aH] 110, owm aH aG.2.1, ow [ae] aG.2.2.2, ow [(sV aa ab aI.length aW)] aI] := hm
      replace hm := hm.imp (c' := ow ([(nV aB.op)] ++ [(nV aB.to), aQ, (nV aB.n_)]) ((aB.op, (aB.to, aB.args, aB.n_)) : Int × Int × (List Int) × Int)) 0 rfl (fun F h0 => h0)
      replace hm := Mem.unpair (α := Int) (β := Int × (List Int) × Int) (c := [(nV aB.op)]) (d := [(nV aB.to), aQ, (nV aB.n_)]) (x := aB.op) (y := (aB.to, aB.args, aB.n_)) hm 0 rfl rfl
      replace hm := hm.imp (c' := ow ([(nV aB.to)] ++ [aQ, (nV aB.n_)]) ((aB.to, (aB.args, aB.n_)) : Int × (List Int) × Int)) 0 rfl (fun F h0 => h0)
      replace hm := Mem.unpair (α := Int) (β := (List Int) × Int) (c := [(nV aB.to)]) (d := [aQ, (nV aB.n_)]) (x := aB.to) (y := (aB.args, aB.n_)) hm 0 rfl rfl
      replace hm := hm.imp (c' := ow ([aQ] ++ [(nV aB.n_)]) ((aB.args, aB.n_) : (List Int) × Int)) 0 rfl (fun F h0 => h0)
      replace hm := Mem.unpair (α := List Int) (β := Int) (c := [aQ]) (d := [(nV aB.n_)]) (x := aB.args) (y := aB.n_) hm 0 rfl rfl
      replace hm := hm.pk (L' := [ow [aQ] aB.args, blk bp0 [(nV c_.params), (nV c_.regs), (sV aL aM c_.blocks.length aD)] 44, holeE aL aM c_.blocks.length aD (aG.1 : List Block_) (aX).toNat [aO, (sV aS aT aA.ins.length aN), (nV aA.jump), (nV aA.on), aP], ow [aO] aA.phis, drnH aS aT aA.ins.length aN (aA.ins : List Ins_) (ac).toNat [(nV aB.op), (nV aB.to), aQ, (nV aB.n_)], ow [aP] aA.next_, ow [(.slice aJ aC.length aK)] aC, ow [(.slice aZ aE.length aV)] aE, blk aR [aH] 110, owm aH aG.2.1, ow [ae] aG.2.2.2, ow [(sV aa ab aI.length aW)] aI]) [1, 4, 5, 6, 7, 8, 9, 10, 11, 12, 13, 14] rfl rfl
      have hL4_1 := hm.drnH_len 4 rfl
      refine gI st_56 cA (idx_lt2 bY hL4_1) rfl (gY (yn (hm.drnH_at 4 rfl) isAgg61 sizeOf61 rfl) (gAl hm zeroValue61 rfl fun ah w hm => gSN hm 0 sizeOf61 (one_cons rfl (one_cons rfl (one_cons (rep_one (hm.ow_rep 1 rfl)) (one_cons rfl one_nil)))) rfl fun w hm => gE (gS (gS ?_))))
      replace hm := hm.drnH_gone 5 rfl cA bY
      refine gJ hm (fun b7 => [(0, (pV bp0)), (7, (.slice aJ aC.length aK)), (8, (.slice aZ aE.length aV)), (11, (pV aR)), (16, (.bool (aG.2.2.1))), (18, (nV aX)), (19, ae), (21, (pV ah)), (92, (sV aa ab aI.length aW)), (93, (nV ((aI.length : Int)))), (94, (nV az)), (109, (sV aS aT aA.ins.length aN)), (110, (nV ((aA.ins.length : Int)))), (111, (nV ac)), (124, (.bool (b7)))]) (fun b7 => [blk bp0 [(nV c_.params), (nV c_.regs), (sV aL aM c_.blocks.length aD)] 44, holeE aL aM c_.blocks.length aD (aG.1 : List Block_) (aX).toNat [aO, (sV aS aT aA.ins.length aN), (nV aA.jump), (nV aA.on), aP], ow [aO] aA.phis, drnS (sV aS aT aA.ins.length aN) (aA.ins : List Ins_) (ac), ow [aP] aA.next_, ow [(.slice aJ aC.length aK)] aC, ow [(.slice aZ aE.length aV)] aE, blk aR [aH] 110, owm aH aG.2.1, ow [ae] aG.2.2.2, blk ah [(nV aB.op), (nV aB.to), aQ, (nV aB.n_)] 61, ow [aQ] aB.args, ow [(sV aa ab aI.length aW)] aI]) (fun b7 => ?_) ?_
      ·
       refine gR (gF fo_61_0 rfl (gL hm 0 isAgg3 rfl (gC hm rfl call164 (impl_harmless_ok _ aB.op) fun eQ eR w hm => gN rfl (gM rfl (gsn 119 rfl (fun cc => ?_) fun cc => ?_)))))
       ·
        exact gO rfl (gO rfl (gO rfl (gO rfl (gKt rfl (gE (gz hm [2, 3, 4, 5, 6, 7, 8, 9, 10, 11, 0, 1, 12] rfl))))))
       exact gF fo_61_2 rfl (gL hm 0 isAgg57 rfl (gY (yU rfl) (gC hm rfl call147 (slices_ContainsFunc_S_int_int_ok _ aB.args aQ (hm.ow_rep 1 rfl) (fun y0 => impl_hoistLoop_1 y0 aG.2.1) (.func (.func 165) #[] #[(pV aR)]) (fun w y0 r hB hq => ⟨165, [(pV aR)], rfl, call165, impl_hoistLoop_1_ok w y0 aG.2.1 aH (rep_later (hm.owm_rep 10 rfl) hB) aR (hm.blk_later 9 rfl hB) r hq⟩)) fun eS eT w hm => gKf rfl (gE (gz hm [2, 3, 4, 5, 6, 7, 8, 9, 10, 11, 0, 1, 12] rfl)))))
      repeat clear hm
      intro b7 w hm
      refine gs 124 rfl (fun cd => ?_) fun cd => ?_
      ·
       refine gct rfl (gS (gR (gM rfl (gY (yn (hm.blk_at 10 rfl) isAgg61 sizeOf61 rfl) (gf rfl (fun a hf => e_build (vs := #[(0, (.agg #[(nV aB.op), (nV aB.to), aQ, (nV aB.n_)]))]) (cs := [(nV aB.op), (nV aB.to), aQ, (nV aB.n_)]) et_56 hf hm rfl rfl (by kernel_rfl) rfl rfl) ?_)))))
       rintro _ w ⟨b8, rfl, hm⟩
       replace hm := hm.els_nil (α := Ins_)
       replace hm : Mem w0 ak _ [els [] ([] : List Ins_), blk b8 [(nV aB.op), (nV aB.to), aQ, (nV aB.n_)] 61, blk bp0 [(nV c_.params), (nV c_.regs), (sV aL aM c_.blocks.length aD)] 44, holeE aL aM c_.blocks.length aD (aG.1 : List Block_) (aX).toNat [aO, (sV aS aT aA.ins.length aN), (nV aA.jump), (nV aA.on), aP], ow [aO] aA.phis, drnS (sV aS aT aA.ins.length aN) (aA.ins : List Ins_) (ac), ow [aP] aA.next_, ow [(.slice aJ aC.length aK)] aC, ow [(.slice aZ aE.length aV)] aE, blk aR [aH] 110, owm aH aG.2.1, ow [ae] aG.2.2.2, blk ah [(nV aB.op), (nV aB.to), aQ, (nV aB.n_)] 61, ow [(nV aB.op), (nV aB.to), aQ, (nV aB.n_)] (aB : Ins_), ow [(sV aa ab aI.length aW)] aI] := mk_Ins_ aB.op aB.to aB.n_ hm 13 rfl
       replace hm := (hm.els_cons 0 13 (by decide) rfl rfl).pk (L' := [els [(nV aB.op), (nV aB.to), aQ, (nV aB.n_)] ([aB] : List Ins_), blk b8 [(nV aB.op), (nV aB.to), aQ, (nV aB.n_)] 61, blk bp0 [(nV c_.params), (nV c_.regs), (sV aL aM c_.blocks.length aD)] 44, holeE aL aM c_.blocks.length aD (aG.1 : List Block_) (aX).toNat [aO, (sV aS aT aA.ins.length aN), (nV aA.jump), (nV aA.on), aP], ow [aO] aA.phis, drnS (sV aS aT aA.ins.length aN) (aA.ins : List Ins_) (ac), ow [aP] aA.next_, ow [(.slice aJ aC.length aK)] aC, ow [(.slice aZ aE.length aV)] aE, blk aR [aH] 110, owm aH aG.2.1, ow [ae] aG.2.2.2, blk ah [(nV aB.op), (nV aB.to), aQ, (nV aB.n_)] 61, ow [(sV aa ab aI.length aW)] aI]) [0, 1, 2, 3, 4, 5, 6, 7, 8, 9, 10, 11, 12, 14] rfl rfl
       replace hm := (hm.lit_els 1 0 (by decide) rfl rfl rfl rfl).pk (L' := [ow [(sV b8 0 1 1)] ([aB] : List Ins_), blk bp0 [(nV c_.params), (nV c_.regs), (sV aL aM c_.blocks.length aD)] 44, holeE aL aM c_.blocks.length aD (aG.1 : List Block_) (aX).toNat [aO, (sV aS aT aA.ins.length aN), (nV aA.jump), (nV aA.on), aP], ow [aO] aA.phis, drnS (sV aS aT aA.ins.length aN) (aA.ins : List Ins_) (ac), ow [aP] aA.next_, ow [(.slice aJ aC.length aK)] aC, ow [(.slice aZ aE.length aV)] aE, blk aR [aH] 110, owm aH aG.2.1, ow [ae] aG.2.2.2, blk ah [(nV aB.op), (nV aB.to), aQ, (nV aB.n_)] 61, ow [(sV aa ab aI.length aW)] aI]) [1, 2, 3, 4, 5, 6, 7, 8, 9, 10, 11, 12, 13] rfl rfl
       refine gb fun eU ce => ?_
       obtain ⟨cf, cg⟩ := appM_some.1 ce
       replace hm := (hm.both 10 0 (by decide) rfl rfl).pk (L' := [blk bp0 [(nV c_.params), (nV c_.regs), (sV aL aM c_.blocks.length aD)] 44, holeE aL aM c_.blocks.length aD (aG.1 : List Block_) (aX).toNat [aO, (sV aS aT aA.ins.length aN), (nV aA.jump), (nV aA.on), aP], ow [aO] aA.phis, drnS (sV aS aT aA.ins.length aN) (aA.ins : List Ins_) (ac), ow [aP] aA.next_, ow [(.slice aJ aC.length aK)] aC, ow [(.slice aZ aE.length aV)] aE, blk aR [aH] 110, owm aH aG.2.1, both (ow [ae] aG.2.2.2) (ow [(sV b8 0 1 1)] ([aB] : List Ins_)), blk ah [(nV aB.op), (nV aB.to), aQ, (nV aB.n_)] 61, ow [(sV aa ab aI.length aW)] aI]) [1, 2, 3, 4, 5, 6, 7, 8, 9, 10, 11, 12] rfl rfl
       refine gf rfl (fun a hf => e_appendD (xs := aG.2.2.2) (ys := ([aB] : List Ins_)) 9 et_56 hf hm rfl rfl rfl rfl cf) ?_
       rintro ci w hm
       rw [cg] at hm
       exact gA rfl (gE (gXt (gHh (gZ fun a hf => ⟨ci, hf.sb rfl, hm.pk [0, 1, 2, 3, 4, 5, 6, 7, 8, 9, 11] rfl rfl⟩))))
      refine gcf rfl (gSk (gS (gR (gL hm 7 isAgg110 rfl (gF fo_61_1 rfl (gL hm 10 isAgg3 rfl (gf0 rfl (fun a hf => e_insM (β := Bool) (key := aB.to) (u := false) (b := false) 8 underlying3 underlying110 hf hm rfl rfl rfl rfl rfl) ?_)))))))
      rintro _ w hm
      refine gA rfl (gE (gS (gg fun am cj bp => gg fun aF cB cC => gb fun eV b9 => ?_)))
      replace b9 := neI_some b9 bo cB
      obtain ⟨af, ai, ag, hm⟩ := pinb_Block_ hm 1 rfl cC b9
      replace hm : Mem w0 ak _ [ow [ag] aF.next_, ow [ai] aF.ins, ow [af] aF.phis, blk bp0 [(nV c_.params), (nV c_.regs), (sV aL aM c_.blocks.length aD)] 44, hole2E aL aM c_.blocks.length aD (aG.1 : List Block_) (aX).toNat [aO, (sV aS aT aA.ins.length aN), (nV aA.jump), (nV aA.on), aP] (am).toNat [af, ai, (nV aF.jump), (nV aF.on), ag], ow [aO] aA.phis, drnS (sV aS aT aA.ins.length aN) (aA.ins : List Ins_) (ac), ow [aP] aA.next_, ow [(.slice aJ aC.length aK)] aC, ow [(.slice aZ aE.length aV)] aE, blk aR [aH] 110, owm aH (MapS.ins aG.2.1 aB.to false), ow [ae] aG.2.2.2, blk ah [(nV aB.op), (nV aB.to), aQ, (nV aB.n_)] 61, ow [aQ] aB.args, ow [(sV aa ab aI.length aW)] aI] := hm
      refine gW (.p 0 (.p 1 (.p 2 (.p 4 (.p 5 (.q 3 (.e 6 (.p 7 (.p 8 .fin)) .nil))))))) [6] [0, 1, 2, 4, 5, 7, 8] hm [0, 1, 2, 3, 4, 5, 6, 7, 8, 9, 10, 11, 12, 13, 14, 15] [ow [ag] aF.next_, ow [ai] aF.ins, ow [af] aF.phis, blk bp0 [(nV c_.params), (nV c_.regs), (sV aL aM c_.blocks.length aD)] 44, hole2E aL aM c_.blocks.length aD (aG.1 : List Block_) (aX).toNat [aO, (sV aS aT aA.ins.length aN), (nV aA.jump), (nV aA.on), aP] (am).toNat [af, ai, (nV aF.jump), (nV aF.on), ag], ow [aO] aA.phis, drnS (sV aS aT aA.ins.length aN) (aA.ins : List Ins_) (ac), ow [aP] aA.next_, ow [(.slice aJ aC.length aK)] aC, ow [(.slice aZ aE.length aV)] aE, blk aR [aH] 110, owm aH (MapS.ins aG.2.1 aB.to false), ow [ae] aG.2.2.2, blk ah [(nV aB.op), (nV aB.to), aQ, (nV aB.n_)] 61, ow [aQ] aB.args, ow [(sV aa ab aI.length aW)] aI] rfl mxo (by kernel_rfl) (fun _ _ _ h => h.2) fun w hm hS => tP rfl (fun w => yM rfl) (tP rfl (fun w => yG rfl (y_nilptr rfl rfl)) (tP rfl (fun w => yF fo_44_2 rfl) (tP rfl (fun w => yM rfl) ?_)))
      obtain ⟨ao, ap, eW, he⟩ := idx_form (hm.ow_rep 9 rfl) bp
      obtain ⟨rfl, _, rfl⟩ := sl3 he
      refine tP rfl (fun w => yI st_57 cj (idx_lt bp) rfl) (tQ rfl hS (fun w hm => yL hm 3 isAgg42 rfl) (tO (tY rfl (yl isAgg3 ((flat_cells (cs := [(nV am)]) (hm.ow_rep 9 rfl) bp rfl).cell (j := 0) rfl) rfl) (tAs hS ?_))))
      have hL4_2 := hm.hole2E_len 4 rfl
      refine tP rfl (fun w => yI st_42 cB (idx_lt2 cC hL4_2) rfl) (tP rfl (fun w => yA rfl) (tE ?_))
      replace hm : Mem w0 ak _ [ow [ag] aF.next_, ow [ai] aF.ins, ow [af] aF.phis, blk bp0 [(nV c_.params), (nV c_.regs), (sV aL aM c_.blocks.length aD)] 44, hole2E aL aM c_.blocks.length aD (aG.1 : List Block_) (aX).toNat [aO, (sV aS aT aA.ins.length aN), (nV aA.jump), (nV aA.on), aP] (am).toNat [af, ai, (nV aF.jump), (nV aF.on), ag], ow [aO] aA.phis, drnS (sV aS aT aA.ins.length aN) (aA.ins : List Ins_) (ac), ow [aP] aA.next_, ow [(.slice aJ aC.length aK)] aC, ow [(sV ao ap aE.length aV)] aE, blk aR [aH] 110, owm aH (MapS.ins aG.2.1 aB.to false), ow [ae] aG.2.2.2, blk ah [(nV aB.op), (nV aB.to), aQ, (nV aB.n_)] 61, ow [aQ] aB.args, ow [(sV aa ab aI.length aW)] aI] := hm
      refine gW (.p 0 (.p 1 (.p 2 (.p 3 (.q 4 (.e 5 (.e 6 (.e 7 (.p 8 (.p 9 (.e 10 .fin .nil))) .nil) .nil) .nil)))))) [5, 6] [0, 1, 2, 3, 8, 9] hm [0, 1, 2, 3, 4, 5, 6, 7, 8, 9, 10, 11, 12, 13, 15] [ow [ag] aF.next_, ow [ai] aF.ins, ow [af] aF.phis, blk bp0 [(nV c_.params), (nV c_.regs), (sV aL aM c_.blocks.length aD)] 44, hole2E aL aM c_.blocks.length aD (aG.1 : List Block_) (aX).toNat [aO, (sV aS aT aA.ins.length aN), (nV aA.jump), (nV aA.on), aP] (am).toNat [af, ai, (nV aF.jump), (nV aF.on), ag], ow [aO] aA.phis, drnS (sV aS aT aA.ins.length aN) (aA.ins : List Ins_) (ac), ow [aP] aA.next_, ow [(.slice aJ aC.length aK)] aC, ow [(sV ao ap aE.length aV)] aE, blk aR [aH] 110, owm aH (MapS.ins aG.2.1 aB.to false), ow [ae] aG.2.2.2, blk ah [(nV aB.op), (nV aB.to), aQ, (nV aB.n_)] 61, ow [(sV aa ab aI.length aW)] aI] rfl mxo (by kernel_rfl) (fun _ _ _ h => h.2) fun w hm hS => tP rfl (fun w => yM rfl) (tP rfl (fun w => yM rfl) (tP rfl (fun w => yG rfl (y_nilptr rfl rfl)) (tP rfl (fun w => yF fo_59_1 rfl) (tQ rfl hS (fun w hm => yl isAgg56 ((hm.hole2E_at2 4 rfl).cell (j := 1) rfl) rfl) (tO (tY rfl (yn (hm.blk_at 13 rfl) isAgg61 sizeOf61 rfl) (tAs hS (tO (tf rfl rfl (fun a hf => e_build (vs := #[(0, (.agg #[(nV aB.op), (nV aB.to), aQ, (nV aB.n_)]))]) (cs := [(nV aB.op), (nV aB.to), aQ, (nV aB.n_)]) et_56 hf hm rfl rfl (by kernel_rfl) rfl rfl) ?_)))))))))
      rintro _ w ⟨ba, rfl, hm⟩
      replace hm := hm.els_nil (α := Ins_)
      replace hm : Mem w0 ak _ [els [] ([] : List Ins_), blk ba [(nV aB.op), (nV aB.to), aQ, (nV aB.n_)] 61, ow [ag] aF.next_, ow [ai] aF.ins, ow [af] aF.phis, blk bp0 [(nV c_.params), (nV c_.regs), (sV aL aM c_.blocks.length aD)] 44, hole2E aL aM c_.blocks.length aD (aG.1 : List Block_) (aX).toNat [aO, (sV aS aT aA.ins.length aN), (nV aA.jump), (nV aA.on), aP] (am).toNat [af, ai, (nV aF.jump), (nV aF.on), ag], ow [aO] aA.phis, drnS (sV aS aT aA.ins.length aN) (aA.ins : List Ins_) (ac), ow [aP] aA.next_, ow [(.slice aJ aC.length aK)] aC, ow [(sV ao ap aE.length aV)] aE, blk aR [aH] 110, owm aH (MapS.ins aG.2.1 aB.to false), ow [ae] aG.2.2.2, blk ah [(nV aB.op), (nV aB.to), aQ, (nV aB.n_)] 61, ow [(nV aB.op), (nV aB.to), aQ, (nV aB.n_)] (aB : Ins_), ow [(sV aa ab aI.length aW)] aI] := mk_Ins_ aB.op aB.to aB.n_ hm 16 rfl
      replace hm := (hm.els_cons 0 16 (by decide) rfl rfl).pk (L' := [els [(nV aB.op), (nV aB.to), aQ, (nV aB.n_)] ([aB] : List Ins_), blk ba [(nV aB.op), (nV aB.to), aQ, (nV aB.n_)] 61, ow [ag] aF.next_, ow [ai] aF.ins, ow [af] aF.phis, blk bp0 [(nV c_.params), (nV c_.regs), (sV aL aM c_.blocks.length aD)] 44, hole2E aL aM c_.blocks.length aD (aG.1 : List Block_) (aX).toNat [aO, (sV aS aT aA.ins.length aN), (nV aA.jump), (nV aA.on), aP] (am).toNat [af, ai, (nV aF.jump), (nV aF.on), ag], ow [aO] aA.phis, drnS (sV aS aT aA.ins.length aN) (aA.ins : List Ins_) (ac), ow [aP] aA.next_, ow [(.slice aJ aC.length aK)] aC, ow [(sV ao ap aE.length aV)] aE, blk aR [aH] 110, owm aH (MapS.ins aG.2.1 aB.to false), ow [ae] aG.2.2.2, blk ah [(nV aB.op), (nV aB.to), aQ, (nV aB.n_)] 61, ow [(sV aa ab aI.length aW)] aI]) [0, 1, 2, 3, 4, 5, 6, 7, 8, 9, 10, 11, 12, 13, 14, 15, 17] rfl rfl
      replace hm := (hm.lit_els 1 0 (by decide) rfl rfl rfl rfl).pk (L' := [ow [(sV ba 0 1 1)] ([aB] : List Ins_), ow [ag] aF.next_, ow [ai] aF.ins, ow [af] aF.phis, blk bp0 [(nV c_.params), (nV c_.regs), (sV aL aM c_.blocks.length aD)] 44, hole2E aL aM c_.blocks.length aD (aG.1 : List Block_) (aX).toNat [aO, (sV aS aT aA.ins.length aN), (nV aA.jump), (nV aA.on), aP] (am).toNat [af, ai, (nV aF.jump), (nV aF.on), ag], ow [aO] aA.phis, drnS (sV aS aT aA.ins.length aN) (aA.ins : List Ins_) (ac), ow [aP] aA.next_, ow [(.slice aJ aC.length aK)] aC, ow [(sV ao ap aE.length aV)] aE, blk aR [aH] 110, owm aH (MapS.ins aG.2.1 aB.to false), ow [ae] aG.2.2.2, blk ah [(nV aB.op), (nV aB.to), aQ, (nV aB.n_)] 61, ow [(sV aa ab aI.length aW)] aI]) [1, 2, 3, 4, 5, 6, 7, 8, 9, 10, 11, 12, 13, 14, 15, 16] rfl rfl
      refine tAk hm [1, 2, 3, 4, 5, 6, 7, 8, 9, 10, 11, 12, 13, 14, 15] rfl fun hS => tO (gb fun bA ck => ?_)
      obtain ⟨cl, cm⟩ := appM_some.1 ck
      replace hm := (hm.both 2 0 (by decide) rfl rfl).pk (L' := [ow [ag] aF.next_, both (ow [ai] aF.ins) (ow [(sV ba 0 1 1)] ([aB] : List Ins_)), ow [af] aF.phis, blk bp0 [(nV c_.params), (nV c_.regs), (sV aL aM c_.blocks.length aD)] 44, hole2E aL aM c_.blocks.length aD (aG.1 : List Block_) (aX).toNat [aO, (sV aS aT aA.ins.length aN), (nV aA.jump), (nV aA.on), aP] (am).toNat [af, ai, (nV aF.jump), (nV aF.on), ag], ow [aO] aA.phis, drnS (sV aS aT aA.ins.length aN) (aA.ins : List Ins_) (ac), ow [aP] aA.next_, ow [(.slice aJ aC.length aK)] aC, ow [(sV ao ap aE.length aV)] aE, blk aR [aH] 110, owm aH (MapS.ins aG.2.1 aB.to false), ow [ae] aG.2.2.2, blk ah [(nV aB.op), (nV aB.to), aQ, (nV aB.n_)] 61, ow [(sV aa ab aI.length aW)] aI]) [1, 2, 3, 4, 5, 6, 7, 8, 9, 10, 11, 12, 13, 14, 15] rfl rfl
      refine tf rfl rfl (fun a hf => e_appendD (xs := aF.ins) (ys := ([aB] : List Ins_)) 1 et_56 hf hm rfl rfl rfl rfl cl) ?_
      rintro au w hm
      rw [cm] at hm
      refine tAn rfl (tP rfl (fun w => yG rfl (y_nilptr rfl rfl)) (tP rfl (fun w => yF fo_59_1 rfl) (tO ?_)))
      have cD : ∀ u ∈ ([au] : List Value), u.oneCell' = true := (one_cons (rep_one (hm.ow_rep 1 rfl)) one_nil)
      replace hm : Mem w0 ak _ [ow [ag] aF.next_, ow [au] bA, ow [af] aF.phis, blk bp0 [(nV c_.params), (nV c_.regs), (sV aL aM c_.blocks.length aD)] 44, hole2E aL aM c_.blocks.length aD (aG.1 : List Block_) (am).toNat [af, ai, (nV aF.jump), (nV aF.on), ag] (aX).toNat [aO, (sV aS aT aA.ins.length aN), (nV aA.jump), (nV aA.on), aP], ow [aO] aA.phis, drnS (sV aS aT aA.ins.length aN) (aA.ins : List Ins_) (ac), ow [aP] aA.next_, ow [(.slice aJ aC.length aK)] aC, ow [(sV ao ap aE.length aV)] aE, blk aR [aH] 110, owm aH (MapS.ins aG.2.1 aB.to false), ow [ae] aG.2.2.2, blk ah [(nV aB.op), (nV aB.to), aQ, (nV aB.n_)] 61, ow [(sV aa ab aI.length aW)] aI] := hm.hole2E_swap 4 rfl
      refine tf0 rfl rfl (fun a hf => e_storeH2 (j := 1) (vs := [au]) 4 hf hm rfl rfl rfl sizeOf56 rfl rfl (cells_one (cD _ (List.mem_singleton.2 rfl))) cD rfl) ?_
      rintro _ w hm
      replace hm : Mem w0 ak _ [ow [ag] aF.next_, ow [au] bA, ow [af] aF.phis, blk bp0 [(nV c_.params), (nV c_.regs), (sV aL aM c_.blocks.length aD)] 44, hole2E aL aM c_.blocks.length aD (aG.1 : List Block_) (am).toNat [af, au, (nV aF.jump), (nV aF.on), ag] (aX).toNat [aO, (sV aS aT aA.ins.length aN), (nV aA.jump), (nV aA.on), aP], ow [aO] aA.phis, drnS (sV aS aT aA.ins.length aN) (aA.ins : List Ins_) (ac), ow [aP] aA.next_, ow [(.slice aJ aC.length aK)] aC, ow [(sV ao ap aE.length aV)] aE, blk aR [aH] 110, owm aH (MapS.ins aG.2.1 aB.to false), ow [ae] aG.2.2.2, blk ah [(nV aB.op), (nV aB.to), aQ, (nV aB.n_)] 61, ow [(sV aa ab aI.length aW)] aI] := hm
      refine tAn rfl (tE ?_)
      obtain ⟨cn, co⟩ := hm.hole2E_hx2 4 rfl bz
      replace hm : Mem w0 ak _ [ow [ag] aF.next_, ow [au] bA, ow [af] aF.phis, blk bp0 [(nV c_.params), (nV c_.regs), (sV aL aM c_.blocks.length aD)] 44, hole2E aL aM c_.blocks.length aD (aG.1 : List Block_) (aX).toNat [aO, (sV aS aT aA.ins.length aN), (nV aA.jump), (nV aA.on), aP] (am).toNat [af, au, (nV aF.jump), (nV aF.on), ag], ow [aO] aA.phis, drnS (sV aS aT aA.ins.length aN) (aA.ins : List Ins_) (ac), ow [aP] aA.next_, ow [(.slice aJ aC.length aK)] aC, ow [(sV ao ap aE.length aV)] aE, blk aR [aH] 110, owm aH (MapS.ins aG.2.1 aB.to false), ow [ae] aG.2.2.2, blk ah [(nV aB.op), (nV aB.to), aQ, (nV aB.n_)] 61, ow [(sV aa ab aI.length aW)] aI] := hm.hole2E_swap 4 rfl
      replace hm := (mk_Block_ aF.jump aF.on hm 2 1 0 rfl).pk (L' := [ow [af, au, (nV aF.jump), (nV aF.on), ag] ((⟨aF.phis, bA, aF.jump, aF.on, aF.next_⟩ : Block_) : Block_), blk bp0 [(nV c_.params), (nV c_.regs), (sV aL aM c_.blocks.length aD)] 44, hole2E aL aM c_.blocks.length aD (aG.1 : List Block_) (aX).toNat [aO, (sV aS aT aA.ins.length aN), (nV aA.jump), (nV aA.on), aP] (am).toNat [af, au, (nV aF.jump), (nV aF.on), ag], ow [aO] aA.phis, drnS (sV aS aT aA.ins.length aN) (aA.ins : List Ins_) (ac), ow [aP] aA.next_, ow [(.slice aJ aC.length aK)] aC, ow [(sV ao ap aE.length aV)] aE, blk aR [aH] 110, owm aH (MapS.ins aG.2.1 aB.to false), ow [ae] aG.2.2.2, blk ah [(nV aB.op), (nV aB.to), aQ, (nV aB.n_)] 61, ow [(sV aa ab aI.length aW)] aI]) [2, 3, 4, 5, 6, 7, 8, 9, 10, 11, 12, 13, 14] rfl rfl
      replace hm := (hm.shut2E (y := ((⟨aF.phis, bA, aF.jump, aF.on, aF.next_⟩ : Block_) : Block_)) 2 0 (by decide) rfl rfl).pk (L' := [blk bp0 [(nV c_.params), (nV c_.regs), (sV aL aM c_.blocks.length aD)] 44, holeE aL aM c_.blocks.length aD ((aG.1.set (am).toNat (⟨aF.phis, bA, aF.jump, aF.on, aF.next_⟩ : Block_)) : List Block_) (aX).toNat [aO, (sV aS aT aA.ins.length aN), (nV aA.jump), (nV aA.on), aP], ow [aO] aA.phis, drnS (sV aS aT aA.ins.length aN) (aA.ins : List Ins_) (ac), ow [aP] aA.next_, ow [(.slice aJ aC.length aK)] aC, ow [(sV ao ap aE.length aV)] aE, blk aR [aH] 110, owm aH (MapS.ins aG.2.1 aB.to false), ow [ae] aG.2.2.2, blk ah [(nV aB.op), (nV aB.to), aQ, (nV aB.n_)] 61, ow [(sV aa ab aI.length aW)] aI]) [1, 2, 3, 4, 5, 6, 7, 8, 9, 10, 11, 12] rfl rfl
      have eX : ((aG.1.set (am).toNat (⟨aF.phis, bA, aF.jump, aF.on, aF.next_⟩ : Block_)) : List Block_)[(aX).toNat]? = some cn := (List.getElem?_set_ne (Ne.symm (Ne.symm (Ne.symm b9)))).trans co
      exact gZ fun a hf => ⟨ae, hf.sb rfl, hm.pk [0, 1, 2, 3, 4, 5, 6, 7, 8, 9, 11] rfl rfl⟩
     repeat clear hm
     rintro bF a w ⟨bX, hf, hm⟩
     refine gv hf (gR (gP (by omega) (by omega) rfl (gM rfl (gE ?_))))
     replace hm := hm.drnS_next 3 rfl
     exact gZe fun a hf => ⟨bX, hf.sb rfl, hm.pk [0, 1, 2, 3, 4, 5, 6, 7, 8, 9, 10] rfl rfl⟩
    repeat clear hm
    rintro bq aq a w ⟨bG, hf, hm⟩ eY eZ
    refine gv hf (gS (gR (gB rfl (gE (gS (go _ 112 rfl (decide_eq_false (by omega)) (gcf rfl (gXt (gHh (gR (gM rfl (gY (yG rfl (y_nilptr rfl rfl)) (gF fo_44_2 rfl (gL hm 0 isAgg42 rfl (gM rfl (gM rfl ?_))))))))))))))))
    have hL2_2 := hm.holeE_len 1 rfl
    obtain ⟨ea, cE⟩ := hm.holeE_hx 1 rfl bz
    refine gI st_42 bo (idx_lt2 cE hL2_2) rfl (gF fo_59_1 rfl ?_)
    have cF : ∀ u ∈ ([bG] : List Value), u.oneCell' = true := (one_cons (rep_one (hm.ow_rep 9 rfl)) one_nil)
    refine gf0 rfl (fun a hf => e_storeH (j := 1) (vs := [bG]) 1 hf hm rfl rfl rfl sizeOf56 rfl rfl (cells_one (cF _ (List.mem_singleton.2 rfl))) cF rfl) ?_
    rintro _ w hm
    replace hm : Mem w0 ak _ [blk bp0 [(nV c_.params), (nV c_.regs), (sV aL aM c_.blocks.length aD)] 44, holeE aL aM c_.blocks.length aD (aq.1 : List Block_) (aX).toNat [aO, bG, (nV aA.jump), (nV aA.on), aP], ow [aO] aA.phis, drnV (.slice ar aA.ins.length aN) (aA.ins : List Ins_) (bq), ow [aP] aA.next_, ow [(.slice aJ aC.length aK)] aC, ow [(.slice aZ aE.length aV)] aE, blk aR [aH] 110, owm aH aq.2.1, ow [bG] aq.2.2.2, ow [(sV aa ab aI.length aW)] aI] := hm
    refine gE ?_
    replace hm := (mk_Block_ aA.jump aA.on hm 2 9 4 rfl).pk (L' := [blk bp0 [(nV c_.params), (nV c_.regs), (sV aL aM c_.blocks.length aD)] 44, holeE aL aM c_.blocks.length aD (aq.1 : List Block_) (aX).toNat [aO, bG, (nV aA.jump), (nV aA.on), aP], ow [aO, bG, (nV aA.jump), (nV aA.on), aP] ((⟨aA.phis, aq.2.2.2, aA.jump, aA.on, aA.next_⟩ : Block_) : Block_), drnV (.slice ar aA.ins.length aN) (aA.ins : List Ins_) (bq), ow [(.slice aJ aC.length aK)] aC, ow [(.slice aZ aE.length aV)] aE, blk aR [aH] 110, owm aH aq.2.1, ow [(sV aa ab aI.length aW)] aI]) [0, 1, 2, 3, 5, 6, 7, 8, 10] rfl rfl
    replace hm := (hm.shutE (y := ((⟨aA.phis, aq.2.2.2, aA.jump, aA.on, aA.next_⟩ : Block_) : Block_)) 1 2 (by decide) rfl rfl).pk (L' := [blk bp0 [(nV c_.params), (nV c_.regs), (sV aL aM c_.blocks.length aD)] 44, ow [(sV aL aM c_.blocks.length aD)] (aq.1.set (aX).toNat (⟨aA.phis, aq.2.2.2, aA.jump, aA.on, aA.next_⟩ : Block_)), drnV (.slice ar aA.ins.length aN) (aA.ins : List Ins_) (bq), ow [(.slice aJ aC.length aK)] aC, ow [(.slice aZ aE.length aV)] aE, blk aR [aH] 110, owm aH aq.2.1, ow [(sV aa ab aI.length aW)] aI]) [0, 1, 3, 4, 5, 6, 7, 8] rfl rfl
    have eb := List.getElem?_set_self (a := ((⟨aA.phis, aq.2.2.2, aA.jump, aA.on, aA.next_⟩ : Block_) : Block_)) (idx_lt cE)
    exact gz hm [0, 1, 3, 4, 5, 6, 7] rfl
   repeat clear hm
   intro bE w hm
   exact gR (gP (by omega) (by omega) rfl (gM rfl (gE (gze hm [0, 1, 2, 3, 4, 5, 6] rfl))))
  repeat clear hm
  intro ec ed w hm ee ef
  refine gS (gR (gB rfl (gE (gS (go _ 95 rfl (decide_eq_false (by omega)) (gcf rfl (gXt (gHh (gS (gR (gM rfl (gA rfl (gE (gRt ?_))))))))))))))
  replace hm := hm.thaw bK
  exact gr1 results106 rfl ⟨(.slice aY c_.blocks.length aD), rfl, hm.pk [0, 1] rfl rfl⟩
theorem impl_hoisted_ok (w0 : World) (c_ : Code_) (v1 : Value) (h1 : GT.rep (hp w0) [v1] c_.blocks) :
    ConM Tryz.prog 58 [(.agg #[(nV c_.params), (nV c_.regs), v1])] w0 (impl_hoisted c_) fun r v w' => ∃ (x1 : Value), v = (.agg #[(nV r.params), (nV r.regs), x1]) ∧ Mem w0 (hp w0) w' [ow [x1] r.blocks] := by
  unfold impl_hoisted
  refine gcon func58 rfl fun r => ?_
  have hm := Mem.start w0
  refine gS (gR (gBx hm rfl fun ay w hm => gAl hm zeroValue44 rfl fun aC w hm => gE (gS (gJg (fun aA a w => ∃ (aL : Heap) (aB : Nat) (aW : Value) (aD : Nat) (aK aX aY : Value), Heap.le (hp w0) aL ∧ GT.rep aL [aK] (aA.2.2.2.2.2.1) ∧ St 28 [(2, (pV aC)), (3, (pV aB)), (4, (pV aD))] w0 aL [blk aC [(nV 0), (nV 0), (.slice none 0 0)] 44, blk aB [(nV aA.1), (nV aA.2.1), aW] 44, ow [aW] aA.2.2.1, blk aD [(nV aA.2.2.2.1), (nV aA.2.2.2.2.1), aK, aX, aY] 166, ow [aX] aA.2.2.2.2.2.2.1, ow [aY] aA.2.2.2.2.2.2.2] a w) (fun aA => ?_) ?_))))
  ·
   refine gW (.q 0 (.q 2 (.e 1 (.e 3 (.e 4 (.e 5 (.p 6 .fin) .nil) .nil) (.e 4 (.e 3 (.e 5 (.p 6 .fin) .nil) .nil) .nil)) (.e 4 (.e 1 (.e 3 (.e 5 (.p 6 .fin) .nil) .nil) .nil) .nil)))) [0, 1, 2, 4] [6] hm [0, 1] [blk aC [(nV 0), (nV 0), (.slice none 0 0)] 44, blk ay [(nV c_.params), (nV c_.regs), v1] 44] rfl mxo (by kernel_rfl) (fun _ _ _ h => h.2) fun w hm hS => tQ rfl hS (fun w hm => yn (hm.blk_at 1 rfl) isAgg44 sizeOf44 rfl) (tQ rfl hS (fun w hm => yn (hm.blk_at 1 rfl) isAgg44 sizeOf44 rfl) (gb fun bg an => gb fun bh aZ => gb fun bi aM => tMo ?_ ?_))
   ·
    refine tf rfl rfl (fun a hf => e_call hf rfl call73 rfl (impl_cloneCode_ok _ c_ v1 (hm.now h1) _ an)) ?_
    rintro bj w ⟨ao, rfl, hB⟩
    replace hm := hm.give hB; clear hB
    refine tAk hm [1, 2] rfl fun hS => tMo ?_ ?_
    ·
     refine tf rfl rfl (fun a hf => e_call hf rfl call104 rfl (impl_domsOf_ok _ _ hm.lez c_ v1 h1  _ aZ)) ?_
     rintro bk w aa
     rcases aa with ⟨ab, -, -⟩ | ⟨bl, ab, aa⟩
     ·
      cases ab.symm.trans aM
     obtain rfl := Option.some.inj (aM.symm.trans ab)
     obtain ⟨az, bA, bB, bC, bD, rfl, ac, bE, hB⟩ := aa
     replace hm := Mem.giveA hm ac hB; clear hB
     refine tAn rfl (tO (tf rfl rfl (fun a hf => e_alloc hm zeroValue44 rfl rfl) ?_))
     rintro _ w ⟨bF, rfl, hm⟩
     refine tAk (hm.thaw ac) [5, 6] rfl fun hS => tO (tf0 rfl rfl (fun a hf => e_storeN 0 hf hm rfl sizeOf44 rfl rfl rfl (one_cons rfl (one_cons rfl (one_cons (rep_one (hm.ow_rep 4 rfl)) one_nil))) rfl rfl) ?_)
     rintro _ w hm
     exact tAn rfl (tP rfl (fun w => yA rfl) (tE (gZ fun a hf => ⟨bD, bF, ao, az, bA, bB, bC, ac, bE, hf.sb rfl, hm.pk [5, 0, 4, 1, 2, 3] rfl rfl⟩)))
    refine tO (tf rfl rfl (fun a hf => e_alloc hm zeroValue44 rfl rfl) ?_)
    rintro _ w ⟨bG, rfl, hm⟩
    refine tAk hm [2, 3] rfl fun hS => tO (tf rfl rfl (fun a hf => e_call hf rfl call104 rfl (impl_domsOf_ok _ _ hm.lez c_ v1 h1  _ aZ)) ?_)
    rintro bm w ae
    rcases ae with ⟨af, -, -⟩ | ⟨bo, af, ae⟩
    ·
     cases af.symm.trans aM
    obtain rfl := Option.some.inj (aM.symm.trans af)
    obtain ⟨bH, bJ, bK, bL, bM, rfl, ap, bN, hB⟩ := ae
    replace hm := Mem.giveA hm ap hB; clear hB
    refine tAn rfl (tO (tf0 rfl rfl (fun a hf => e_storeN 3 hf hm rfl sizeOf44 rfl rfl rfl (one_cons rfl (one_cons rfl (one_cons (rep_one (hm.ow_rep 4 rfl)) one_nil))) rfl rfl) ?_))
    rintro _ w hm
    exact tAn rfl (tP rfl (fun w => yA rfl) (tE (gZ fun a hf => ⟨bM, bG, ao, bH, bJ, bK, bL, ap, bN, hf.sb rfl, hm.pk [5, 3, 4, 0, 1, 2] rfl rfl⟩)))
   refine tO (tf rfl rfl (fun a hf => e_alloc hm zeroValue44 rfl rfl) ?_)
   rintro _ w ⟨bO, rfl, hm⟩
   refine tAk hm [1, 2] rfl fun hS => tO (tf rfl rfl (fun a hf => e_call hf rfl call73 rfl (impl_cloneCode_ok _ c_ v1 (hm.now h1) _ an)) ?_)
   rintro bp w ⟨bP, rfl, hB⟩
   replace hm := hm.give hB; clear hB
   refine tAk hm [2, 3] rfl fun hS => tO (tf rfl rfl (fun a hf => e_call hf rfl call104 rfl (impl_domsOf_ok _ _ hm.lez c_ v1 h1  _ aZ)) ?_)
   rintro bq w ag
   rcases ag with ⟨ah, -, -⟩ | ⟨br, ah, ag⟩
   ·
    cases ah.symm.trans aM
   obtain rfl := Option.some.inj (aM.symm.trans ah)
   obtain ⟨bQ, bR, bS, bT, bU, rfl, aq, bV, hB⟩ := ag
   replace hm := Mem.giveA hm aq hB; clear hB
   refine tAn rfl (tO (tf0 rfl rfl (fun a hf => e_storeN 4 hf hm rfl sizeOf44 rfl rfl rfl (one_cons rfl (one_cons rfl (one_cons (rep_one (hm.ow_rep 3 rfl)) one_nil))) rfl rfl) ?_))
   rintro _ w hm
   exact tAn rfl (tP rfl (fun w => yA rfl) (tE (gZ fun a hf => ⟨bU, bO, bP, bQ, bR, bS, bT, aq, bV, hf.sb rfl, hm.pk [5, 4, 3, 0, 1, 2] rfl rfl⟩)))
  repeat clear hm
  rintro aA a w ⟨aL, aB, aW, aD, aK, aX, aY, bW, ar, hf, hm⟩
  refine gv hf (gS (gS (gR (gA rfl (gE ?_)))))
  obtain ⟨bX, bY, rfl, bs⟩ := ro_slice (hm.ow_rep 2 rfl)
  obtain ⟨aF, aG, rfl, bt⟩ := ro_slice (hm.ow_rep 4 rfl)
  obtain ⟨aH, aI, rfl, bu⟩ := ro_slice (hm.ow_rep 5 rfl)
  refine gJg (fun aQ a w => ∃ (aS : Value), St 28 [(2, (pV aC)), (3, (pV aB))] w0 aL [blk aC [(nV 0), (nV 0), (.slice none 0 0)] 44, blk aB [(nV aQ.1), (nV aQ.2.1), aS] 44, ow [aS] aQ.2.2] a w) (fun aQ => ?_) ?_
  ·
   refine gBk (gMg (fun aN a w => ∃ (aT : Value), St 28 [(2, (pV aC)), (3, (pV aB)), (4, (pV aD)), (5, (.bool (aN.2.2.2)))] w0 aL [blk aC [(nV 0), (nV 0), (.slice none 0 0)] 44, blk aB [(nV aN.1), (nV aN.2.1), aT] 44, ow [aT] aN.2.2.1, blk aD [(nV aA.2.2.2.1), (nV aA.2.2.2.2.1), aK, (.slice aF aA.2.2.2.2.2.2.1.length aG), (.slice aH aA.2.2.2.2.2.2.2.length aI)] 166, ow [(.slice aF aA.2.2.2.2.2.2.1.length aG)] aA.2.2.2.2.2.2.1, ow [(.slice aH aA.2.2.2.2.2.2.2.length aI)] aA.2.2.2.2.2.2.2] a w) (fun a hf => ⟨(.slice bX aA.2.2.1.length bY), hf.sb rfl, hm.pk [0, 1, 2, 3, 4, 5] rfl rfl⟩) ?_)
   repeat clear hm
   rintro bv bZ aN a w ⟨aT, hf, hm⟩ bw b7
   refine gv hf (gS (gS (gR (gM rfl (gE (gs 12 rfl (fun b8 => ?_) fun b8 => ?_))))))
   ·
    refine gct rfl (gSk (gBk (gS (gR (gA rfl (gE (gS (gR (gM rfl (gCg rfl call105 (pimpl_doms__heads_ok _ (⟨(⟨aA.2.2.2.1, aA.2.2.2.2.1, aA.2.2.2.2.2.1⟩ : Code_), aA.2.2.2.2.2.2.1, aA.2.2.2.2.2.2.2⟩ : doms) aD aK (hm.now ar) (.slice aF aA.2.2.2.2.2.2.1.length aG) (hm.ow_rep 4 rfl) (.slice aH aA.2.2.2.2.2.2.2.length aI) (hm.ow_rep 5 rfl) (hm.blk_cells 3 rfl).1) ?_))))))))))
    rintro aJ bx bz w ⟨_, rfl, hB⟩
    replace hm := hm.give hB; clear hB
    obtain ⟨au, aR, rfl, cA⟩ := ro_slice (hm.ow_rep 0 rfl)
    refine gY (yV st_57 rfl) (gM rfl (gE ?_))
    obtain ⟨b9, ba, rfl, cB⟩ := ro_slice (hm.ow_rep 3 rfl)
    refine gBk (gNg (fun ai aE a w => ∃ (aO : Value), St 28 [(2, (pV aC)), (3, (pV aB)), (4, (pV aD)), (5, (.bool (aE.2.2.2))), (14, (.slice au aJ.length aR)), (15, (nV ((aJ.length : Int)))), (16, (nV ai))] w0 aL [blk aC [(nV 0), (nV 0), (.slice none 0 0)] 44, blk aB [(nV aE.1), (nV aE.2.1), aO] 44, ow [aO] aE.2.2.1, blk aD [(nV aA.2.2.2.1), (nV aA.2.2.2.2.1), aK, (.slice aF aA.2.2.2.2.2.2.1.length aG), (.slice aH aA.2.2.2.2.2.2.2.length aI)] 166, ow [(.slice aF aA.2.2.2.2.2.2.1.length aG)] aA.2.2.2.2.2.2.1, ow [(.slice aH aA.2.2.2.2.2.2.2.length aI)] aA.2.2.2.2.2.2.2, ow [(.slice au aJ.length aR)] aJ] a w) (fun a hf => ⟨(.slice b9 aN.2.2.1.length ba), hf.sb rfl, hm.pk [1, 2, 3, 4, 5, 6, 0] rfl rfl⟩) ?_ ?_)
    ·
     repeat clear hm
     rintro _ _ ai aE a w ⟨aO, hf, hm⟩ cC cD cE _
     refine gv hf (gS (gR (gB rfl (gE (gS (go _ 17 rfl (decide_eq_true (by omega)) (gct rfl (gSk (gS (gBk (gS (gR (gg fun aw bb aj => ?_)))))))))))))
     obtain ⟨ak, am, cF, he⟩ := idx_form (hm.ow_rep 6 rfl) aj
     obtain ⟨rfl, _, rfl⟩ := sl3 he
     refine gI st_57 bb (idx_lt aj) rfl (gY (yl isAgg3 ((flat_cells (cs := [(nV aw)]) (hm.ow_rep 6 rfl) aj rfl).cell (j := 0) rfl) rfl) (gA rfl (gE (gJg (fun aP a w => ∃ (aV : Value), St 28 [(2, (pV aC)), (3, (pV aB)), (4, (pV aD)), (5, (.bool (aP.2.2.2))), (14, (sV ak am aJ.length aR)), (15, (nV ((aJ.length : Int)))), (16, (nV ai))] w0 aL [blk aC [(nV 0), (nV 0), (.slice none 0 0)] 44, blk aB [(nV aP.1), (nV aP.2.1), aV] 44, ow [aV] aP.2.2.1, blk aD [(nV aA.2.2.2.1), (nV aA.2.2.2.2.1), aK, (.slice aF aA.2.2.2.2.2.2.1.length aG), (.slice aH aA.2.2.2.2.2.2.2.length aI)] 166, ow [(.slice aF aA.2.2.2.2.2.2.1.length aG)] aA.2.2.2.2.2.2.1, ow [(.slice aH aA.2.2.2.2.2.2.2.length aI)] aA.2.2.2.2.2.2.2, ow [(sV ak am aJ.length aR)] aJ] a w) (fun aP => ?_) ?_))))
     ·
      refine gR (gM rfl (gM rfl ?_))
      obtain ⟨bc, hle, hm1, hsub, bd⟩ := hm.take2 (L1 := [blk aB [(nV aE.1), (nV aE.2.1), aO] 44, ow [aO] aE.2.2.1]) (L2 := [blk aC [(nV 0), (nV 0), (.slice none 0 0)] 44, blk aD [(nV aA.2.2.2.1), (nV aA.2.2.2.2.1), aK, (.slice aF aA.2.2.2.2.2.2.1.length aG), (.slice aH aA.2.2.2.2.2.2.2.length aI)] 166, ow [(.slice aF aA.2.2.2.2.2.2.1.length aG)] aA.2.2.2.2.2.2.1, ow [(.slice aH aA.2.2.2.2.2.2.2.length aI)] aA.2.2.2.2.2.2.2, ow [(sV ak am aJ.length aR)] aJ]) [1, 2] [0, 3, 4, 5, 6] (by decide) rfl rfl
      refine gCg rfl call106 (impl_hoistLoop_ok _ bc (⟨aE.1, aE.2.1, aE.2.2.1⟩ : Code_) aB aO (⟨(⟨aA.2.2.2.1, aA.2.2.2.2.1, aA.2.2.2.2.2.1⟩ : Code_), aA.2.2.2.2.2.2.1, aA.2.2.2.2.2.2.2⟩ : doms) aD aK (GT.mono hle ar) (.slice aF aA.2.2.2.2.2.2.1.length aG) (fz_ow (hsub 2 _ rfl)) (.slice aH aA.2.2.2.2.2.2.2.length aI) (fz_ow (hsub 3 _ rfl)) (fz_blk (hsub 1 _ rfl)) aw hm1 ) ?_
      rintro cG cH cI w ⟨ax, rfl, hB⟩
      replace hm := bd _ _ hB; clear hB
      refine gM rfl (gs 23 rfl (fun be => ?_) fun be => ?_)
      ·
       exact gO rfl (gKt rfl (gA rfl (gE (gZ fun a hf => ⟨ax, hf.sb rfl, hm.pk [2, 0, 1, 3, 4, 5, 6] rfl rfl⟩))))
      exact gM rfl (gKf rfl (gA rfl (gE (gZ fun a hf => ⟨ax, hf.sb rfl, hm.pk [2, 0, 1, 3, 4, 5, 6] rfl rfl⟩))))
     repeat clear hm
     rintro aP a w ⟨aV, hf, hm⟩
     exact gv hf (gR (gP (by omega) (by omega) rfl (gM rfl (gE (gZe fun a hf => ⟨aV, hf.sb rfl, hm.pk [0, 1, 2, 3, 4, 5, 6] rfl rfl⟩)))))
    repeat clear hm
    rintro cJ cK a w ⟨bf, hf, hm⟩ cL cM
    exact gv hf (gS (gR (gB rfl (gE (gS (go _ 17 rfl (decide_eq_false (by omega)) (gcf rfl (gXt (gHh (gZe fun a hf => ⟨bf, hf.sb rfl, hm.pk [0, 1, 2, 3, 4, 5] rfl rfl⟩))))))))))
   exact gcf rfl (gXt (gHh (gLp b7 bZ (gZ fun a hf => ⟨aT, hf.sb rfl, hm.pk [0, 1, 2] rfl rfl⟩))))
  repeat clear hm
  rintro aQ a w ⟨aS, hf, hm⟩
  refine gv hf (gS (gR (gY (yn (hm.blk_at 1 rfl) isAgg44 sizeOf44 rfl) (gSN hm 0 sizeOf44 (one_cons rfl (one_cons rfl (one_cons (rep_one (hm.ow_rep 2 rfl)) one_nil))) rfl fun w hm => gE (gRt ?_)))))
  replace hm := hm.thaw bW
  exact grc 0 results58 hm rfl isAgg44 sizeOf44 ⟨aS, rfl, hm.pk [2] rfl rfl⟩
theorem impl_onlyValid_ok (w0 : World) (hz : Heap) (u : Unit_) (v1 : Value) (ok : Bool) (hm0 : Mem w0 hz w0 [ow [v1] u.codes]) :
    ConM Tryz.prog 34 [(.agg #[v1]), (.bool (ok))] w0 (impl_onlyValid u ok) fun r v w' => ∃ (x1 : Value), v = (.tuple #[(.agg #[x1]), (.bool (r.2))]) ∧ Mem w0 hz w' [ow [x1] r.1.codes] := by
  unfold impl_onlyValid
  refine gcon func34 rfl fun r => ?_
  have hm := hm0
  refine gS (gR (gBx hm rfl fun aB w hm => gAl hm zeroValue28 rfl fun aC w hm => gA rfl (gE (gS (gS (gJ hm (fun aA => [(2, (pV aB)), (4, (pV aC)), (12, (.bool (aA)))]) (fun aA => [blk aB [v1] 28, ow [v1] u.codes, blk aC [(.slice none 0 0)] 28]) (fun aA => ?_) ?_))))))
  ·
   refine gR (gM rfl (gN rfl (gM rfl (gsn 8 rfl (fun aD => ?_) fun aD => ?_))))
   ·
    exact gO rfl (gO rfl (gO rfl (gKt rfl (gE (gz hm [1, 2, 0] rfl)))))
   exact gY (yn (hm.blk_at 1 rfl) isAgg28 sizeOf28 rfl) (gC hm rfl call48 (impl_UnitValid_ok _ u v1 (hm.ow_rep 2 rfl)) fun aF aG w hm => gN rfl (gKf rfl (gE (gz hm [1, 2, 0] rfl))))
  repeat clear hm
  intro aA w hm
  refine gs 12 rfl (fun aE => ?_) fun aE => ?_
  ·
   refine gct rfl (gS (gR (gY (yG rfl (y_build (vs := []) (cs := #[(.slice none 0 0)]) rfl rfl (by kernel_rfl))) (gSN hm 2 sizeOf28 (one_cons rfl one_nil) rfl fun w hm => gA rfl (gE (gRt ?_))))))
   replace hm := hm.nilow (α := Code_)
   exact grct 3 results34 hm rfl isAgg28 sizeOf28 ⟨(.slice none 0 0), rfl, hm.pk [0] rfl rfl⟩
  exact gcf rfl (gSk (gS (gR (gY (yn (hm.blk_at 0 rfl) isAgg28 sizeOf28 rfl) (gSN hm 2 sizeOf28 (one_cons (rep_one (hm.ow_rep 1 rfl)) one_nil) rfl fun w hm => gA rfl (gE (gRt (grct 2 results34 hm rfl isAgg28 sizeOf28 ⟨v1, rfl, hm.pk [1] rfl rfl⟩))))))))
theorem impl_HoistUnit_ok (w0 : World) (u : Unit_) (v1 : Value) (h1 : GT.rep (hp w0) [v1] u.codes) :
    ConM Tryz.prog 23 [(.agg #[v1])] w0 (impl_HoistUnit u) fun r v w' => ∃ (x1 : Value), v = (.tuple #[(.agg #[x1]), (.bool (r.2))]) ∧ Mem w0 (hp w0) w' [ow [x1] r.1.codes] := by
  unfold impl_HoistUnit
  refine gcon func23 rfl fun r => ?_
  have hm := Mem.start w0
  refine gS (gR (gBx hm rfl fun aD w hm => gAl hm zeroValue28 rfl fun aE w hm => gA rfl (gE (gS (gS (gR (gY (yn (hm.blk_at 1 rfl) isAgg28 sizeOf28 rfl) (gC hm rfl call57 (impl_IsSingle_ok _ u v1 (hm.now h1)) fun aL aM w hm => gN rfl (gE (gsn 6 rfl (fun aF => ?_) fun aF => ?_))))))))))
  ·
   refine gct rfl (gS (gR (gY (yG rfl (y_build (vs := []) (cs := #[(.slice none 0 0)]) rfl rfl (by kernel_rfl))) (gSN hm 0 sizeOf28 (one_cons rfl one_nil) rfl fun w hm => gA rfl (gE (gRt ?_))))))
   replace hm := hm.nilow (α := Code_)
   exact grct 1 results23 hm rfl isAgg28 sizeOf28 ⟨(.slice none 0 0), rfl, hm.pk [0] rfl rfl⟩
  refine gcf rfl (gSk (gS (gR (gF fo_28_0 rfl (gL hm 1 isAgg26 rfl (gCg rfl call31 (impl_mapped_impl_Code_impl_Code_ok _ u.codes v1 (hm.now h1) (fun y0 => impl_hoisted y0) (.func (.func 58) #[] #[]) (fun w y0 aG aH r hB hq => ⟨58, [], rfl, call58, impl_hoisted_ok w y0 aG aH  r hq⟩)) ?_))))))
  rintro aA aN aO w ⟨_, rfl, hB⟩
  replace hm := hm.give hB; clear hB
  obtain ⟨aB, aC, rfl, aP⟩ := ro_slice (hm.ow_rep 0 rfl)
  refine gY (yG rfl (y_build (vs := [(0, (.slice aB aA.length aC))]) (cs := #[(.slice aB aA.length aC)]) rfl rfl (by kernel_rfl))) ?_
  obtain ⟨aI, hle, hm1, hsub, aJ⟩ := hm.take2 (L1 := [ow [(.slice aB aA.length aC)] aA]) (L2 := [blk aE [(.slice none 0 0)] 28, blk aD [v1] 28]) [0] [1, 2] (by decide) rfl rfl
  refine gCg rfl call34 (impl_onlyValid_ok _ aI (⟨aA⟩ : Unit_) (.slice aB aA.length aC) true hm1 ) ?_
  rintro aQ aR aS w ⟨aK, rfl, hB⟩
  replace hm := aJ _ _ hB; clear hB
  exact gX rfl (gX rfl (gSN hm 1 sizeOf28 (one_cons (rep_one (hm.ow_rep 0 rfl)) one_nil) rfl fun w hm => gA rfl (gE (gRt (grct 1 results23 hm rfl isAgg28 sizeOf28 ⟨aK, rfl, hm.pk [0] rfl rfl⟩)))))
theorem laws_eqIntS_ok (w0 : World) (a_ : List Int) (v1 : Value) (h1 : GT.rep (hp w0) [v1] a_) (b_ : List Int) (v2 : Value) (h2 : GT.rep (hp w0) [v2] b_) :
    ConM Tryz.prog 255 [v1, v2] w0 (laws_eqIntS a_ b_) fun r v w' => v = (.bool (r)) ∧ Below w0.heap.size w0 w' := by
  unfold laws_eqIntS
  refine gcon func255 rfl fun r => ?_
  have hm := Mem.start w0
  refine gS (gR (gA rfl (gE (gS (gS (gR (gM rfl ?_)))))))
  obtain ⟨aE, aF, rfl, aQ⟩ := ro_slice h1
  refine gY (yV st_57 rfl) (gM rfl ?_)
  obtain ⟨aG, aH, rfl, aR⟩ := ro_slice h2
  refine gY (yV st_57 rfl) (gB rfl (gE (gsd 10 rfl (fun aI => ?_) fun aI => ?_)))
  ·
   exact gct rfl (gS (gR (gA rfl (gE (gRt (gr1 results255 rfl ⟨rfl, hm.below⟩))))))
  refine gcf rfl (gSk (gS (gS (gR (gA rfl (gE (gBk (gNf hm (fun aA aD => [(0, (.slice aE a_.length aF)), (1, (.slice aG b_.length aH)), (5, (nV aA))]) (fun aA aD => []) [] rfl ?_ ?_))))))))
  ·
   repeat clear hm
   intro aS aJ aA aD w hm aT aV aW aK
   refine gS (gS (gR (gM rfl (gM rfl (gY (yV st_57 rfl) (gB rfl (gE (go _ 14 rfl (decide_eq_true (by omega)) (gct rfl (gSk (gS (gBk (gS (gW (.p 0 (.p 1 (.p 2 (.p 4 (.p 5 (.p 6 (.q 3 (.e 7 (.p 8 .fin) .nil)))))))) [7] [0, 1, 2, 4, 5, 6, 8] hm [] [] rfl mxo (by kernel_rfl) (fun _ _ _ h => h.2) fun w hm hS => tP rfl (fun w => yM rfl) (tP rfl (fun w => yM rfl) (gg fun aL aM aB => ?_))))))))))))))))
   obtain ⟨aX, aY, aZ, he⟩ := idx_form h1 aB
   obtain ⟨rfl, _, rfl⟩ := sl3 he
   refine tP rfl (fun w => yI st_57 aM (idx_lt aB) rfl) (tP rfl (fun w => yM rfl) (tP rfl (fun w => yM rfl) (gg fun aN aO aC => ?_)))
   obtain ⟨aa, ab, ac, he⟩ := idx_form h2 aC
   obtain ⟨rfl, _, rfl⟩ := sl3 he
   refine tP rfl (fun w => yI st_57 aO (idx_lt aC) rfl) (tQ rfl hS (fun w hm => yl isAgg3 ((flat_cells (cs := [(nV aL)]) (hm.now h1) aB rfl).cell (j := 0) rfl) rfl) (tO (tY rfl (yl isAgg3 ((flat_cells (cs := [(nV aN)]) (hm.now h2) aC rfl).cell (j := 0) rfl) rfl) (tAs hS (tP rfl (fun w => yB rfl) (tE (gsd 25 rfl (fun aP => ?_) fun aP => ?_)))))))
   ·
    exact gct rfl (gS (gR (gA rfl (gE (gRt (gLr aK aJ (gr1 results255 rfl ⟨rfl, hm.below⟩)))))))
   exact gcf rfl (gSk (gR (gM rfl (gP (by omega) (by omega) rfl (gA rfl (gE (gze hm [] rfl)))))))
  repeat clear hm
  intro ae af w hm ag ah
  exact gS (gS (gR (gM rfl (gM rfl (gY (yV st_57 rfl) (gB rfl (gE (go _ 14 rfl (decide_eq_false (by omega)) (gcf rfl (gXt (gHh (gS (gR (gA rfl (gE (gRt (gr1 results255 rfl ⟨rfl, hm.below⟩)))))))))))))))))
theorem laws_eqPhi_ok (w0 : World) (a_ : Phi_) (v1 : Value) (h1 : GT.rep (hp w0) [v1] a_.args) (b_ : Phi_) (v2 : Value) (h2 : GT.rep (hp w0) [v2] b_.args) :
    ConM Tryz.prog 287 [(.agg #[(nV a_.to), v1]), (.agg #[(nV b_.to), v2])] w0 (laws_eqPhi a_ b_) fun r v w' => v = (.bool (r)) ∧ Below w0.heap.size w0 w' := by
  unfold laws_eqPhi
  refine gcon func287 rfl fun r => ?_
  have hm := Mem.start w0
  refine gS (gR (gBx hm rfl fun aC w hm => gBx hm rfl fun aD w hm => gA rfl (gE (gS (gS (gR (gF fo_87_0 rfl (gL hm 1 isAgg3 rfl (gF fo_87_0 rfl (gL hm 0 isAgg3 rfl (gB rfl (gE (gsd 9 rfl (fun aA => ?_) fun aA => ?_)))))))))))))
  ·
   exact gct rfl (gS (gR (gA rfl (gE (gRt (gr1 results287 rfl ⟨rfl, hm.below⟩))))))
  refine gcf rfl (gSk (gS (gS (gR (gF fo_87_1 rfl (gL hm 1 isAgg57 rfl (gF fo_87_1 rfl (gL hm 0 isAgg57 rfl (gC hm rfl call255 (laws_eqIntS_ok _ a_.args v1 (hm.now h1) b_.args v2 (hm.now h2)) fun aE aF w hm => gN rfl (gE (gsn 15 rfl (fun aB => ?_) fun aB => ?_)))))))))))
  ·
   exact gct rfl (gS (gR (gA rfl (gE (gRt (gr1 results287 rfl ⟨rfl, hm.below⟩))))))
  exact gcf rfl (gSk (gS (gR (gA rfl (gE (gRt (gr1 results287 rfl ⟨rfl, hm.below⟩)))))))
theorem laws_eqPhiS_ok (w0 : World) (a_ : List Phi_) (v1 : Value) (h1 : GT.rep (hp w0) [v1] a_) (b_ : List Phi_) (v2 : Value) (h2 : GT.rep (hp w0) [v2] b_) :
    ConM Tryz.prog 253 [v1, v2] w0 (laws_eqPhiS a_ b_) fun r v w' => v = (.bool (r)) ∧ Below w0.heap.size w0 w' := by
  unfold laws_eqPhiS
  refine gcon func253 rfl fun r => ?_
  have hm := Mem.start w0
  refine gS (gR (gA rfl (gE (gS (gS (gR (gM rfl ?_)))))))
  obtain ⟨aE, aF, rfl, aY⟩ := ro_slice h1
  refine gY (yV st_55 rfl) (gM rfl ?_)
  obtain ⟨aG, aH, rfl, aZ⟩ := ro_slice h2
  refine gY (yV st_55 rfl) (gB rfl (gE (gsd 10 rfl (fun aI => ?_) fun aI => ?_)))
  ·
   exact gct rfl (gS (gR (gA rfl (gE (gRt (gr1 results253 rfl ⟨rfl, hm.below⟩))))))
  refine gcf rfl (gSk (gS (gS (gR (gA rfl (gE (gBk (gNf hm (fun aA aD => [(0, (.slice aE a_.length aF)), (1, (.slice aG b_.length aH)), (5, (nV aA))]) (fun aA aD => []) [] rfl ?_ ?_))))))))
  ·
   repeat clear hm
   intro aa aJ aA aD w hm ab ac ae aK
   refine gS (gS (gR (gM rfl (gM rfl (gY (yV st_55 rfl) (gB rfl (gE (go _ 14 rfl (decide_eq_true (by omega)) (gct rfl (gSk (gS (gBk (gS (gW (.p 0 (.p 1 (.p 2 (.p 4 (.p 5 (.p 6 (.q 3 (.e 7 (.e 8 (.p 9 .fin) .nil) .nil)))))))) [7] [0, 1, 2, 4, 5, 6, 9] hm [] [] rfl mxo (by kernel_rfl) (fun _ _ _ h => h.2) fun w hm hS => tP rfl (fun w => yM rfl) (tP rfl (fun w => yM rfl) (gg fun aL aM aB => ?_))))))))))))))))
   obtain ⟨af, ag, ah, he⟩ := idx_form' h1 aB
   obtain ⟨rfl, _, rfl⟩ := sl3 he
   obtain ⟨aN, aO, aP⟩ := rk_Phi_ h1 aB
   refine tP rfl (fun w => yI st_55 aM (idx_lt aB) rfl) (tP rfl (fun w => yM rfl) (tP rfl (fun w => yM rfl) (gg fun aQ aR aC => ?_)))
   obtain ⟨ai, aj, ak, he⟩ := idx_form' h2 aC
   obtain ⟨rfl, _, rfl⟩ := sl3 he
   obtain ⟨aS, aT, aV⟩ := rk_Phi_ h2 aC
   refine tP rfl (fun w => yI st_55 aR (idx_lt aC) rfl) (tQ rfl hS (fun w hm => yn (aO.mono hm.lez) isAgg87 sizeOf87 rfl) (tO (tY rfl (yn (aT.mono hm.lez) isAgg87 sizeOf87 rfl) (tAs hS (tO (gb fun am aW => tf rfl rfl (fun a hf => e_call hf rfl call287 rfl (laws_eqPhi_ok _ aL aN (hm.now aP) aQ aS (hm.now aV) _ aW)) ?_))))))
   rintro an w ⟨rfl, hB⟩
   replace hm := hm.below' hB; clear hB
   refine tAn rfl (tP rfl (fun w => yN rfl) (tE (gsn 26 rfl (fun aX => ?_) fun aX => ?_)))
   ·
    exact gct rfl (gS (gR (gA rfl (gE (gRt (gLr aK aJ (gr1 results253 rfl ⟨rfl, hm.below⟩)))))))
   exact gcf rfl (gSk (gR (gM rfl (gP (by omega) (by omega) rfl (gA rfl (gE (gze hm [] rfl)))))))
  repeat clear hm
  intro ao ap w hm aq ar
  exact gS (gS (gR (gM rfl (gM rfl (gY (yV st_55 rfl) (gB rfl (gE (go _ 14 rfl (decide_eq_false (by omega)) (gcf rfl (gXt (gHh (gS (gR (gA rfl (gE (gRt (gr1 results253 rfl ⟨rfl, hm.below⟩)))))))))))))))))
theorem laws_eqIns_ok (w0 : World) (a_ : Ins_) (v1 : Value) (h1 : GT.rep (hp w0) [v1] a_.args) (b_ : Ins_) (v2 : Value) (h2 : GT.rep (hp w0) [v2] b_.args) :
    ConM Tryz.prog 288 [(.agg #[(nV a_.op), (nV a_.to), v1, (nV a_.n_)]), (.agg #[(nV b_.op), (nV b_.to), v2, (nV b_.n_)])] w0 (laws_eqIns a_ b_) fun r v w' => v = (.bool (r)) ∧ Below w0.heap.size w0 w' := by
  unfold laws_eqIns
  refine gcon func288 rfl fun r => ?_
  have hm := Mem.start w0
  refine gS (gR (gBx hm rfl fun aE w hm => gBx hm rfl fun aF w hm => gA rfl (gE (gS (gS (gR (gF fo_61_0 rfl (gL hm 1 isAgg3 rfl (gF fo_61_0 rfl (gL hm 0 isAgg3 rfl (gB rfl (gE (gsd 9 rfl (fun aA => ?_) fun aA => ?_)))))))))))))
  ·
   exact gct rfl (gS (gR (gA rfl (gE (gRt (gr1 results288 rfl ⟨rfl, hm.below⟩))))))
  refine gcf rfl (gSk (gS (gS (gR (gF fo_61_1 rfl (gL hm 1 isAgg3 rfl (gF fo_61_1 rfl (gL hm 0 isAgg3 rfl (gB rfl (gE (gsd 14 rfl (fun aB => ?_) fun aB => ?_)))))))))))
  ·
   exact gct rfl (gS (gR (gA rfl (gE (gRt (gr1 results288 rfl ⟨rfl, hm.below⟩))))))
  refine gcf rfl (gSk (gS (gS (gR (gF fo_61_2 rfl (gL hm 1 isAgg57 rfl (gF fo_61_2 rfl (gL hm 0 isAgg57 rfl (gC hm rfl call255 (laws_eqIntS_ok _ a_.args v1 (hm.now h1) b_.args v2 (hm.now h2)) fun aG aH w hm => gN rfl (gE (gsn 20 rfl (fun aC => ?_) fun aC => ?_)))))))))))
  ·
   exact gct rfl (gS (gR (gA rfl (gE (gRt (gr1 results288 rfl ⟨rfl, hm.below⟩))))))
  refine gcf rfl (gSk (gS (gS (gR (gF fo_61_3 rfl (gL hm 1 isAgg3 rfl (gF fo_61_3 rfl (gL hm 0 isAgg3 rfl (gB rfl (gE (gsd 25 rfl (fun aD => ?_) fun aD => ?_)))))))))))
  ·
   exact gct rfl (gS (gR (gA rfl (gE (gRt (gr1 results288 rfl ⟨rfl, hm.below⟩))))))
  exact gcf rfl (gSk (gS (gR (gA rfl (gE (gRt (gr1 results288 rfl ⟨rfl, hm.below⟩)))))))
theorem laws_eqInsS_ok (w0 : World) (a_ : List Ins_) (v1 : Value) (h1 : GT.rep (hp w0) [v1] a_) (b_ : List Ins_) (v2 : Value) (h2 : GT.rep (hp w0) [v2] b_) :
    ConM Tryz.prog 254 [v1, v2] w0 (laws_eqInsS a_ b_) fun r v w' => v = (.bool (r)) ∧ Below w0.heap.size w0 w' := by
  unfold laws_eqInsS
  refine gcon func254 rfl fun r => ?_
  have hm := Mem.start w0
  refine gS (gR (gA rfl (gE (gS (gS (gR (gM rfl ?_)))))))
  obtain ⟨aE, aF, rfl, aY⟩ := ro_slice h1
  refine gY (yV st_56 rfl) (gM rfl ?_)
  obtain ⟨aG, aH, rfl, aZ⟩ := ro_slice h2
  refine gY (yV st_56 rfl) (gB rfl (gE (gsd 10 rfl (fun aI => ?_) fun aI => ?_)))
  ·
   exact gct rfl (gS (gR (gA rfl (gE (gRt (gr1 results254 rfl ⟨rfl, hm.below⟩))))))
  refine gcf rfl (gSk (gS (gS (gR (gA rfl (gE (gBk (gNf hm (fun aA aD => [(0, (.slice aE a_.length aF)), (1, (.slice aG b_.length aH)), (5, (nV aA))]) (fun aA aD => []) [] rfl ?_ ?_))))))))
  ·
   repeat clear hm
   intro aa aJ aA aD w hm ab ac ae aK
   refine gS (gS (gR (gM rfl (gM rfl (gY (yV st_56 rfl) (gB rfl (gE (go _ 14 rfl (decide_eq_true (by omega)) (gct rfl (gSk (gS (gBk (gS (gW (.p 0 (.p 1 (.p 2 (.p 4 (.p 5 (.p 6 (.q 3 (.e 7 (.e 8 (.p 9 .fin) .nil) .nil)))))))) [7] [0, 1, 2, 4, 5, 6, 9] hm [] [] rfl mxo (by kernel_rfl) (fun _ _ _ h => h.2) fun w hm hS => tP rfl (fun w => yM rfl) (tP rfl (fun w => yM rfl) (gg fun aL aM aB => ?_))))))))))))))))
   obtain ⟨af, ag, ah, he⟩ := idx_form' h1 aB
   obtain ⟨rfl, _, rfl⟩ := sl3 he
   obtain ⟨aN, aO, aP⟩ := rk_Ins_ h1 aB
   refine tP rfl (fun w => yI st_56 aM (idx_lt aB) rfl) (tP rfl (fun w => yM rfl) (tP rfl (fun w => yM rfl) (gg fun aQ aR aC => ?_)))
   obtain ⟨ai, aj, ak, he⟩ := idx_form' h2 aC
   obtain ⟨rfl, _, rfl⟩ := sl3 he
   obtain ⟨aS, aT, aV⟩ := rk_Ins_ h2 aC
   refine tP rfl (fun w => yI st_56 aR (idx_lt aC) rfl) (tQ rfl hS (fun w hm => yn (aO.mono hm.lez) isAgg61 sizeOf61 rfl) (tO (tY rfl (yn (aT.mono hm.lez) isAgg61 sizeOf61 rfl) (tAs hS (tO (gb fun am aW => tf rfl rfl (fun a hf => e_call hf rfl call288 rfl (laws_eqIns_ok _ aL aN (hm.now aP) aQ aS (hm.now aV) _ aW)) ?_))))))
   rintro an w ⟨rfl, hB⟩
   replace hm := hm.below' hB; clear hB
   refine tAn rfl (tP rfl (fun w => yN rfl) (tE (gsn 26 rfl (fun aX => ?_) fun aX => ?_)))
   ·
    exact gct rfl (gS (gR (gA rfl (gE (gRt (gLr aK aJ (gr1 results254 rfl ⟨rfl, hm.below⟩)))))))
   exact gcf rfl (gSk (gR (gM rfl (gP (by omega) (by omega) rfl (gA rfl (gE (gze hm [] rfl)))))))
  repeat clear hm
  intro ao ap w hm aq ar
  exact gS (gS (gR (gM rfl (gM rfl (gY (yV st_56 rfl) (gB rfl (gE (go _ 14 rfl (decide_eq_false (by omega)) (gcf rfl (gXt (gHh (gS (gR (gA rfl (gE (gRt (gr1 results254 rfl ⟨rfl, hm.below⟩)))))))))))))))))
theorem laws_eqBlock_ok (w0 : World) (a_ : Block_) (v1 : Value) (h1 : GT.rep (hp w0) [v1] a_.phis) (v2 : Value) (h2 : GT.rep (hp w0) [v2] a_.ins) (v3 : Value) (h3 : GT.rep (hp w0) [v3] a_.next_) (b_ : Block_) (v4 : Value) (h4 : GT.rep (hp w0) [v4] b_.phis) (v5 : Value) (h5 : GT.rep (hp w0) [v5] b_.ins) (v6 : Value) (h6 : GT.rep (hp w0) [v6] b_.next_) :
    ConM Tryz.prog 200 [(.agg #[v1, v2, (nV a_.jump), (nV a_.on), v3]), (.agg #[v4, v5, (nV b_.jump), (nV b_.on), v6])] w0 (laws_eqBlock a_ b_) fun r v w' => v = (.bool (r)) ∧ Below w0.heap.size w0 w' := by
  unfold laws_eqBlock
  refine gcon func200 rfl fun r => ?_
  have hm := Mem.start w0
  refine gS (gR (gBx hm rfl fun aF w hm => gBx hm rfl fun aG w hm => gA rfl (gE (gS (gS (gR (gF fo_59_0 rfl (gL hm 1 isAgg55 rfl (gF fo_59_0 rfl (gL hm 0 isAgg55 rfl (gC hm rfl call253 (laws_eqPhiS_ok _ a_.phis v1 (hm.now h1) b_.phis v4 (hm.now h4)) fun aH aI w hm => gN rfl (gE (gsn 10 rfl (fun aA => ?_) fun aA => ?_)))))))))))))
  ·
   exact gct rfl (gS (gR (gA rfl (gE (gRt (gr1 results200 rfl ⟨rfl, hm.below⟩))))))
  refine gcf rfl (gSk (gS (gS (gR (gF fo_59_1 rfl (gL hm 1 isAgg56 rfl (gF fo_59_1 rfl (gL hm 0 isAgg56 rfl (gC hm rfl call254 (laws_eqInsS_ok _ a_.ins v2 (hm.now h2) b_.ins v5 (hm.now h5)) fun aJ aK w hm => gN rfl (gE (gsn 16 rfl (fun aB => ?_) fun aB => ?_)))))))))))
  ·
   exact gct rfl (gS (gR (gA rfl (gE (gRt (gr1 results200 rfl ⟨rfl, hm.below⟩))))))
  refine gcf rfl (gSk (gS (gS (gR (gF fo_59_2 rfl (gL hm 1 isAgg3 rfl (gF fo_59_2 rfl (gL hm 0 isAgg3 rfl (gB rfl (gE (gsd 21 rfl (fun aC => ?_) fun aC => ?_)))))))))))
  ·
   exact gct rfl (gS (gR (gA rfl (gE (gRt (gr1 results200 rfl ⟨rfl, hm.below⟩))))))
  refine gcf rfl (gSk (gS (gS (gR (gF fo_59_3 rfl (gL hm 1 isAgg3 rfl (gF fo_59_3 rfl (gL hm 0 isAgg3 rfl (gB rfl (gE (gsd 26 rfl (fun aD => ?_) fun aD => ?_)))))))))))
  ·
   exact gct rfl (gS (gR (gA rfl (gE (gRt (gr1 results200 rfl ⟨rfl, hm.below⟩))))))
  refine gcf rfl (gSk (gS (gS (gR (gF fo_59_4 rfl (gL hm 1 isAgg57 rfl (gF fo_59_4 rfl (gL hm 0 isAgg57 rfl (gC hm rfl call255 (laws_eqIntS_ok _ a_.next_ v3 (hm.now h3) b_.next_ v6 (hm.now h6)) fun aL aM w hm => gN rfl (gE (gsn 32 rfl (fun aE => ?_) fun aE => ?_)))))))))))
  ·
   exact gct rfl (gS (gR (gA rfl (gE (gRt (gr1 results200 rfl ⟨rfl, hm.below⟩))))))
  exact gcf rfl (gSk (gS (gR (gA rfl (gE (gRt (gr1 results200 rfl ⟨rfl, hm.below⟩)))))))
theorem laws_eqBlockS_ok (w0 : World) (a_ : List Block_) (v1 : Value) (h1 : GT.rep (hp w0) [v1] a_) (b_ : List Block_) (v2 : Value) (h2 : GT.rep (hp w0) [v2] b_) :
    ConM Tryz.prog 129 [v1, v2] w0 (laws_eqBlockS a_ b_) fun r v w' => v = (.bool (r)) ∧ Below w0.heap.size w0 w' := by
  unfold laws_eqBlockS
  refine gcon func129 rfl fun r => ?_
  have hm := Mem.start w0
  refine gS (gR (gA rfl (gE (gS (gS (gR (gM rfl ?_)))))))
  obtain ⟨aE, aF, rfl, ah⟩ := ro_slice h1
  refine gY (yV st_42 rfl) (gM rfl ?_)
  obtain ⟨aG, aH, rfl, ai⟩ := ro_slice h2
  refine gY (yV st_42 rfl) (gB rfl (gE (gsd 10 rfl (fun aI => ?_) fun aI => ?_)))
  ·
   exact gct rfl (gS (gR (gA rfl (gE (gRt (gr1 results129 rfl ⟨rfl, hm.below⟩))))))
  refine gcf rfl (gSk (gS (gS (gR (gA rfl (gE (gBk (gNf hm (fun aA aD => [(0, (.slice aE a_.length aF)), (1, (.slice aG b_.length aH)), (5, (nV aA))]) (fun aA aD => []) [] rfl ?_ ?_))))))))
  ·
   repeat clear hm
   intro aj aJ aA aD w hm ak am an aK
   refine gS (gS (gR (gM rfl (gM rfl (gY (yV st_42 rfl) (gB rfl (gE (go _ 14 rfl (decide_eq_true (by omega)) (gct rfl (gSk (gS (gBk (gS (gW (.p 0 (.p 1 (.p 2 (.p 4 (.p 5 (.p 6 (.q 3 (.e 7 (.e 8 (.p 9 .fin) .nil) .nil)))))))) [7] [0, 1, 2, 4, 5, 6, 9] hm [] [] rfl mxo (by kernel_rfl) (fun _ _ _ h => h.2) fun w hm hS => tP rfl (fun w => yM rfl) (tP rfl (fun w => yM rfl) (gg fun aL aM aB => ?_))))))))))))))))
   obtain ⟨ao, ap, aq, he⟩ := idx_form' h1 aB
   obtain ⟨rfl, _, rfl⟩ := sl3 he
   obtain ⟨aN, aO, aP, aQ, aR, aS, aT⟩ := rk_Block_ h1 aB
   refine tP rfl (fun w => yI st_42 aM (idx_lt aB) rfl) (tP rfl (fun w => yM rfl) (tP rfl (fun w => yM rfl) (gg fun aV aW aC => ?_)))
   obtain ⟨ar, au, aw, he⟩ := idx_form' h2 aC
   obtain ⟨rfl, _, rfl⟩ := sl3 he
   obtain ⟨aX, aY, aZ, aa, ab, ac, ae⟩ := rk_Block_ h2 aC
   refine tP rfl (fun w => yI st_42 aW (idx_lt aC) rfl) (tQ rfl hS (fun w hm => yn (aQ.mono hm.lez) isAgg59 sizeOf59 rfl) (tO (tY rfl (yn (aa.mono hm.lez) isAgg59 sizeOf59 rfl) (tAs hS (tO (gb fun ax af => tf rfl rfl (fun a hf => e_call hf rfl call200 rfl (laws_eqBlock_ok _ aL aN (hm.now aR) aO (hm.now aS) aP (hm.now aT) aV aX (hm.now ab) aY (hm.now ac) aZ (hm.now ae) _ af)) ?_))))))
   rintro ay w ⟨rfl, hB⟩
   replace hm := hm.below' hB; clear hB
   refine tAn rfl (tP rfl (fun w => yN rfl) (tE (gsn 26 rfl (fun ag => ?_) fun ag => ?_)))
   ·
    exact gct rfl (gS (gR (gA rfl (gE (gRt (gLr aK aJ (gr1 results129 rfl ⟨rfl, hm.below⟩)))))))
   exact gcf rfl (gSk (gR (gM rfl (gP (by omega) (by omega) rfl (gA rfl (gE (gze hm [] rfl)))))))
  repeat clear hm
  intro az bA w hm bB bC
  exact gS (gS (gR (gM rfl (gM rfl (gY (yV st_42 rfl) (gB rfl (gE (go _ 14 rfl (decide_eq_false (by omega)) (gcf rfl (gXt (gHh (gS (gR (gA rfl (gE (gRt (gr1 results129 rfl ⟨rfl, hm.below⟩)))))))))))))))))
theorem laws_eqCode_ok (w0 : World) (a_ : Code_) (v1 : Value) (h1 : GT.rep (hp w0) [v1] a_.blocks) (b_ : Code_) (v2 : Value) (h2 : GT.rep (hp w0) [v2] b_.blocks) :
    ConM Tryz.prog 81 [(.agg #[(nV a_.params), (nV a_.regs), v1]), (.agg #[(nV b_.params), (nV b_.regs), v2])] w0 (laws_eqCode a_ b_) fun r v w' => v = (.bool (r)) ∧ Below w0.heap.size w0 w' := by
  unfold laws_eqCode
  refine gcon func81 rfl fun r => ?_
  have hm := Mem.start w0
  refine gS (gR (gBx hm rfl fun aD w hm => gBx hm rfl fun aE w hm => gA rfl (gE (gS (gS (gR (gF fo_44_0 rfl (gL hm 1 isAgg3 rfl (gF fo_44_0 rfl (gL hm 0 isAgg3 rfl (gB rfl (gE (gsd 9 rfl (fun aA => ?_) fun aA => ?_)))))))))))))
  ·
   exact gct rfl (gS (gR (gA rfl (gE (gRt (gr1 results81 rfl ⟨rfl, hm.below⟩))))))
  refine gcf rfl (gSk (gS (gS (gR (gF fo_44_1 rfl (gL hm 1 isAgg3 rfl (gF fo_44_1 rfl (gL hm 0 isAgg3 rfl (gB rfl (gE (gsd 14 rfl (fun aB => ?_) fun aB => ?_)))))))))))
  ·
   exact gct rfl (gS (gR (gA rfl (gE (gRt (gr1 results81 rfl ⟨rfl, hm.below⟩))))))
  refine gcf rfl (gSk (gS (gS (gR (gF fo_44_2 rfl (gL hm 1 isAgg42 rfl (gF fo_44_2 rfl (gL hm 0 isAgg42 rfl (gC hm rfl call129 (laws_eqBlockS_ok _ a_.blocks v1 (hm.now h1) b_.blocks v2 (hm.now h2)) fun aF aG w hm => gN rfl (gE (gsn 20 rfl (fun aC => ?_) fun aC => ?_)))))))))))
  ·
   exact gct rfl (gS (gR (gA rfl (gE (gRt (gr1 results81 rfl ⟨rfl, hm.below⟩))))))
  exact gcf rfl (gSk (gS (gR (gA rfl (gE (gRt (gr1 results81 rfl ⟨rfl, hm.below⟩)))))))
theorem laws_eqCodeS_ok (w0 : World) (a_ : List Code_) (v1 : Value) (h1 : GT.rep (hp w0) [v1] a_) (b_ : List Code_) (v2 : Value) (h2 : GT.rep (hp w0) [v2] b_) :
    ConM Tryz.prog 35 [v1, v2] w0 (laws_eqCodeS a_ b_) fun r v w' => v = (.bool (r)) ∧ Below w0.heap.size w0 w' := by
  unfold laws_eqCodeS
  refine gcon func35 rfl fun r => ?_
  have hm := Mem.start w0
  refine gS (gR (gA rfl (gE (gS (gS (gR (gM rfl ?_)))))))
  obtain ⟨aE, aF, rfl, aY⟩ := ro_slice h1
  refine gY (yV st_26 rfl) (gM rfl ?_)
  obtain ⟨aG, aH, rfl, aZ⟩ := ro_slice h2
  refine gY (yV st_26 rfl) (gB rfl (gE (gsd 10 rfl (fun aI => ?_) fun aI => ?_)))
  ·
   exact gct rfl (gS (gR (gA rfl (gE (gRt (gr1 results35 rfl ⟨rfl, hm.below⟩))))))
  refine gcf rfl (gSk (gS (gS (gR (gA rfl (gE (gBk (gNf hm (fun aA aD => [(0, (.slice aE a_.length aF)), (1, (.slice aG b_.length aH)), (5, (nV aA))]) (fun aA aD => []) [] rfl ?_ ?_))))))))
  ·
   repeat clear hm
   intro aa aJ aA aD w hm ab ac ae aK
   refine gS (gS (gR (gM rfl (gM rfl (gY (yV st_26 rfl) (gB rfl (gE (go _ 14 rfl (decide_eq_true (by omega)) (gct rfl (gSk (gS (gBk (gS (gW (.p 0 (.p 1 (.p 2 (.p 4 (.p 5 (.p 6 (.q 3 (.e 7 (.e 8 (.p 9 .fin) .nil) .nil)))))))) [7] [0, 1, 2, 4, 5, 6, 9] hm [] [] rfl mxo (by kernel_rfl) (fun _ _ _ h => h.2) fun w hm hS => tP rfl (fun w => yM rfl) (tP rfl (fun w => yM rfl) (gg fun aL aM aB => ?_))))))))))))))))
   obtain ⟨af, ag, ah, he⟩ := idx_form' h1 aB
   obtain ⟨rfl, _, rfl⟩ := sl3 he
   obtain ⟨aN, aO, aP⟩ := rk_Code_ h1 aB
   refine tP rfl (fun w => yI st_26 aM (idx_lt aB) rfl) (tP rfl (fun w => yM rfl) (tP rfl (fun w => yM rfl) (gg fun aQ aR aC => ?_)))
   obtain ⟨ai, aj, ak, he⟩ := idx_form' h2 aC
   obtain ⟨rfl, _, rfl⟩ := sl3 he
   obtain ⟨aS, aT, aV⟩ := rk_Code_ h2 aC
   refine tP rfl (fun w => yI st_26 aR (idx_lt aC) rfl) (tQ rfl hS (fun w hm => yn (aO.mono hm.lez) isAgg44 sizeOf44 rfl) (tO (tY rfl (yn (aT.mono hm.lez) isAgg44 sizeOf44 rfl) (tAs hS (tO (gb fun am aW => tf rfl rfl (fun a hf => e_call hf rfl call81 rfl (laws_eqCode_ok _ aL aN (hm.now aP) aQ aS (hm.now aV) _ aW)) ?_))))))
   rintro an w ⟨rfl, hB⟩
   replace hm := hm.below' hB; clear hB
   refine tAn rfl (tP rfl (fun w => yN rfl) (tE (gsn 26 rfl (fun aX => ?_) fun aX => ?_)))
   ·
    exact gct rfl (gS (gR (gA rfl (gE (gRt (gLr aK aJ (gr1 results35 rfl ⟨rfl, hm.below⟩)))))))
   exact gcf rfl (gSk (gR (gM rfl (gP (by omega) (by omega) rfl (gA rfl (gE (gze hm [] rfl)))))))
  repeat clear hm
  intro ao ap w hm aq ar
  exact gS (gS (gR (gM rfl (gM rfl (gY (yV st_26 rfl) (gB rfl (gE (go _ 14 rfl (decide_eq_false (by omega)) (gcf rfl (gXt (gHh (gS (gR (gA rfl (gE (gRt (gr1 results35 rfl ⟨rfl, hm.below⟩)))))))))))))))))
theorem laws_eqUnit_ok (w0 : World) (a_ : Unit_) (v1 : Value) (h1 : GT.rep (hp w0) [v1] a_.codes) (b_ : Unit_) (v2 : Value) (h2 : GT.rep (hp w0) [v2] b_.codes) :
    ConM Tryz.prog 13 [(.agg #[v1]), (.agg #[v2])] w0 (laws_eqUnit a_ b_) fun r v w' => v = (.bool (r)) ∧ Below w0.heap.size w0 w' := by
  unfold laws_eqUnit
  refine gcon func13 rfl fun r => ?_
  have hm := Mem.start w0
  refine gS (gR (gBx hm rfl fun aB w hm => gBx hm rfl fun aC w hm => gA rfl (gE (gS (gS (gR (gF fo_28_0 rfl (gL hm 1 isAgg26 rfl (gF fo_28_0 rfl (gL hm 0 isAgg26 rfl (gC hm rfl call35 (laws_eqCodeS_ok _ a_.codes v1 (hm.now h1) b_.codes v2 (hm.now h2)) fun aD aE w hm => gN rfl (gE (gsn 10 rfl (fun aA => ?_) fun aA => ?_)))))))))))))
  ·
   exact gct rfl (gS (gR (gA rfl (gE (gRt (gr1 results13 rfl ⟨rfl, hm.below⟩))))))
  exact gcf rfl (gSk (gS (gR (gA rfl (gE (gRt (gr1 results13 rfl ⟨rfl, hm.below⟩)))))))
theorem spec_l5Truth_ok (w0 : World) (is : Bool) :
    ConM Tryz.prog 54 [(.bool (is))] w0 (spec_l5Truth is) fun r v w' => v = (nV r) ∧ Below w0.heap.size w0 w' := by
  unfold spec_l5Truth
  refine gcon func54 rfl fun r => ?_
  have hm := Mem.start w0
  refine gS (gR (gA rfl (gE (gS (gS (gR (gM rfl (gE (gs 3 rfl (fun aA => ?_) fun aA => ?_)))))))))
  ·
   exact gct rfl (gS (gR (gA rfl (gE (gRt (gr1 results54 rfl ⟨rfl, hm.below⟩))))))
  exact gcf rfl (gSk (gS (gR (gA rfl (gE (gRt (gr1 results54 rfl ⟨rfl, hm.below⟩)))))))
theorem spec_HoistCount_ok (w0 : World) (u : Unit_) (v1 : Value) (h1 : GT.rep (hp w0) [v1] u.codes) :
    ConM Tryz.prog 20 [(.agg #[v1])] w0 (spec_HoistCount u) fun r v w' => v = (nV r) ∧ Below w0.heap.size w0 w' := by
  unfold spec_HoistCount
  refine gcon func20 rfl fun r => ?_
  have hm := Mem.start w0
  refine gS (gR (gBx hm rfl fun aC w hm => gA rfl (gE (gS (gR (gY (yn (hm.blk_at 0 rfl) isAgg28 sizeOf28 rfl) (gCg rfl call22 (spec_HoistUnit_ok _ u v1 (hm.now h1)) ?_)))))))
  rintro aA bm bo w ⟨bp, rfl, hB⟩
  replace hm := hm.give hB; clear hB
  refine gM rfl (gX rfl (gX rfl (gAl hm zeroValue28 rfl fun aD w hm => gSN hm 0 sizeOf28 (one_cons (rep_one (hm.ow_rep 1 rfl)) one_nil) rfl fun w hm => gA rfl (gE (gS (gS (gR (gM rfl (gN rfl (gE (gsn 16 rfl (fun bC => ?_) fun bC => ?_)))))))))))
  ·
   exact gct rfl (gS (gR (gA rfl (gE (gRt (gr1 results20 rfl ⟨rfl, hm.below⟩))))))
  refine gcf rfl (gSk (gS (gR (gA rfl (gE (gS (gS (gR (gA rfl (gE ?_))))))))))
  obtain ⟨aR, aB, rfl, bq⟩ := ro_slice (hm.ow_rep 1 rfl)
  refine gBk (gNg (fun aS ao a w => ∃ (aX : Heap), Heap.le (hp w0) aX ∧ St 71 [(1, (pV aC)), (3, (pV aD)), (5, (nV ao)), (6, (nV aS))] w0 aX [blk aC [v1] 28, blk aD [(.slice aR aA.1.codes.length aB)] 28, ow [(.slice aR aA.1.codes.length aB)] aA.1.codes] a w) (fun a hf => ⟨(hp w0), (Heap.le_refl _), hf.sb rfl, hm.pk [2, 0, 1] rfl rfl⟩) ?_ ?_)
  ·
   repeat clear hm
   rintro _ _ aS ao a w ⟨aX, aY, hf, hm⟩ br bs bt _
   refine gv hf (gS (gS (gR (gM rfl (gF fo_28_0 rfl (gL hm 0 isAgg26 rfl ?_))))))
   obtain ⟨bu, aJ, rfl, bv⟩ := ro_slice h1
   refine gY (yV st_26 rfl) (gB rfl (gE (go _ 21 rfl (decide_eq_true (by omega)) (gct rfl (gSk (gS (gBk (gS (gR (gF fo_28_0 rfl (gL hm 0 isAgg26 rfl (gM rfl (gg fun bD bE aZ => ?_)))))))))))))
   obtain ⟨aK, aL, bw, he⟩ := idx_form' h1 aZ
   obtain ⟨rfl, _, rfl⟩ := sl3 he
   obtain ⟨bF, bG, bH⟩ := rk_Code_ h1 aZ
   refine gI st_26 bE (idx_lt aZ) rfl (gY (yn (bG.mono (Heap.le_trans aY hm.lez)) isAgg44 sizeOf44 rfl) (gCg rfl call53 (spec_l13Sets_ok _ bD bF (hm.now (GT.mono aY bH))) ?_))
   rintro ap bx aq w ⟨_, rfl, hB⟩
   replace hm := hm.give hB; clear hB
   obtain ⟨aM, bJ, hz_r1_1, hmf⟩ := hm.freeze 0 rfl
   replace hm := hmf.pk (L' := [blk aC [(sV aK aL u.codes.length aJ)] 28, blk aD [(.slice aR aA.1.codes.length aB)] 28, ow [(.slice aR aA.1.codes.length aB)] aA.1.codes]) [1, 2, 3] rfl rfl
   clear hmf
   replace hz_r1_1 : GT.rep aM [aq] ap := fz_ow hz_r1_1
   refine gA rfl (gE (gS (gR (gF fo_28_0 rfl (gL hm 1 isAgg26 rfl (gM rfl (gg fun aa bK ab => ?_)))))))
   obtain ⟨aE, aF, bz, he⟩ := idx_form' (hm.ow_rep 2 rfl) ab
   obtain ⟨rfl, _, rfl⟩ := sl3 he
   obtain ⟨ar, bL, bM⟩ := rk_Code_ (hm.ow_rep 2 rfl) ab
   refine gI st_26 bK (idx_lt ab) rfl (gY (yG rfl (y_loadN (cs := [(nV aa.params), (nV aa.regs), ar]) isAgg44 sizeOf44 rfl rfl bL)) (gCg rfl call53 (spec_l13Sets_ok _ aa ar bM) ?_))
   rintro bN cA ac w ⟨_, rfl, hB⟩
   replace hm := hm.give hB; clear hB
   obtain ⟨aG, aN, hz_r1_2, hmf⟩ := hm.freeze 0 rfl
   replace hm := hmf.pk (L' := [blk aC [(sV aK aL u.codes.length aJ)] 28, blk aD [(sV aE aF aA.1.codes.length aB)] 28, ow [(sV aE aF aA.1.codes.length aB)] aA.1.codes]) [1, 2, 3] rfl rfl
   clear hmf
   replace hz_r1_2 : GT.rep aG [ac] bN := fz_ow hz_r1_2
   refine gA rfl (gE (gS (gR (gA rfl (gE (gBk (gNf hm (fun aH ae => [(1, (pV aC)), (3, (pV aD)), (5, (nV ae)), (6, (nV aS)), (7, aq), (8, ac), (9, (nV aH))]) (fun aH ae => [blk aC [(sV aK aL u.codes.length aJ)] 28, blk aD [(sV aE aF aA.1.codes.length aB)] 28, ow [(sV aE aF aA.1.codes.length aB)] aA.1.codes]) [0, 1, 2] rfl ?_ ?_)))))))
   ·
    repeat clear hm
    intro _ _ aH ae w hm cB cC cD _
    refine gS (gS (gR (gM rfl (gM rfl ?_))))
    obtain ⟨bO, bP, rfl, cE⟩ := ro_slice hz_r1_1
    refine gY (yV st_70 rfl) (gB rfl (gE (go _ 39 rfl (decide_eq_true (by omega)) (gct rfl (gSk (gS (gBk (gJ hm (fun aT => [(1, (pV aC)), (3, (pV aD)), (5, (nV aT)), (6, (nV aS)), (7, (.slice bO ap.length bP)), (8, ac), (9, (nV aH))]) (fun aT => [blk aC [(sV aK aL u.codes.length aJ)] 28, blk aD [(sV aE aF aA.1.codes.length aB)] 28, ow [(sV aE aF aA.1.codes.length aB)] aA.1.codes]) (fun aT => ?_) ?_))))))))
    ·
     refine gW (.p 0 (.p 1 (.p 2 (.p 3 (.e 4 (.p 5 (.p 6 (.p 7 (.p 8 (.p 9 (.p 10 (.p 16 (.p 17 (.p 18 (.q 11 (.p 12 (.q 13 (.p 14 (.q 15 (.e 19 (.p 20 (.e 21 (.p 22 (.e 23 (.p 24 (.p 25 (.e 26 (.p 27 (.p 28 .fin)) .nil))) .nil)) .nil)) .nil))))))))))))))) .nil))))) [19, 21, 23] [0, 1, 2, 3, 5, 6, 7, 8, 9, 10, 12, 14, 16, 17, 18, 20, 22, 24, 25, 27, 28] hm [0, 1, 2] [blk aC [(sV aK aL u.codes.length aJ)] 28, blk aD [(sV aE aF aA.1.codes.length aB)] 28, ow [(sV aE aF aA.1.codes.length aB)] aA.1.codes] rfl mxo (by kernel_rfl) (fun _ _ _ h => h.2) fun w hm hS => tP rfl (fun w => yM rfl) (tP rfl (fun w => yM rfl) (tP rfl (fun w => yM rfl) (gg fun bQ au aV => ?_)))
     obtain ⟨bR, bS, cF, he⟩ := idx_form' hz_r1_1 aV
     obtain ⟨rfl, _, rfl⟩ := sl3 he
     obtain ⟨_, _, aW, bT⟩ := ro_get' hz_r1_1 aV
     have aI := bT
     obtain ⟨aw, rfl, -⟩ := id aI
     replace aI : GT.rep aM [aw] bQ := aI
     replace aW : CellsAt aM bR (bS + (aH).toNat * 1) [aw] := aW
     refine tP rfl (fun w => yI st_70 au (idx_lt aV) rfl) (tO (tY rfl (yl isAgg64 ((aW.mono (Heap.le_trans aN hm.lez)).cell (j := 0) rfl) rfl) (tAn rfl ?_)))
     obtain ⟨cG, cH, rfl, cI⟩ := ro_slice aI
     refine tP rfl (fun w => yV st_64 rfl) (tP rfl (fun w => yB rfl) (tP rfl (fun w => yM rfl) (gsd 49 rfl (fun bU => ?_) fun bU => ?_)))
     ·
      refine tP rfl (fun w => yM rfl) (tP rfl (fun w => yM rfl) (tP rfl (fun w => yI st_70 au (idx_lt aV) rfl) (tP rfl (fun w => yM rfl) (tP rfl (fun w => yM rfl) (gg fun bV bW af => ?_)))))
      obtain ⟨bX, bY, cJ, he⟩ := idx_form' hz_r1_2 af
      subst he
      obtain ⟨_, _, ag, bZ⟩ := ro_get' hz_r1_2 af
      have aO := bZ
      obtain ⟨ax, rfl, -⟩ := id aO
      replace aO : GT.rep aG [ax] bV := aO
      replace ag : CellsAt aG bX (bY + (aH).toNat * 1) [ax] := ag
      refine tP rfl (fun w => yI st_70 bW (idx_lt af) rfl) (tQ rfl hS (fun w hm => yl isAgg64 ((aW.mono (Heap.le_trans aN hm.lez)).cell (j := 0) rfl) rfl) (gg fun b7 b8 ah => ?_))
      obtain ⟨b9, ba, cK, he⟩ := idx_form' aI ah
      obtain ⟨rfl, _, rfl⟩ := sl3 he
      obtain ⟨_, _, ai, bb⟩ := ro_get' aI ah
      have aP := bb
      obtain ⟨ay, rfl, -⟩ := id aP
      replace aP : GT.rep aM [ay] b7 := aP
      replace ai : CellsAt aM b9 (ba + (0 : Int).toNat * 1) [ay] := ai
      refine tP rfl (fun w => yI st_64 b8 (idx_lt ah) rfl) (tQ rfl hS (fun w hm => yl isAgg57 ((ai.mono (Heap.le_trans aN hm.lez)).cell (j := 0) rfl) rfl) (gg fun az bc aj => ?_))
      obtain ⟨cL, cM, cN, he⟩ := idx_form aP aj
      subst he
      refine tP rfl (fun w => yI st_57 bc (idx_lt aj) rfl) (tQ rfl hS (fun w hm => yl isAgg3 ((flat_cells (cs := [(nV az)]) (hm.now (GT.mono aN aP)) aj rfl).cell (j := 0) rfl) rfl) (tO (tY rfl (yl isAgg64 ((ag.mono hm.lez).cell (j := 0) rfl) rfl) (tAs hS (gg fun bd be ak => ?_)))))
      obtain ⟨bf, bg, cO, he⟩ := idx_form' aO ak
      subst he
      obtain ⟨_, _, am, bh⟩ := ro_get' aO ak
      have aQ := bh
      obtain ⟨bA, rfl, -⟩ := id aQ
      replace aQ : GT.rep aG [bA] bd := aQ
      replace am : CellsAt aG bf (bg + (0 : Int).toNat * 1) [bA] := am
      refine tP rfl (fun w => yI st_64 be (idx_lt ak) rfl) (tO (tY rfl (yl isAgg57 ((am.mono hm.lez).cell (j := 0) rfl) rfl) (tAs hS (gg fun bB bi an => ?_))))
      obtain ⟨cP, cQ, cR, he⟩ := idx_form aQ an
      subst he
      refine tP rfl (fun w => yI st_57 bi (idx_lt an) rfl) (tO (tY rfl (yl isAgg3 ((flat_cells (cs := [(nV bB)]) (hm.now aQ) an rfl).cell (j := 0) rfl) rfl) (tAs hS (tP rfl (fun w => yB rfl) (tP rfl (fun w => yKt rfl) (tO (gb fun cS bj => tf rfl rfl (fun a hf => e_call hf rfl call54 rfl (spec_l5Truth_ok _ (decide (az ≠ bB)) _ bj)) ?_)))))))
      rintro cT w ⟨rfl, hB⟩
      replace hm := hm.below' hB; clear hB
      exact tAn rfl (tP rfl (fun w => yB rfl) (tP rfl (fun w => yA rfl) (tE (gz hm [0, 1, 2] rfl))))
     refine tPo rfl rfl (tPo rfl rfl (tPo rfl rfl (tPo rfl rfl (tPo rfl rfl (tPo rfl rfl (tQo rfl hS rfl (tPo rfl rfl (tQo rfl hS rfl (tPo rfl rfl (tQo rfl hS rfl (tO (tEo rfl rfl (tAs hS (tPo rfl rfl (tO (tEo rfl rfl (tAs hS (tPo rfl rfl (tO (tEo rfl rfl (tAs hS (tPo rfl rfl (tP rfl (fun w => yKf rfl) (tO (gb fun cU bk => tf rfl rfl (fun a hf => e_call hf rfl call54 rfl (spec_l5Truth_ok _ false _ bk)) ?_)))))))))))))))))))))))))
     rintro cV w ⟨rfl, hB⟩
     replace hm := hm.below' hB; clear hB
     exact tAn rfl (tP rfl (fun w => yB rfl) (tP rfl (fun w => yA rfl) (tE (gz hm [0, 1, 2] rfl))))
    repeat clear hm
    intro aT w hm
    exact gR (gM rfl (gP (by omega) (by omega) rfl (gA rfl (gE (gze hm [0, 1, 2] rfl)))))
   repeat clear hm
   intro cW cX w hm cY cZ
   refine gS (gS (gR (gM rfl (gM rfl ?_))))
   obtain ⟨c7, c8, rfl, c9⟩ := ro_slice hz_r1_1
   exact gY (yV st_70 rfl) (gB rfl (gE (go _ 39 rfl (decide_eq_false (by omega)) (gcf rfl (gXt (gHh (gR (gM rfl (gP (by omega) (by omega) rfl (gA rfl (gE (gZe fun a hf => ⟨aG, (Heap.le_trans (Heap.le_trans aY bJ) aN), hf.sb rfl, hm.pk [0, 1, 2] rfl rfl⟩))))))))))))
  repeat clear hm
  rintro ca cb a w ⟨cc, bl, hf, hm⟩ cd ce
  refine gv hf (gS (gS (gR (gM rfl (gF fo_28_0 rfl (gL hm 0 isAgg26 rfl ?_))))))
  obtain ⟨cf, cg, rfl, ci⟩ := ro_slice h1
  refine gY (yV st_26 rfl) (gB rfl (gE (go _ 21 rfl (decide_eq_false (by omega)) (gcf rfl (gXt (gHh (gS (gR (gM rfl (gA rfl (gE (gRt ?_))))))))))))
  replace hm := hm.thaw bl
  exact gr1 results20 rfl ⟨rfl, hm.below⟩
theorem impl_HoistCount_ok (w0 : World) (u : Unit_) (v1 : Value) (h1 : GT.rep (hp w0) [v1] u.codes) :
    ConM Tryz.prog 21 [(.agg #[v1])] w0 (impl_HoistCount u) fun r v w' => v = (nV r) ∧ Below w0.heap.size w0 w' := by
  unfold impl_HoistCount
  refine gcon func21 rfl fun r => ?_
  have hm := Mem.start w0
  refine gS (gR (gBx hm rfl fun bd w hm => gA rfl (gE (gS (gR (gY (yn (hm.blk_at 0 rfl) isAgg28 sizeOf28 rfl) (gCg rfl call23 (impl_HoistUnit_ok _ u v1 (hm.now h1)) ?_)))))))
  rintro aA be bf w ⟨bg, rfl, hB⟩
  replace hm := hm.give hB; clear hB
  refine gM rfl (gX rfl (gX rfl (gAl hm zeroValue28 rfl fun aH w hm => gSN hm 0 sizeOf28 (one_cons (rep_one (hm.ow_rep 1 rfl)) one_nil) rfl fun w hm => gA rfl (gE (gS (gS (gR (gM rfl (gN rfl (gE (gsn 17 rfl (fun bL => ?_) fun bL => ?_)))))))))))
  ·
   exact gct rfl (gS (gR (gA rfl (gE (gRt (gr1 results21 rfl ⟨rfl, hm.below⟩))))))
  refine gcf rfl (gSk (gS (gR (gA rfl (gE (gS (gS (gR (gF fo_28_0 rfl (gL hm 2 isAgg26 rfl ?_))))))))))
  obtain ⟨bM, aX, rfl, bh⟩ := ro_slice h1
  refine gY (yV st_26 rfl) (gM rfl (gE ?_))
  obtain ⟨bA, aC, rfl, bi⟩ := ro_slice (hm.ow_rep 1 rfl)
  refine gBk (gNf hm (fun aP ap => [(3, (pV aH)), (5, (nV ap)), (19, (.slice bM u.codes.length aX)), (20, (nV ((u.codes.length : Int)))), (21, (nV aP))]) (fun aP ap => [blk aH [(.slice bA aA.1.codes.length aC)] 28, ow [(.slice bA aA.1.codes.length aC)] aA.1.codes]) [0, 1] rfl ?_ ?_)
  ·
   repeat clear hm
   intro _ _ aP ap w hm bj bk bl _
   refine gS (gR (gB rfl (gE (gS (go _ 22 rfl (decide_eq_true (by omega)) (gct rfl (gSk (gS (gBk (gS (gR (gM rfl (gg fun aY bN aq => ?_)))))))))))))
   obtain ⟨af, ag, bm, he⟩ := idx_form' h1 aq
   obtain ⟨rfl, _, rfl⟩ := sl3 he
   obtain ⟨ar, bO, bB⟩ := rk_Code_ h1 aq
   refine gI st_26 bN (idx_lt aq) rfl (gY (yn (bO.mono hm.lez) isAgg44 sizeOf44 rfl) (gAl hm zeroValue44 rfl fun bC w hm => gA rfl (gSN hm 0 sizeOf44 (one_cons rfl (one_cons rfl (one_cons (rep_one bB) one_nil))) rfl fun w hm => gE (gS (gR (gF fo_28_0 rfl (gL hm 1 isAgg26 rfl (gM rfl (gg fun aO bP aZ => ?_)))))))))
   obtain ⟨aD, aE, bo, he⟩ := idx_form' (hm.ow_rep 2 rfl) aZ
   obtain ⟨rfl, _, rfl⟩ := sl3 he
   obtain ⟨bp, bq, br⟩ := rk_Code_ (hm.ow_rep 2 rfl) aZ
   refine gI st_26 bP (idx_lt aZ) rfl ?_
   obtain ⟨au, hm⟩ := pin_Code_ hm 2 rfl aZ
   refine gY (yn (hm.holeE_at 3 rfl) isAgg44 sizeOf44 rfl) (gCg rfl call55 (impl_placesOf_ok _ aO au (hm.ow_rep 0 rfl)) ?_)
   rintro aF bs bD w ⟨_, rfl, hB⟩
   replace hm := hm.give hB; clear hB
   refine gA rfl (gE (gS ?_))
   replace hm : Mem w0 (hp w0) _ [ow [bD] aF, ow [(nV aO.params), (nV aO.regs), au] (aO : Code_), blk bC [(nV aY.params), (nV aY.regs), ar] 44, blk aH [(sV aD aE aA.1.codes.length aC)] 28, holeE aD aE aA.1.codes.length aC (aA.1.codes : List Code_) (aP).toNat [(nV aO.params), (nV aO.regs), au]] := mk_Code_ aO.params aO.regs hm 1 rfl
   replace hm := (hm.shutE (y := (aO : Code_)) 4 1 (by decide) rfl rfl).pk (L' := [ow [bD] aF, blk bC [(nV aY.params), (nV aY.regs), ar] 44, blk aH [(sV aD aE aA.1.codes.length aC)] 28, ow [(sV aD aE aA.1.codes.length aC)] (aA.1.codes.set (aP).toNat aO)]) [0, 2, 3, 4] rfl rfl
   rw [set_same aZ] at hm
   refine gR (gY (yn (hm.blk_at 1 rfl) isAgg44 sizeOf44 rfl) (gCg rfl call55 (impl_placesOf_ok _ aY ar (hm.now bB)) ?_))
   rintro aB bt bu w ⟨_, rfl, hB⟩
   replace hm := hm.give hB; clear hB
   obtain ⟨ah, aJ, rfl, bv⟩ := ro_slice (hm.ow_rep 0 rfl)
   refine gY (yV st_73 rfl) (gM rfl (gE ?_))
   obtain ⟨aN, aK, rfl, bw⟩ := ro_slice (hm.ow_rep 1 rfl)
   refine gBk (gNf hm (fun aI ai => [(3, (pV aH)), (5, (nV ai)), (8, (.slice aN aF.length aK)), (19, (sV af ag u.codes.length aX)), (20, (nV ((u.codes.length : Int)))), (21, (nV aP)), (33, (.slice ah aB.length aJ)), (34, (nV ((aB.length : Int)))), (35, (nV aI))]) (fun aI ai => [blk aH [(sV aD aE aA.1.codes.length aC)] 28, ow [(sV aD aE aA.1.codes.length aC)] aA.1.codes, ow [(.slice aN aF.length aK)] aF, ow [(.slice ah aB.length aJ)] aB]) [3, 4, 1, 0] rfl ?_ ?_)
   ·
    repeat clear hm
    intro _ _ aI ai w hm bx bz cA _
    refine gS (gR (gB rfl (gE (gS (go _ 36 rfl (decide_eq_true (by omega)) (gct rfl (gSk (gS (gJ hm (fun aj => [(3, (pV aH)), (5, (nV aj)), (8, (.slice aN aF.length aK)), (19, (sV af ag u.codes.length aX)), (20, (nV ((u.codes.length : Int)))), (21, (nV aP)), (33, (.slice ah aB.length aJ)), (34, (nV ((aB.length : Int)))), (35, (nV aI))]) (fun aj => [blk aH [(sV aD aE aA.1.codes.length aC)] 28, ow [(sV aD aE aA.1.codes.length aC)] aA.1.codes, ow [(.slice aN aF.length aK)] aF, ow [(.slice ah aB.length aJ)] aB]) (fun aj => ?_) ?_)))))))))
    ·
     refine gBk (gS (gR (gM rfl (gg fun aG bQ aW => ?_))))
     obtain ⟨aL, aM, cB, he⟩ := idx_form' (hm.ow_rep 3 rfl) aW
     obtain ⟨rfl, _, rfl⟩ := sl3 he
     obtain ⟨_, _, bE, bR⟩ := ro_get' (hm.ow_rep 3 rfl) aW
     have aw := bR
     obtain ⟨bF, rfl, -⟩ := id aw
     replace aw : GT.rep (hp _) [bF] aG := aw
     replace bE : CellsAt (hp _) aL (aM + (aI).toNat * 1) [bF] := bE
     refine gI st_73 bQ (idx_lt aW) rfl ?_
     obtain ⟨_, bS, hm⟩ := hm.openE 3 rfl aW
     have bT := hm.ow_rep 0 rfl
     have ak := bT
     obtain ⟨aS, rfl, -⟩ := id ak
     replace ak : GT.rep (hp _) [aS] aG := ak
     clear bS ak
     replace hm : Mem w0 (hp w0) _ [ow [aS] (aG : List place), blk aH [(sV aD aE aA.1.codes.length aC)] 28, ow [(sV aD aE aA.1.codes.length aC)] aA.1.codes, ow [(.slice aN aF.length aK)] aF, holeE aL aM aB.length aJ (aB : List (List place)) (aI).toNat [aS]] := hm
     replace hm := hm.pk (L' := [ow [aS] aG, blk aH [(sV aD aE aA.1.codes.length aC)] 28, ow [(sV aD aE aA.1.codes.length aC)] aA.1.codes, ow [(.slice aN aF.length aK)] aF, holeE aL aM aB.length aJ (aB : List (List place)) (aI).toNat [aS]]) [0, 1, 2, 3, 4] rfl rfl
     refine gY (yl isAgg75 ((hm.holeE_at 4 rfl).cell (j := 0) rfl) rfl) (gA rfl (gA rfl (gE (gS (gJ hm (fun am => [(3, (pV aH)), (5, (nV ai)), (8, (.slice aN aF.length aK)), (19, (sV af ag u.codes.length aX)), (20, (nV ((u.codes.length : Int)))), (21, (nV aP)), (33, (sV aL aM aB.length aJ)), (34, (nV ((aB.length : Int)))), (35, (nV aI)), (56, (.bool (am)))]) (fun am => [blk aH [(sV aD aE aA.1.codes.length aC)] 28, ow [(sV aD aE aA.1.codes.length aC)] aA.1.codes, ow [(.slice aN aF.length aK)] aF, ow [(sV aL aM aB.length aJ)] aB]) (fun am => ?_) ?_)))))
     ·
      refine gW (.p 0 (.p 1 (.p 2 (.p 3 (.p 4 (.p 5 (.p 6 (.p 8 (.p 9 (.p 10 (.q 7 (.e 11 (.p 12 (.p 13 (.e 14 (.p 15 (.p 16 .fin)) .nil))) .nil)))))))))))) [11, 14] [0, 1, 2, 3, 4, 5, 6, 8, 9, 10, 12, 13, 15, 16] hm [0, 1, 2, 4] [ow [aS] aG, blk aH [(sV aD aE aA.1.codes.length aC)] 28, ow [(sV aD aE aA.1.codes.length aC)] aA.1.codes, holeE aL aM aB.length aJ (aB : List (List place)) (aI).toNat [aS]] rfl mxo (by kernel_rfl) (fun _ _ _ h => h.2) fun w hm hS => tP rfl (fun w => yM rfl) ?_
      obtain ⟨bU, aQ, rfl, cC⟩ := ro_slice (hm.ow_rep 0 rfl)
      refine tP rfl (fun w => yV st_75 rfl) (tP rfl (fun w => yB rfl) (tP rfl (fun w => yM rfl) (gsd 43 rfl (fun bV => ?_) fun bV => ?_)))
      ·
       refine tP rfl (fun w => yM rfl) (gg fun bG bW ax => ?_)
       obtain ⟨aT, aV, cD, he⟩ := idx_form (hm.ow_rep 0 rfl) ax
       obtain ⟨rfl, _, rfl⟩ := sl3 he
       refine tP rfl (fun w => yI st_75 bW (idx_lt ax) rfl) (tP rfl (fun w => yF fo_77_0 rfl) (tP rfl (fun w => yM rfl) (tP rfl (fun w => yM rfl) (gg fun aR bX aa => ?_))))
       obtain ⟨ab, ac, cE, he⟩ := idx_form' (hm.ow_rep 3 rfl) aa
       obtain ⟨rfl, _, rfl⟩ := sl3 he
       obtain ⟨_, _, bH, bY⟩ := ro_get' (hm.ow_rep 3 rfl) aa
       have ay := bY
       obtain ⟨bJ, rfl, -⟩ := id ay
       replace ay : GT.rep (hp _) [bJ] aR := ay
       replace bH : CellsAt (hp _) ab (ac + (aI).toNat * 1) [bJ] := bH
       refine tP rfl (fun w => yI st_73 bX (idx_lt aa) rfl) (tQ rfl hS (fun w hm => yl isAgg3 ((flat_cells (cs := [(nV bG.block), (nV bG.ins)]) (hm.ow_rep 0 rfl) ax rfl).cell (j := 0) rfl) rfl) (tO ?_))
       obtain ⟨_, bZ, hm⟩ := hm.openE 3 rfl aa
       have b7 := hm.ow_rep 0 rfl
       have an := b7
       obtain ⟨ae, rfl, -⟩ := id an
       replace an : GT.rep (hp _) [ae] aR := an
       clear bZ an
       replace hm : Mem w0 (hp w0) _ [ow [ae] (aR : List place), ow [(sV aT aV aG.length aQ)] aG, blk aH [(sV aD aE aA.1.codes.length aC)] 28, ow [(sV aD aE aA.1.codes.length aC)] aA.1.codes, holeE ab ac aF.length aK (aF : List (List place)) (aI).toNat [ae], holeE aL aM aB.length aJ (aB : List (List place)) (aI).toNat [(sV aT aV aG.length aQ)]] := hm
       replace hm := hm.pk (L' := [ow [ae] aR, ow [(sV aT aV aG.length aQ)] aG, blk aH [(sV aD aE aA.1.codes.length aC)] 28, ow [(sV aD aE aA.1.codes.length aC)] aA.1.codes, holeE ab ac aF.length aK (aF : List (List place)) (aI).toNat [ae], holeE aL aM aB.length aJ (aB : List (List place)) (aI).toNat [(sV aT aV aG.length aQ)]]) [0, 1, 2, 3, 4, 5] rfl rfl
       refine tY rfl (yl isAgg75 ((hm.holeE_at 4 rfl).cell (j := 0) rfl) rfl) (tAk hm [1, 2, 3, 5] rfl fun hS => gg fun bK b8 az => ?_)
       obtain ⟨b9, ba, bb, he⟩ := idx_form (hm.ow_rep 0 rfl) az
       subst he
       refine tP rfl (fun w => yI st_75 b8 (idx_lt az) rfl) (tP rfl (fun w => yF fo_77_0 rfl) (tO (tY rfl (yl isAgg3 ((flat_cells (cs := [(nV bK.block), (nV bK.ins)]) (hm.ow_rep 0 rfl) az rfl).cell (j := 0) rfl) rfl) (tAs hS (tP rfl (fun w => yB rfl) (tP rfl (fun w => yKt rfl) (tE ?_)))))))
       replace hm := hm.imp (c' := ow [(sV b9 ba aR.length bb)] (aR : List place)) 0 rfl (fun F h0 => h0)
       replace hm := (hm.shutE (y := (aR : List place)) 4 0 (by decide) rfl rfl).pk (L' := [ow [(sV aT aV aG.length aQ)] aG, blk aH [(sV aD aE aA.1.codes.length aC)] 28, ow [(sV aD aE aA.1.codes.length aC)] aA.1.codes, ow [(sV ab ac aF.length aK)] (aF.set (aI).toNat aR), holeE aL aM aB.length aJ (aB : List (List place)) (aI).toNat [(sV aT aV aG.length aQ)]]) [1, 2, 3, 4, 5] rfl rfl
       rw [set_same aa] at hm
       replace hm := hm.imp (c' := ow [(sV aT aV aG.length aQ)] (aG : List place)) 0 rfl (fun F h0 => h0)
       replace hm := (hm.shutE (y := (aG : List place)) 4 0 (by decide) rfl rfl).pk (L' := [blk aH [(sV aD aE aA.1.codes.length aC)] 28, ow [(sV aD aE aA.1.codes.length aC)] aA.1.codes, ow [(sV ab ac aF.length aK)] aF, ow [(sV aL aM aB.length aJ)] (aB.set (aI).toNat aG)]) [1, 2, 3, 4] rfl rfl
       rw [set_same aW] at hm
       exact gz hm [0, 1, 2, 3] rfl
      refine tPo rfl rfl (tPo rfl rfl (tPo rfl rfl (tPo rfl rfl (tPo rfl rfl (tPo rfl rfl (tQo rfl hS rfl (tO (tEo rfl rfl (tAs hS (tPo rfl rfl (tPo rfl rfl (tO (tEo rfl rfl (tAs hS (tPo rfl rfl (tP rfl (fun w => yKf rfl) (tE ?_)))))))))))))))))
      replace hm := hm.imp (c' := ow [(.slice bU aG.length aQ)] (aG : List place)) 0 rfl (fun F h0 => h0)
      replace hm := (hm.shutE (y := (aG : List place)) 4 0 (by decide) rfl rfl).pk (L' := [blk aH [(sV aD aE aA.1.codes.length aC)] 28, ow [(sV aD aE aA.1.codes.length aC)] aA.1.codes, ow [(.slice aN aF.length aK)] aF, ow [(sV aL aM aB.length aJ)] (aB.set (aI).toNat aG)]) [1, 2, 3, 4] rfl rfl
      rw [set_same aW] at hm
      exact gz hm [0, 1, 2, 3] rfl
     repeat clear hm
     intro am w hm
     refine gJ hm (fun ao => [(3, (pV aH)), (5, (nV ao)), (8, (.slice aN aF.length aK)), (19, (sV af ag u.codes.length aX)), (20, (nV ((u.codes.length : Int)))), (21, (nV aP)), (33, (sV aL aM aB.length aJ)), (34, (nV ((aB.length : Int)))), (35, (nV aI))]) (fun ao => [blk aH [(sV aD aE aA.1.codes.length aC)] 28, ow [(sV aD aE aA.1.codes.length aC)] aA.1.codes, ow [(.slice aN aF.length aK)] aF, ow [(sV aL aM aB.length aJ)] aB]) (fun ao => ?_) ?_
     ·
      refine gs 56 rfl (fun bc => ?_) fun bc => ?_
      ·
       exact gct rfl (gR (gM rfl (gB rfl (gA rfl (gE (gz hm [0, 1, 2, 3] rfl))))))
      exact gcf rfl (gSk (gz hm [0, 1, 2, 3] rfl))
     repeat clear hm
     intro ao w hm
     exact gz hm [0, 1, 2, 3] rfl
    repeat clear hm
    intro aj w hm
    exact gR (gP (by omega) (by omega) rfl (gM rfl (gE (gze hm [0, 1, 2, 3] rfl))))
   repeat clear hm
   intro cF cG w hm cH cI
   exact gS (gR (gB rfl (gE (gS (go _ 36 rfl (decide_eq_false (by omega)) (gcf rfl (gXt (gHh (gR (gP (by omega) (by omega) rfl (gM rfl (gE (gze hm [0, 1] rfl)))))))))))))
  repeat clear hm
  intro cJ cK w hm cL cM
  exact gS (gR (gB rfl (gE (gS (go _ 22 rfl (decide_eq_false (by omega)) (gcf rfl (gXt (gHh (gS (gR (gM rfl (gA rfl (gE (gRt (gr1 results21 rfl ⟨rfl, hm.below⟩)))))))))))))))
theorem laws_FnExactHoistCount_ok (w0 : World) (aU : Unit_) (v1 : Value) (h1 : GT.rep (hp w0) [v1] aU.codes) :
    ConM Tryz.prog 6 [(.agg #[v1])] w0 (laws_FnExactHoistCount aU) fun r v w' => v = (.bool (r)) ∧ Below w0.heap.size w0 w' := by
  unfold laws_FnExactHoistCount
  refine gcon func6 rfl fun r => ?_
  have hm := Mem.start w0
  refine gS (gR (gBx hm rfl fun aE w hm => gA rfl (gE (gS (gR (gA rfl (gE (gS (gR (gY (yn (hm.blk_at 0 rfl) isAgg24 sizeOf24 rfl) (gM rfl (gC hm rfl call9 (laws_szUnit_ok _ aU v1 (hm.now h1) 1048576) fun aN aO w hm => gA rfl (gE (gS (gS (gR (gM rfl (gB rfl (gE (gsd 11 rfl (fun aF => ?_) fun aF => ?_))))))))))))))))))))
  ·
   exact gct rfl (gS (gR (gA rfl (gE (gRt (gr1 results6 rfl ⟨rfl, hm.below⟩))))))
  refine gcf rfl (gSk (gS (gR (gY (yn (hm.blk_at 0 rfl) isAgg24 sizeOf24 rfl) (gCg rfl call11 (laws_toUnit_ok _ aU v1 (hm.now h1)) ?_)))))
  rintro aC aP aQ w ⟨aD, rfl, hB⟩
  replace hm := hm.give hB; clear hB
  refine gC hm rfl call20 (spec_HoistCount_ok _ aC aD (hm.ow_rep 0 rfl)) fun aR aS w hm => gA rfl (gE (gS (gR (gY (yn (hm.blk_at 1 rfl) isAgg24 sizeOf24 rfl) (gCg rfl call11 (laws_toUnit_ok _ aU v1 (hm.now h1)) ?_)))))
  rintro aB aT aV w ⟨aA, rfl, hB⟩
  replace hm := hm.give hB; clear hB
  refine gAl hm zeroValue28 rfl fun aG w hm => gSN hm 0 sizeOf28 (one_cons (rep_one (hm.ow_rep 1 rfl)) one_nil) rfl fun w hm => gE (gS (gR (gY (yn (hm.blk_at 0 rfl) isAgg28 sizeOf28 rfl) (gC hm rfl call21 (impl_HoistCount_ok _ aB aA (hm.ow_rep 1 rfl)) fun aW aX w hm => gA rfl (gE (gS (gS (gR (gM rfl (gM rfl (gB rfl (gE (gsd 21 rfl (fun aH => ?_) fun aH => ?_)))))))))))))
  ·
   exact gct rfl (gS (gR (gA rfl (gE (gRt (gr1 results6 rfl ⟨rfl, hm.below⟩))))))
  refine gcf rfl (gSk (gS (gS (gW (.q 0 (.e 1 (.e 2 (.e 3 (.p 4 .fin) .nil) .nil) .nil)) [1, 2] [4] hm [0, 1, 2, 3] [blk aG [aA] 28, ow [aA] aB.codes, ow [aD] aC.codes, blk aE [v1] 24] rfl mxo (by kernel_rfl) (fun _ _ _ h => h.2) fun w hm hS => tQ rfl hS (fun w hm => yn (hm.blk_at 0 rfl) isAgg28 sizeOf28 rfl) (tO (tY rfl (yn (hm.blk_at 3 rfl) isAgg24 sizeOf24 rfl) (tAs hS (tO (gb fun aI aJ => tf rfl rfl (fun a hf => e_call hf rfl call11 rfl (laws_toUnit_ok _ aU v1 (hm.now h1) _ aJ)) ?_)))))))))
  rintro aY w ⟨aK, rfl, hB⟩
  replace hm := hm.give hB; clear hB
  refine tAk hm [1, 2, 3, 4] rfl fun hS => tO (gb fun aZ aL => tf rfl rfl (fun a hf => e_call hf rfl call13 rfl (laws_eqUnit_ok _ aB aA (hm.ow_rep 2 rfl) aI aK (hm.ow_rep 0 rfl) _ aL)) ?_)
  rintro aa w ⟨rfl, hB⟩
  replace hm := hm.below' hB; clear hB
  refine tAn rfl (tP rfl (fun w => yN rfl) (tE (gsn 26 rfl (fun aM => ?_) fun aM => ?_)))
  ·
   exact gct rfl (gS (gR (gA rfl (gE (gRt (gr1 results6 rfl ⟨rfl, hm.below⟩))))))
  exact gcf rfl (gSk (gS (gR (gA rfl (gE (gRt (gr1 results6 rfl ⟨rfl, hm.below⟩)))))))
end Go.Proofs.YtcfdnpmajkhokaaGreat
